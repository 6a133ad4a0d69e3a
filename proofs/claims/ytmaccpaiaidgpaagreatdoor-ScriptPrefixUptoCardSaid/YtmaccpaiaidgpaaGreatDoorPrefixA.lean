/- ScriptPrefix, walked; its contract over the model; a start that fits exists. -/
import Derived.Test.YtmaccpaiaidgpaaGreatDoorOnlyL
import Derived.Test.YtmaccpaiaidgpaaGreatDoorSizA
import Derived.Test.YtmaccpaiaidgpaaGreatDoorScrA
import Derived.Test.YtmaccpaiaidgpaaGreatDoorImpS
import Derived.Test.YtmaccpaiaidgpaaGreatDoorRowZ
import Derived.Deep.DeepHandedRow
/- The law ScriptPrefix. -/
namespace Go.Proofs.YtmaccpaiaidgpaaGreatDoor
open Go Go.Mir
set_option maxRecDepth 10000
section
variable {h0 h : H} {S : Nat → Prop} {As : List Asn} {C : Ctx} {md : Option (List KD)} {all rest : List Oper} {K : List Fr} {N : Nat} {L : List (Nat × Value)} {Q : Out → Env → H → Prop} {d : Nat} {ty : TypeId} {pos : String} {aft : Array Edge} {g : Option (Nat × Bool)}

/-- Bytes of one's own, cut behind. -/
theorem st_cutB {t : TypeId} {x : Operand} {hi : Option Operand} {v : Value} {l : List UInt8} {i m : Nat} (s : St h0 S h As) (hi1 : nth As i = some (BufB v l)) (hm : m ≤ l.length) (h62 : l.length < 2 ^ 62) (k : ∀ v', Byt h v' (l.take m) → OW C (put md (.read h L v')) all rest K N ((d, v') :: L) h Q)
    (ht : elemSize C t = some 1 := by rfl) (hx : lookO L x = some v := by rfl) (hhi : optK L l.length hi = some m := by rfl) (hg : On all L g = true := by rfl) (hd : Nat.blt d N = true := by rfl) : OW C md all (⟨some d, .slice t x none hi none, ty, pos, aft, g⟩ :: rest) K N L h Q := by
  obtain ⟨K1, hl, hK⟩ := s.see i hi1
  rcases hK with ⟨hn, _, a, ha, rfl⟩ | ⟨b, rfl, _⟩
  · have hl0 : l = [] := List.eq_nil_of_length_eq_zero hn
    subst hl0
    have hm0 : m = 0 := by simpa using hm
    subst hm0
    refine ow_cut (n := 0) (c := 0) (m := 0) (w := 1) (Nat.le_refl _) (by decide) (Nat.le_refl _) (Nat.le_refl _) (k _ ⟨⟨?_, rfl⟩, _, _, _, rfl⟩) ht hx hhi hg hd
    cases a <;> rfl
  · have s2 := s.imp i hi1 (B := blk b (.cells (bytesV l) 1)) (fun K q => by
      rcases q.2 with ⟨_, _, a', _, e'⟩ | ⟨b', e', e2⟩
      · simp only [Value.slice.injEq] at e'; exact absurd e'.2.2 (by decide)
      · simp only [Value.slice.injEq, Option.some.injEq, Addr.mk.injEq] at e'; rw [e'.1.1]; exact e2)
    have hb : h.get b = some (.cells (bytesV l) 1) := s2.get i (nth_setL hi1 _)
    have hroom : h.room ⟨b, 0, none⟩ 1 = some l.length := by
      unfold H.room; simp only [hb]
      rw [show Nat.beq 1 1 = true from rfl, cond_true, bytesV_len]; simp
    have hb1 : Nat.ble LOOSE LOOSE = true := Nat.ble_eq_true_of_le (Nat.le_refl _)
    refine ow_read hg hd rfl rfl (fun e he => ?_) (k (.slice (some ⟨b, 0, none⟩) m LOOSE) ⟨⟨?_, by rw [List.length_take, Nat.min_eq_left hm]; rfl⟩, _, _, _, rfl⟩)
    · unfold elemSize at ht
      split at ht
      · rename_i el hu
        simp only [calmF, cSlice, hu, he.eval hx, ht, H.capOf, hb1, cond_true, hroom, Nat.sub_self, Nat.sub_zero, show optNat e.eval l.length none = some l.length from rfl, optK_eq he hhi, show optNat e.eval 0 none = some 0 from rfl, Option.isSome_none, cond_false, Nat.ble_eq_true_of_le (Nat.le_refl l.length), Nat.ble_eq_true_of_le hm, Nat.ble_eq_true_of_le (Nat.zero_le m), Option.isNone_none, Bool.true_or, Bool.and_self, show Nat.ble 1 1 = true from rfl, sliceV, show Nat.beq 0 0 = true from rfl, pv]
      · cases ht
    · rw [List.length_take, Nat.min_eq_left hm]
      simp only [firstCells]
      by_cases hm0 : m = 0
      · subst hm0; rfl
      · rw [nbeq_f hm0, cond_false, Nat.ble_eq_true_of_le (Nat.le_refl LOOSE), cond_true]
        refine readOf hb ?_
        rw [Nat.mul_one]
        show takeN m (bytesV l) = _
        have : bytesV (l.take m) = (bytesV l).take m := by unfold bytesV; rw [List.map_take]
        rw [this]
        exact takeN_take (by rw [bytesV_len]; omega)
end

theorem byt_parts {h : H} {v : Value} {l : List UInt8} (q : Byt h v l) : ∃ a c, v = .slice a l.length c := by
  obtain ⟨⟨_, h2⟩, a, n, c, rfl⟩ := q
  simp only [Go.Mir.lenOf, Option.some.injEq] at h2
  exact ⟨a, c, by rw [h2]⟩

set_option maxHeartbeats 8000000 in
theorem prefix_law {h : H} {cs : List Value} {s : PScr} {n : Int} (f : Fld (Here h) h) (q : RScrK h (Here h) s cs) (hok : s.okR) (hB : nScr s < 2 ^ 40) : Cal cxo 7 [.agg ⟨cs⟩, .int .i64 n] h (fun r h' => r = .bool true ∧ Le h h') := by
  have st := St.here h
  have q0 := q
  obtain ⟨k, c, rfl, x1, x2⟩ := q
  have x1k := x1
  have x2k := x2
  obtain ⟨_, ka, kn, kc, rfl, _, _⟩ := x1
  obtain ⟨x20, ca, cn, cc, rfl, hcc1, hcc2⟩ := x2
  have hcn : cn = s.cmds.length := by
    obtain ⟨_, _, _, e, h3, _⟩ := x20.inv
    simp only [Value.slice.injEq] at e
    omega
  subst hcn
  have hc62 : s.cmds.length < 2 ^ 40 := by unfold nScr at hB; omega
  have hk8 : ∀ x ∈ s.cmds, u8ok x.kind := fun x hx => (hok.2.2.2 x hx).1
  refine cal_intro (C := cxo) rfl rfl rfl rfl ?_
  refine go ?_
  refine st_box st ?_; intro b1 h1 st
  refine go ?_
  refine ow_call (great_ev hk8 (q0.scr.gr st.gr) hB st) ?_; rintro _ h2 ⟨g, rfl, hg, st⟩
  cases g with
  | true =>
    refine go ?_
    refine ow_call (known_ev (f.gr st.gr)) ?_; rintro _ _ ⟨rfl, rfl⟩
    refine go ?_
    exact end_res st.nx rfl ⟨rfl, (st.drop 0 rfl).toLe⟩
  | false =>
    obtain ⟨g1, g2⟩ := hg rfl
    refine go ?_
    refine ow_call (smay_ev (f.gr st.gr) hk8 (q0.scr.gr st.gr) st) ?_; rintro _ h3 ⟨m, rfl, hm, st⟩
    cases m with
    | false =>
      refine go ?_
      refine ow_call (known_ev (f.gr st.gr)) ?_; rintro _ _ ⟨rfl, rfl⟩
      refine go ?_
      exact end_res st.nx rfl ⟨rfl, (st.drop 0 rfl).toLe⟩
    | true =>
      have hs : okS s := ⟨hok, hm.1 rfl⟩
      refine go ?_
      obtain ⟨k, hk1, hk2⟩ : ∃ k : Nat, k ≤ s.cmds.length ∧ Mir.intOp .rem .u64 (IntKind.u64.wrap n) (IntKind.u64.wrap ((s.cmds.length + 1 : Nat) : Int)) = some (.int .u64 (k : Int)) := by
        have e1 : IntKind.u64.wrap ((s.cmds.length + 1 : Nat) : Int) = ((s.cmds.length + 1 : Nat) : Int) := wrap_u64 (by omega)
        have e2 : 0 ≤ IntKind.u64.wrap n := by unfold IntKind.wrap; simp [IntKind.signed, IntKind.bits]; omega
        obtain ⟨u, hu⟩ := Int.eq_ofNat_of_zero_le e2
        refine ⟨u % (s.cmds.length + 1), by have := Nat.mod_lt u (show 0 < s.cmds.length + 1 by omega); omega, ?_⟩
        rw [e1, hu]
        simp only [Mir.intOp]
        rw [if_neg (by omega)]
        rfl
      refine ow_int (hv := hk2) ?_
      refine ow_convTo (n' := (k : Int)) (wrap_i64 (by unfold i64ok; omega)) ?_
      refine go ?_
      refine st_alloc st ?_; intro b2 h4 st
      refine st_put st ?_; intro h5 st
      refine go ?_
      refine ow_cut hcc1 hcc2 (m := k) (w := 8) hk1 (by decide) ?_
      refine go ?_
      refine st_put st ?_; intro h6 st
      refine go ?_
      have hle := wScr_le hok (by omega)
      refine ow_call (swrite_ev (f.gr st.gr) hok hs.2 (q0.scr.gr st.gr) (by omega) st) ?_; rintro _ h7 ⟨v, rfl, st⟩
      refine go ?_
      have hf := firstK_ok (k := k) hs
      obtain ⟨r, hr⟩ := firstK_pre (s := s) (k := k)
      have hrl := congrArg List.length hr
      rw [List.length_append] at hrl
      have qf : RScr h (Here h) (firstK s k) [.slice ka kn kc, .int .i64 s.maxLen, .int .i64 s.maxUndo, .slice ca k cc] := ⟨_, _, rfl, x1k.1, (x2k.take hk1).1⟩
      refine ow_call (swrite_ev (f.gr st.gr) hf.1 hf.2 (qf.gr st.gr) (by omega) st) ?_; rintro _ h8 ⟨v2, rfl, st⟩
      obtain ⟨a2, c2, rfl⟩ := byt_parts (Byt.buf st (i := 0) rfl).1
      obtain ⟨a1, c1, rfl⟩ := byt_parts (Byt.buf st (i := 1) rfl).1
      refine go ?_
      refine st_cutB (i := 1) st rfl (m := (wScr (firstK s k)).length) (by omega) (by omega) ?_; intro v' hv'
      rw [hr, List.take_left] at hv'
      obtain ⟨av, cv', rfl⟩ := byt_parts hv'
      refine ow_strB hv' ?_
      refine go ?_
      refine ow_strB (Byt.buf st (i := 0) rfl).1 ?_
      refine ow_neS ?_
      rw [show (!decide (wScr (firstK s k) = wScr (firstK s k))) = false by simp]
      refine go ?_
      obtain ⟨S1, G1, qb, st1⟩ := bufB_freeze st (i := 0) rfl (by omega)
      refine ow_call (read_ev ((f.gr st.gr).gr G1) qb (by omega) st1) ?_; rintro rr h9 ⟨S3, g3, st3, hr3⟩
      have GG := st.gr.trans (G1.trans g3)
      rcases hr3 with ⟨t, cst, rfl, hscr, hokt, hbt⟩ | ⟨rfl, hno⟩
      · obtain rfl := wScr_inj hokt hf hbt.symm
        have hscr0 := hscr
        obtain ⟨kv, cv, rfl, qk, qc⟩ := hscr
        obtain ⟨_, _, _, rfl, _⟩ := qk
        obtain ⟨_, _, _, rfl, _⟩ := qc
        refine go ?_
        refine st_alloc st3 ?_; intro b8 h10 st4
        refine st_put st4 ?_; intro h11 st5
        refine go ?_
        refine ow_call (same_ev (hscr0.gr st5.gr) (qf.gr (GG.trans st5.gr)) st5) ?_; rintro _ h12 ⟨e, rfl, he, st6⟩
        obtain rfl := he.2 rfl
        refine go ?_
        refine ow_call (known_ev (f.gr (GG.trans st6.gr))) ?_; rintro _ _ ⟨rfl, rfl⟩
        refine go ?_
        exact end_res (GG.trans st6.gr).1 rfl ⟨rfl, ((((st6.drop 0 rfl).drop 0 rfl).drop 0 rfl).drop 0 rfl).back GG (fun a ha => ha) |>.toLe⟩
      · exact absurd rfl (hno _ hf)
end Go.Proofs.YtmaccpaiaidgpaaGreatDoor

namespace Go.Proofs.YtmaccpaiaidgpaaGreatDoor
open Go Go.Mir Go.ChangeShapes Go.WideShapes Go.ChangeAt Go.RowKit
set_option maxRecDepth 100000

theorem scriptPrefix_contract (X : Type) (enc : TypeId × Value → X) (W : World) (base : Nat) (args : Array Value) (ds gs : List (DataW X)) (before : List MemPlace)
    (hval0 : ∀ (j : Nat) t v, Tryz.f7.params[j]? = some t → args[j]? = some v → Value.okWide Tryz.prog W .any base t v)
    (hW : DataW.Whole enc Tryz.prog Tryz.f7.params.toList Rows.scriptPrefixSpec.vars false W args.toList ds gs before)
    (hZ : (DataW.weightsEach Tryz.prog (Tryz.f7.params.toList ++ Rows.scriptPrefixSpec.plain.varTypes Tryz.prog) (ds ++ gs)).all (· ≤ reachBytes) = true)
    (hk : Rows.uptoSmall X (ds ++ gs) = true)
    (hL : ∃ (c' : Array Value) (el : TypeId) (fz : Nat × Nat), W.heap[0]? = some (.cells c' el fz) ∧ ∀ (k : Nat) (v : Value), fieldsRom[k]? = some v → c'[k]? = some v) :
    Calls Tryz.prog 7 args W fun e W' => ∃ v, e = .returned v ∧ Rows.scriptPrefixSpec.post enc Tryz.prog Tryz.f7 false true false false W args v W' := by
  have hval : ∀ (j : Nat) t v, Tryz.f7.params[j]? = some t → args[j]? = some v → Value.okWide Tryz.prog W .any base t v := hval0
  have hW' := hW
  obtain ⟨p, q, hA0, hV, rfl, _, _⟩ := hW
  have hA : DataW.TrodAll enc Tryz.prog W 0 (fun _ => true) true Tryz.f7.params.toList args.toList ds p := hA0
  rw [Tryz.params7] at hA hval hZ
  obtain ⟨v0, v1, d0, d1, p0, p1, rfl, rfl, rfl, h0, h1⟩ := trodAll_two hA
  obtain ⟨rfl, rfl⟩ := trodVars_none hV
  have h0k := h0
  have h1k := h1
  obtain ⟨n0, hn0⟩ := h0
  obtain ⟨n1, hn1⟩ := h1
  obtain ⟨cs, rfl, _⟩ := okWide_struct Tryz.underlying54 (hval 0 54 v0 rfl rfl)
  obtain ⟨n, rfl⟩ := okWide_int Tryz.underlying3 (hval 1 3 v1 rfl rfl)
  obtain ⟨c', el, fz, hw0, hk0⟩ := hL
  obtain ⟨j, h, cs', hi, _, hle, hm, hwf, s, hscr, hok, hbulk⟩ := scr_canM (C := cxo) hn0 (fun m hm => by
    have := List.all_eq_true.1 hZ m (DataW.weights_mem_each (j := 0) (t := 54) (d := d0) rfl rfl m hm)
    simpa using this) _ _ (imp_zero hw0 hk0)
  have hB : nScr s < 2 ^ 40 := by
    have h1 := of_decide_eq_true hk
    simp only at hbulk
    simp only [List.append_nil, Rows.uptoBulkAll] at h1
    have h2 : (s.cmds.map fun c => 1 + nCmd c).sum = s.cmds.length + (s.cmds.map nCmd).sum := by
      induction s.cmds with
      | nil => rfl
      | cons a l ih => simp only [List.map_cons, List.sum_cons, ih, List.length_cons]; omega
    unfold nScr
    omega
  have run := calls_of (g := 7) (fn := Tryz.f7) (by rfl) (by rfl) hi (args := [.agg ⟨cs'⟩, .int .i64 n]) (by
    intro a ha
    simp only [List.mem_cons, List.not_mem_nil, or_false] at ha
    rcases ha with rfl | rfl
    · simp only [Wf]
      exact (Wfs_iff _ _).2 hwf
    · simp only [Wf]) (prefix_law (fld_zero hle) hscr hok hB) (margs := #[.agg cs, .int .i64 n]) (by
    simp only [List.map_cons, List.map_nil, ren, rens_eq, hm]; rfl)
  simp only [List.append_nil] at hW'
  refine run.mono fun e W' ⟨he, hb⟩ => ?_
  subst he
  exact ⟨_, rfl, post_of_below (pa := p0 ++ p1) (pv := []) hW' (fun _ _ _ => trodAll_mk1 (shut_bool Tryz.underlying4 _))
    (fun sp hs => trodAll_mk2
      (WideElems.Trod_stays laidOut (by kernel_rfl) (by decide +kernel) h0k (fun x hx => hb.same (hW'.lt x (by simp [hx]))) (fun x hx => hs x (by simp [hx])))
      (WideElems.Trod_stays laidOut (by kernel_rfl) (by decide +kernel) h1k (fun x hx => hb.same (hW'.lt x (by simp [hx]))) (fun x hx => hs x (by simp [hx])))) (fun _ _ => rfl) (by simp) hb (ok_one (by kernel_rfl) rfl (okWide_bool_mk Tryz.underlying4 _))⟩
end Go.Proofs.YtmaccpaiaidgpaaGreatDoor

namespace Go.Proofs.YtmaccpaiaidgpaaGreatDoor
open Go Go.Mir Go.ChangeShapes Go.WideShapes Go.ChangeAt Go.RowKit
set_option maxRecDepth 100000
noncomputable def zArgs7 : Array Value := #[.agg #[.slice none 0 0, .int .i64 0, .int .i64 0, .slice none 0 0], .int .i64 0]
noncomputable abbrev lw7 (os : Os) : World := World.laidAll Tryz.prog os Rows.scriptPrefixUptoRow.laid
noncomputable abbrev wz7 (os : Os) : World := (lw7 os).forCall (fun _ _ => 0) ⟨#[], zArgs7, []⟩
theorem v7a (os : Os) : World.variablesB Tryz.prog (wz7 os) = true := by kernel_rfl
theorem v7b (os : Os) : List.take ((begin Tryz.prog (fun _ _ => 0) default).world.heap.size - Tryz.prog.globals.size) (List.drop Tryz.prog.globals.size (wz7 os).heap.toList) = List.drop Tryz.prog.globals.size (begin Tryz.prog (fun _ _ => 0) default).world.heap.toList := by kernel_rfl
theorem v7c (os : Os) : Input.okWideB Tryz.prog (wz7 os) 7 ⟨#[], zArgs7, []⟩ = true := by kernel_rfl
theorem v7e (X : Type) (enc : TypeId × Value → X) (os : Os) : ChangeSpec.sizedB enc Tryz.prog Tryz.f7 Rows.scriptPrefixSpec false (wz7 os).memory zArgs7 8 = true := by kernel_rfl
theorem v7f (os : Os) : World.layFits Tryz.prog (World.holding Tryz.prog os { blocks := #[], args := #[] }) Rows.scriptPrefixUptoRow.laid [] = true := by kernel_rfl
theorem v7g (os : Os) : World.layIfaces Tryz.prog (World.holding Tryz.prog os { blocks := #[], args := #[] }) Rows.scriptPrefixUptoRow.laid (World.laidAll Tryz.prog os Rows.scriptPrefixUptoRow.laid) = true := by kernel_rfl
theorem laidPlain7 : (Rows.scriptPrefixUptoRow.laid.all fun x => x.2.handleName?.isNone) = true := by kernel_rfl
theorem laid_met7 (os : Os) : laidMetH Tryz.prog Rows.scriptPrefixUptoRow.laid (wz7 os).memory := by
  rw [MakeChecks.laidMetH_plain _ _ _ laidPlain7]; exact laidMet_laidAll zArgs7 (v7f os) (v7g os)
theorem reads7 (os : Os) {H : Type} (enc : TypeId × Value → H) : ∃ places, DataW.whole enc Tryz.prog (wz7 os).memory Tryz.f7.params.toList Rows.scriptPrefixSpec.vars false zArgs7.toList 8 = some ([.agg [.nil, .lit (.int .i64 0), .lit (.int .i64 0), .nil], .lit (.int .i64 0)], [], places) :=
  ⟨[], by kernel_rfl⟩
theorem noInit7 : Tryz.checked.prog.inits.idxOf? 7 = none := by kernel_rfl
theorem prefix_lifted (os : Os) (started : os.Started) (H : Type) (enc : TypeId × Value → H) (F : Stop.Interp) :
    ReturnsInHanded {} Tryz.checked os 7 .any ((Rows.OpenSpec.upto Rows.scriptPrefixSpec).preRow enc Tryz.prog Tryz.f7 Rows.scriptPrefixUptoRow.domain false Rows.scriptPrefixUptoRow.laid) (((Rows.OpenSpec.upto Rows.scriptPrefixSpec).at F).post enc Tryz.prog Tryz.f7 false true false false) := by
  obtain ⟨places, hx⟩ := reads7 os enc
  refine returnsInHanded_of_row (C := Tryz.checked) (s := Rows.OpenSpec.upto Rows.scriptPrefixSpec) own started noInit7 Tryz.func7
    (witness_row_at (enc := enc) (C := Tryz.checked) false (lw7 os) zArgs7 (World.laidAll_os _ _ _) (v7a os) (v7b os) (v7c os)
      (OpenSpec.preRow_of_cond 8 hx (by kernel_rfl) (fun k hk => by cases hk; kernel_rfl) (v7e H enc os) (laid_met7 os))) ?_
  intro W base args ds gs before hval hW _ hcond hZ hX _ _
  exact scriptPrefix_contract H enc W base args ds gs before hval hW hZ (hcond _ rfl) (fields_laid (by kernel_rfl) (by rw [MakeChecks.laidMetH_plain _ _ _ laidPlain7] at hX; exact hX))
end Go.Proofs.YtmaccpaiaidgpaaGreatDoor

