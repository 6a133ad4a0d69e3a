/- ScriptOnly, walked; its contract over the model; a start that fits exists. -/
import Derived.Test.YtmaccpaiaidgpaaGreatDoorWrB
import Derived.Test.YtmaccpaiaidgpaaGreatDoorEqA
import Derived.Test.YtmaccpaiaidgpaaGreatDoorScrA
import Derived.Test.YtmaccpaiaidgpaaGreatDoorRowZ
/- The law ScriptOnly. -/
namespace Go.Proofs.YtmaccpaiaidgpaaGreatDoor
open Go Go.Mir
set_option maxRecDepth 10000

theorem RScr.gr {h h' : H} {S S' : Nat → Prop} {s : PScr} {cs : List Value} (q : RScr h S s cs) (g : Gr S h S' h') : RScr h' S' s cs := by
  obtain ⟨_, _, e, z1, z2⟩ := q
  exact ⟨_, _, e, z1.gr g, slCmd_gr z2 g⟩

set_option maxHeartbeats 8000000 in
theorem only_law {h : H} {bv : Value} {b : List UInt8} (f : Fld (Here h) h) (q : SlK h (Here h) 1 RByte bv b) : Cal cxo 6 [bv] h (fun r h' => r = .bool true ∧ Le h h') := by
  have st := St.here h
  have q0 := q
  obtain ⟨_, a, n, c, rfl, hnc, hcl⟩ := q
  have hn : n = b.length := by
    obtain ⟨_, _, _, e, h3, _⟩ := q0.1.inv
    simp only [Value.slice.injEq] at e
    omega
  subst hn
  refine cal_intro (C := cxo) rfl rfl rfl rfl ?_
  by_cases hlt : 2000 < b.length
  · refine go ?_
    refine ow_call (known_ev f) ?_; rintro _ _ ⟨rfl, rfl⟩
    refine go ?_
    exact end_res (Nat.le_refl _) rfl ⟨rfl, Le.refl _⟩
  · refine go ?_
    refine ow_call (read_ev f (Bs.ofK q0) (by omega) st) ?_; rintro r h3 ⟨S3, g3, st3, hr⟩
    have f3 := f.gr g3
    have q3 := q0.gr g3
    rcases hr with ⟨s, cs, rfl, hscr, hok, hbs⟩ | ⟨rfl, hno⟩
    · have hscr0 := hscr
      obtain ⟨kv, cv, rfl, qk, qc⟩ := hscr
      obtain ⟨ka, kn, kc, rfl, _⟩ := qk
      obtain ⟨ca, cn, cc, rfl, _⟩ := qc
      refine go ?_
      refine st_alloc st3 ?_; intro b4 h4 st
      refine st_put st ?_; intro h5 st
      refine go ?_
      refine ow_call (swrite_ev (f3.gr st.gr) hok.1 hok.2 (hscr0.gr st.gr) (by rw [← hbs]; omega) st) ?_; rintro _ h6 ⟨v, rfl, st⟩
      rw [← hbs] at st
      refine go ?_
      refine ow_strB (Byt.buf st (i := 0) rfl).1 ?_
      refine go ?_
      refine ow_strB (Byt.sl (q3.gr st.gr).1) ?_
      refine ow_neS ?_
      rw [show (!decide (b = b)) = false by simp]
      have hb0 : 0 < b.length := by
        rw [hbs]; unfold wScr wL
        have := form_ne s.keys.length
        simp only [List.length_append]
        have : 0 < (form s.keys.length).length := List.length_pos_iff.2 this
        omega
      refine go ?_
      have e1 : Mir.intOp .sub .i64 (b.length : Int) 1 = some (.int .i64 ((b.length - 1 : Nat) : Int)) := by
        simp only [Mir.intOp]
        rw [show (b.length : Int) - 1 = ((b.length - 1 : Nat) : Int) by omega, wrap_i64 (by unfold i64ok; omega)]
      refine ow_int (hv := e1) ?_
      refine ow_cut hnc hcl (m := b.length - 1) (w := 1) (by omega) (by decide) ?_
      refine ow_call (read_ev (f3.gr st.gr) (Bs.ofK ((q3.gr st.gr).take (m := b.length - 1) (by omega))) (by rw [List.length_take]; omega) st.rebase) ?_; rintro r h7 ⟨S7, g7, st7, hr7⟩
      have G7 := g3.trans (st.gr.trans g7)
      have f7 := f.gr G7
      have hscr7 := hscr0.gr (st.gr.trans g7)
      rcases hr7 with ⟨t, cs7, rfl, hscrt, hokt, hbt⟩ | ⟨rfl, _⟩
      · have hscrt0 := hscrt
        obtain ⟨kv, cv, rfl, qk, qc⟩ := hscrt
        obtain ⟨_, _, _, rfl, _⟩ := qk
        obtain ⟨_, _, _, rfl, _⟩ := qc
        refine go ?_
        refine st_alloc st7 ?_; intro b8 h8 st8
        refine st_put st8 ?_; intro h9 st9
        refine go ?_
        refine ow_call (same_ev (hscr7.gr st9.gr) (hscrt0.gr st9.gr) st9) ?_; rintro _ h10 ⟨e, rfl, hee, st10⟩
        have he : e = false := by
          cases e with
          | false => rfl
          | true =>
            have := hee.1 rfl
            subst this
            have h1 := congrArg List.length hbt
            rw [← hbs, List.length_take] at h1
            omega
        subst he
        refine go ?_
        refine ow_call (known_ev (f7.gr st10.gr)) ?_; rintro _ _ ⟨rfl, rfl⟩
        refine go ?_
        exact end_res (G7.trans st10.gr).1 rfl ⟨rfl, (((st10.drop 0 rfl).drop 0 rfl).drop 0 rfl).back G7 (fun a ha => ha) |>.toLe⟩
      · refine go ?_
        refine st_alloc st7 ?_; intro b8 h8 st8
        refine st_put st8 ?_; intro h9 st9
        refine go ?_
        refine ow_call (known_ev (f7.gr st9.gr)) ?_; rintro _ _ ⟨rfl, rfl⟩
        refine go ?_
        exact end_res (G7.trans st9.gr).1 rfl ⟨rfl, (((st9.drop 0 rfl).drop 0 rfl).drop 0 rfl).back G7 (fun a ha => ha) |>.toLe⟩
    · refine go ?_
      refine st_alloc st3 ?_; intro b4 h4 st
      refine st_put st ?_; intro h5 st
      refine go ?_
      refine ow_call (known_ev (f3.gr st.gr)) ?_; rintro _ _ ⟨rfl, rfl⟩
      refine go ?_
      exact end_res (g3.trans st.gr).1 rfl ⟨rfl, ((st.drop 0 rfl).back g3 (fun a ha => ha)).toLe⟩
end Go.Proofs.YtmaccpaiaidgpaaGreatDoor

namespace Go.Proofs.YtmaccpaiaidgpaaGreatDoor
open Go Go.Mir Go.ChangeShapes Go.WideShapes Go.ChangeAt Go.RowKit
set_option maxRecDepth 100000

theorem scriptOnly_contract (X : Type) (enc : TypeId × Value → X) (W : World) (base : Nat) (args : Array Value) (ds gs : List (DataW X)) (before : List MemPlace)
    (hval0 : ∀ (j : Nat) t v, Tryz.f6.params[j]? = some t → args[j]? = some v → Value.okWide Tryz.prog W .any base t v)
    (hW : DataW.Whole enc Tryz.prog Tryz.f6.params.toList Rows.scriptOnlySpec.vars false W args.toList ds gs before)
    (hZ : (DataW.weightsEach Tryz.prog (Tryz.f6.params.toList ++ Rows.scriptOnlySpec.plain.varTypes Tryz.prog) (ds ++ gs)).all (· ≤ reachBytes) = true)
    (hL : ∃ (c' : Array Value) (el : TypeId) (fz : Nat × Nat), W.heap[0]? = some (.cells c' el fz) ∧ ∀ (k : Nat) (v : Value), fieldsRom[k]? = some v → c'[k]? = some v) :
    Calls Tryz.prog 6 args W fun e W' => ∃ v, e = .returned v ∧ Rows.scriptOnlySpec.post enc Tryz.prog Tryz.f6 false true false false W args v W' := by
  have hval : ∀ (j : Nat) t v, Tryz.f6.params[j]? = some t → args[j]? = some v → Value.okWide Tryz.prog W .any base t v := hval0
  have hW' := hW
  obtain ⟨p, q, hA0, hV, rfl, _, _⟩ := hW
  have hA : DataW.TrodAll enc Tryz.prog W 0 (fun _ => true) true Tryz.f6.params.toList args.toList ds p := hA0
  rw [Tryz.params6] at hA hval hZ
  obtain ⟨v0, d0, rfl, rfl, h0⟩ := trodAll_one hA
  obtain ⟨rfl, rfl⟩ := trodVars_none hV
  have h0k := h0
  obtain ⟨n, hn⟩ := h0
  have hv0 := hval 0 23 v0 rfl rfl
  obtain ⟨c', el, fz, hw0, hk0⟩ := hL
  obtain ⟨a0, n0, c0, rfl⟩ := okWide_slice Tryz.underlying23 hv0
  obtain ⟨j, h, cs', hi, _, hle, hm, hwf, v', xs, rfl, hsl⟩ := bytes_canK (C := cxo) hn (fun m hm => by
    have := List.all_eq_true.1 hZ m (DataW.weights_mem_each (j := 0) (t := 23) (d := d0) rfl rfl m hm)
    simpa using this) _ _ (imp_zero hw0 hk0)
  have run := calls_of (g := 6) (fn := Tryz.f6) (by rfl) (by rfl) hi (args := [v']) (by
    intro a ha
    simp only [List.mem_singleton] at ha
    subst ha
    exact hwf _ (List.mem_singleton.2 rfl)) (only_law (fld_zero hle) hsl) (margs := #[.slice a0 n0 c0]) (by rw [hm]; rfl)
  simp only [List.append_nil] at hW'
  refine run.mono fun e W' ⟨he, hb⟩ => ?_
  subst he
  exact ⟨_, rfl, post_of_below (pa := p) (pv := []) hW' (fun _ _ _ => trodAll_mk1 (shut_bool Tryz.underlying4 _))
    (fun sp hs => trodAll_mk1 (WideElems.Trod_stays laidOut (by kernel_rfl) (by decide +kernel) h0k (fun x hx => hb.same (hW'.lt x (by simpa using hx))) (fun x hx => hs x (by simpa using hx)))) (fun _ _ => rfl) (by simp) hb (ok_one (by kernel_rfl) rfl (okWide_bool_mk Tryz.underlying4 _))⟩
end Go.Proofs.YtmaccpaiaidgpaaGreatDoor

namespace Go.Proofs.YtmaccpaiaidgpaaGreatDoor
open Go Go.Mir Go.ChangeShapes Go.WideShapes Go.ChangeAt Go.RowKit
set_option maxRecDepth 100000
noncomputable def zArgs : Array Value := #[.slice none 0 0]
noncomputable abbrev wz (os : Os) : World := (World.laidAll Tryz.prog os Rows.scriptOnlyRow.laid).forCall (fun _ _ => 0) { blocks := #[], args := zArgs }
theorem wA (os : Os) : World.variablesZipB Tryz.prog (wz os) = true := by kernel_rfl
theorem wB (os : Os) : List.take ((begin Tryz.prog (fun _ _ => 0) default).world.heap.size - Tryz.prog.globals.size) (List.drop Tryz.prog.globals.size (wz os).heap.toList) = List.drop Tryz.prog.globals.size (begin Tryz.prog (fun _ _ => 0) default).world.heap.toList := by kernel_rfl
theorem wC (os : Os) : Input.okWideB Tryz.prog (wz os) 6 { blocks := #[], args := zArgs } = true := by kernel_rfl
theorem wD (X : Type) (enc : TypeId × Value → X) (os : Os) : ChangeSpec.preB enc Tryz.prog Tryz.f6 Rows.scriptOnlySpec [] false (wz os).memory zArgs 8 = true := by kernel_rfl
theorem wE (X : Type) (enc : TypeId × Value → X) (os : Os) : ChangeSpec.sizedB enc Tryz.prog Tryz.f6 Rows.scriptOnlySpec false (wz os).memory zArgs 8 = true := by kernel_rfl
theorem wF (os : Os) : World.layFits Tryz.prog (World.holding Tryz.prog os { blocks := #[], args := #[] }) Rows.scriptOnlyRow.laid [] = true := by kernel_rfl
theorem wG (os : Os) : World.layIfaces Tryz.prog (World.holding Tryz.prog os { blocks := #[], args := #[] }) Rows.scriptOnlyRow.laid (World.laidAll Tryz.prog os Rows.scriptOnlyRow.laid) = true := by kernel_rfl
theorem noInit6 : Tryz.checked.prog.inits.idxOf? 6 = none := by kernel_rfl
theorem laidPlain : (Rows.scriptOnlyRow.laid.all fun x => x.2.handleName?.isNone) = true := by kernel_rfl
theorem laid_met (os : Os) : laidMetH Tryz.prog Rows.scriptOnlyRow.laid (wz os).memory := by
  rw [MakeChecks.laidMetH_plain _ _ _ laidPlain]; exact laidMet_laidAll zArgs (wF os) (wG os)
theorem scriptOnly_lifted (os : Os) (started : os.Started) (X : Type) (enc : TypeId × Value → X) :
    ReturnsInHanded {} Tryz.checked os 6 .any (fun w args => (Rows.scriptOnlySpec.pre enc Tryz.prog Tryz.f6 [] false w args ∧ laidMetH Tryz.prog Rows.scriptOnlyRow.laid w) ∧ sizedMet enc Tryz.prog Tryz.f6 (OpenSpec.ofChange Rows.scriptOnlySpec) false w args)
      (Rows.scriptOnlySpec.post enc Tryz.prog Tryz.f6 false true false false) :=
  returnsInHanded_of_change_and (C := Tryz.checked) (X := fun w _ => laidMetH Tryz.prog Rows.scriptOnlyRow.laid w) (fun _ _ _ hh h => h.of_heap hh) own started noInit6 Tryz.func6
    (ChangeSpec.witness_shaped (enc := enc) (C := Tryz.checked) (os := os) (X := fun w _ => laidMetH Tryz.prog Rows.scriptOnlyRow.laid w) false (World.laidAll Tryz.prog os Rows.scriptOnlyRow.laid) zArgs 8 (World.laidAll_os _ _ _)
      (World.shaped_of_ZipB (wA os) (wB os)) (wC os) (wD X enc os) (wE X enc os) (laid_met os))
    (fun W base args ds gs before hval hW _ hZ hX _ => scriptOnly_contract X enc W base args ds gs before hval hW hZ (fields_laid (by kernel_rfl) (by rw [MakeChecks.laidMetH_plain _ _ _ laidPlain] at hX; exact hX)))
end Go.Proofs.YtmaccpaiaidgpaaGreatDoor

