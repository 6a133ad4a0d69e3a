/- ScriptForms: its contract over the model; a start that fits exists. -/
import Derived.Test.YtmaccpaiaidgpaaGreatDoorRowZ
import Derived.Test.YtmaccpaiaidgpaaGreatDoorFormsA
import Derived.Test.YtmaccpaiaidgpaaGreatDoorImpS
import Derived.Deep.DeepHandedRow
namespace Go.Proofs.YtmaccpaiaidgpaaGreatDoor
open Go Go.Mir Go.ChangeShapes Go.WideShapes Go.ChangeAt Go.RowKit
set_option maxRecDepth 100000

theorem scriptForms_contract (X : Type) (enc : TypeId × Value → X) (W : World) (base : Nat) (args : Array Value) (ds gs : List (DataW X)) (before : List MemPlace)
    (hval0 : ∀ (j : Nat) t v, Tryz.f5.params[j]? = some t → args[j]? = some v → Value.okWide Tryz.prog W .any base t v)
    (hW : DataW.Whole enc Tryz.prog Tryz.f5.params.toList Rows.scriptFormsSpec.vars false W args.toList ds gs before)
    (hZ : (DataW.weightsEach Tryz.prog (Tryz.f5.params.toList ++ Rows.scriptFormsSpec.plain.varTypes Tryz.prog) (ds ++ gs)).all (· ≤ reachBytes) = true)
    (hk : Rows.uptoSmall X (ds ++ gs) = true)
    (hL : ∃ (c' : Array Value) (el : TypeId) (fz : Nat × Nat), W.heap[0]? = some (.cells c' el fz) ∧ ∀ (k : Nat) (v : Value), fieldsRom[k]? = some v → c'[k]? = some v) :
    Calls Tryz.prog 5 args W fun e W' => ∃ v, e = .returned v ∧ Rows.scriptFormsSpec.post enc Tryz.prog Tryz.f5 false true false false W args v W' := by
  have hval : ∀ (j : Nat) t v, Tryz.f5.params[j]? = some t → args[j]? = some v → Value.okWide Tryz.prog W .any base t v := hval0
  have hW' := hW
  obtain ⟨p, q, hA0, hV, rfl, _, _⟩ := hW
  have hA : DataW.TrodAll enc Tryz.prog W 0 (fun _ => true) true Tryz.f5.params.toList args.toList ds p := hA0
  rw [Tryz.params5] at hA hval hZ
  obtain ⟨v0, v1, d0, d1, p0, p1, rfl, rfl, rfl, h0, h1⟩ := trodAll_two hA
  obtain ⟨rfl, rfl⟩ := trodVars_none hV
  have h0k := h0
  have h1k := h1
  obtain ⟨n0, hn0⟩ := h0
  obtain ⟨n1, hn1⟩ := h1
  obtain ⟨cs, rfl, _⟩ := okWide_struct Tryz.underlying54 (hval 0 54 v0 rfl rfl)
  obtain ⟨cs2, rfl, _⟩ := okWide_struct Tryz.underlying54 (hval 1 54 v1 rfl rfl)
  obtain ⟨c', el, fz, hw0, hk0⟩ := hL
  obtain ⟨j1, h1, ca, i1, e1, l1, m1, w1, s, r1, ok1, bk1⟩ := scr_canM (C := cxo) hn0 (fun m hm => by
    have := List.all_eq_true.1 hZ m (DataW.weights_mem_each (j := 0) (t := 54) (d := d0) rfl rfl m hm)
    simpa using this) _ _ (imp_zero hw0 hk0)
  obtain ⟨j2, h2, cb, i2, e2, l2, m2, w2, o, r2, ok2, bk2⟩ := scr_canM (C := cxo) hn1 (fun m hm => by
    have := List.all_eq_true.1 hZ m (DataW.weights_mem_each (j := 1) (t := 54) (d := d1) rfl rfl m hm)
    simpa using this) _ _ i1
  have m1 := (map_ren_le e2 w1).trans m1
  have hsum : ∀ s : PScr, (s.cmds.map fun c => 1 + nCmd c).sum = s.cmds.length + (s.cmds.map nCmd).sum := fun s => by
    induction s.cmds with
    | nil => rfl
    | cons a l ih => simp only [List.map_cons, List.sum_cons, ih, List.length_cons]; omega
  have hb := of_decide_eq_true hk
  simp only [List.append_nil, Rows.uptoBulkAll] at hb
  simp only at bk1 bk2
  rw [hsum] at bk1 bk2
  have run := calls_of (g := 5) (fn := Tryz.f5) (by rfl) (by rfl) i2 (args := [.agg ⟨ca⟩, .agg ⟨cb⟩]) (by
    intro a ha
    simp only [List.mem_cons, List.not_mem_nil, or_false] at ha
    rcases ha with rfl | rfl
    · simp only [Wf]
      exact (Wfs_iff _ _).2 fun v hv => (w1 v hv).le e2
    · simp only [Wf]
      exact (Wfs_iff _ _).2 w2) (forms_law (fld_zero (l1.trans l2)) (r1.scr.gr ⟨l2.1, here_le l2⟩) r2.scr ok1 ok2 (by unfold nScr; omega) (by unfold nScr; omega)) (margs := #[.agg cs, .agg cs2]) (by
    simp only [List.map_cons, List.map_nil, ren, rens_eq, m1, m2]; rfl)
  simp only [List.append_nil] at hW'
  refine run.mono fun e W' ⟨he, hb⟩ => ?_
  subst he
  exact ⟨_, rfl, post_of_below (pa := p0 ++ p1) (pv := []) hW' (fun _ _ _ => trodAll_mk1 (shut_bool Tryz.underlying4 _))
    (fun sp hs => trodAll_mk2
      (WideElems.Trod_stays laidOut (by kernel_rfl) (by decide +kernel) h0k (fun x hx => hb.same (hW'.lt x (by simp [hx]))) (fun x hx => hs x (by simp [hx])))
      (WideElems.Trod_stays laidOut (by kernel_rfl) (by decide +kernel) h1k (fun x hx => hb.same (hW'.lt x (by simp [hx]))) (fun x hx => hs x (by simp [hx])))) (fun _ _ => rfl) (by simp) hb (ok_one (by kernel_rfl) rfl (okWide_bool_mk Tryz.underlying4 _))⟩
end Go.Proofs.YtmaccpaiaidgpaaGreatDoor

namespace Go.Proofs.YtmaccpaiaidgpaaGreatDoor
open Go Go.Mir Go.ChangeShapes Go.WideShapes Go.ChangeAt Go.RowKit
set_option maxRecDepth 100000
noncomputable def zArgs5 : Array Value := #[.agg #[.slice none 0 0, .int .i64 0, .int .i64 0, .slice none 0 0], .agg #[.slice none 0 0, .int .i64 0, .int .i64 0, .slice none 0 0]]
noncomputable abbrev lw5 (os : Os) : World := World.laidAll Tryz.prog os Rows.scriptFormsUptoRow.laid
noncomputable abbrev wz5 (os : Os) : World := (lw5 os).forCall (fun _ _ => 0) ⟨#[], zArgs5, []⟩
theorem v5a (os : Os) : World.variablesB Tryz.prog (wz5 os) = true := by kernel_rfl
theorem v5b (os : Os) : List.take ((begin Tryz.prog (fun _ _ => 0) default).world.heap.size - Tryz.prog.globals.size) (List.drop Tryz.prog.globals.size (wz5 os).heap.toList) = List.drop Tryz.prog.globals.size (begin Tryz.prog (fun _ _ => 0) default).world.heap.toList := by kernel_rfl
theorem v5c (os : Os) : Input.okWideB Tryz.prog (wz5 os) 5 ⟨#[], zArgs5, []⟩ = true := by kernel_rfl
theorem v5e (X : Type) (enc : TypeId × Value → X) (os : Os) : ChangeSpec.sizedB enc Tryz.prog Tryz.f5 Rows.scriptFormsSpec false (wz5 os).memory zArgs5 8 = true := by kernel_rfl
theorem v5f (os : Os) : World.layFits Tryz.prog (World.holding Tryz.prog os { blocks := #[], args := #[] }) Rows.scriptFormsUptoRow.laid [] = true := by kernel_rfl
theorem v5g (os : Os) : World.layIfaces Tryz.prog (World.holding Tryz.prog os { blocks := #[], args := #[] }) Rows.scriptFormsUptoRow.laid (World.laidAll Tryz.prog os Rows.scriptFormsUptoRow.laid) = true := by kernel_rfl
theorem laidPlain5 : (Rows.scriptFormsUptoRow.laid.all fun x => x.2.handleName?.isNone) = true := by kernel_rfl
theorem laid_met5 (os : Os) : laidMetH Tryz.prog Rows.scriptFormsUptoRow.laid (wz5 os).memory := by
  rw [MakeChecks.laidMetH_plain _ _ _ laidPlain5]; exact laidMet_laidAll zArgs5 (v5f os) (v5g os)
theorem reads5 (os : Os) {H : Type} (enc : TypeId × Value → H) : ∃ places, DataW.whole enc Tryz.prog (wz5 os).memory Tryz.f5.params.toList Rows.scriptFormsSpec.vars false zArgs5.toList 8 = some ([.agg [.nil, .lit (.int .i64 0), .lit (.int .i64 0), .nil], .agg [.nil, .lit (.int .i64 0), .lit (.int .i64 0), .nil]], [], places) :=
  ⟨[], by kernel_rfl⟩
theorem noInit5 : Tryz.checked.prog.inits.idxOf? 5 = none := by kernel_rfl
theorem forms_lifted (os : Os) (started : os.Started) (H : Type) (enc : TypeId × Value → H) (F : Stop.Interp) :
    ReturnsInHanded {} Tryz.checked os 5 .any ((Rows.OpenSpec.upto Rows.scriptFormsSpec).preRow enc Tryz.prog Tryz.f5 Rows.scriptFormsUptoRow.domain false Rows.scriptFormsUptoRow.laid) (((Rows.OpenSpec.upto Rows.scriptFormsSpec).at F).post enc Tryz.prog Tryz.f5 false true false false) := by
  obtain ⟨places, hx⟩ := reads5 os enc
  refine returnsInHanded_of_row (C := Tryz.checked) (s := Rows.OpenSpec.upto Rows.scriptFormsSpec) own started noInit5 Tryz.func5
    (witness_row_at (enc := enc) (C := Tryz.checked) false (lw5 os) zArgs5 (World.laidAll_os _ _ _) (v5a os) (v5b os) (v5c os)
      (OpenSpec.preRow_of_cond 8 hx (by kernel_rfl) (fun k hk => by cases hk; kernel_rfl) (v5e H enc os) (laid_met5 os))) ?_
  intro W base args ds gs before hval hW _ hcond hZ hX _ _
  exact scriptForms_contract H enc W base args ds gs before hval hW hZ (hcond _ rfl) (fields_laid (by kernel_rfl) (by rw [MakeChecks.laidMetH_plain _ _ _ laidPlain5] at hX; exact hX))
end Go.Proofs.YtmaccpaiaidgpaaGreatDoor

