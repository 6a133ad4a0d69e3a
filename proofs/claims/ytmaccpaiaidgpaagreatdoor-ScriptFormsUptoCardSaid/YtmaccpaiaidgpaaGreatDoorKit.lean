/- From the evaluator to the model: what rows need; the program starts no goroutine. -/
import Derived.Test.YtmaccpaiaidgpaaGreatDoorMirE
import Derived.Test.YtmaccpaiaidgpaaGreatDoorTabsP
import Derived.Test.YtmaccpaiaidgpaaGreatDoorRows
import Derived.Test.YtmaccpaiaidgpaaGreatDoorCards
import Derived.Test.YtmaccpaiaidgpaaGreatDoorTie
import Derived.ProofKit
import Derived.OpenShut
import Derived.LaidMore
import Derived.Lay
import Derived.SevenTiedAt
import Derived.Stop.Joined
import Derived.Carry
namespace Go.Proofs.YtmaccpaiaidgpaaGreatDoor
open Go Go.Mir Go.ChangeShapes Go.WideShapes Go.ChangeAt Go.RowKit
set_option maxRecDepth 100000

/-- Where only rows that are read stand, a call leaves all that was there. -/
theorem below_of {j j' : J} {h h' : H} {w w' : World} (q : Imp cxo w j h) (a : Adv j h w j' h' w') : Below w.heap.size w w' :=
  ⟨a.os, a.tape, a.out, a.sz, fun k hk => a.keep k hk (by
    rintro ⟨x, i, y, _, h2, h3, _⟩
    rw [q.rom x y h2] at h3; cases h3)⟩

/-- From the evaluator's answer to the model's call. -/
theorem calls_of {g : Nat} {fn : Func} {c : Code} (hg : cxo.fn.get g = some fn) (hb : fn.body = some c) {args : List Value} {j : J} {h : H} {w : World} (q : Imp cxo w j h) (ha : ∀ a ∈ args, Wf j a)
    (e : Cal cxo g args h (fun r h' => r = .bool true ∧ Le h h')) {margs : Array Value} (hm : (⟨args.map (ren j)⟩ : Array Value) = margs) : Calls Tryz.prog g margs w fun x w' => x = .returned (.bool true) ∧ Below w.heap.size w w' := by
  subst hm
  obtain ⟨n, v, h', he, _, rfl, hl⟩ := e.run
  refine (ev_call cxoOk hg hb he q.rel ha (fun a h1 _ => q.new a h1)).mono fun x w' ⟨j', e1, ad, _, _⟩ => ?_
  exact ⟨by rw [e1]; simp [ren], below_of q ad⟩

theorem imp_glob (w : World) : Imp cxo w (jGlob 4) ⟨4, .nil⟩ where
  rel := rel_glob cxo w
  rom := fun a x h => by simp [H.get, T.get_nil] at h
  new := fun a h => by have h : 4 ≤ a := h; simp only [jGlob]; rw [if_neg (by omega)]

section
variable {X : Type} {enc : TypeId × Value → X} {P : Program}
theorem post_of_below {f : Func} {s : ChangeSpec} {apart fresh handsOn again : Bool} {W W' : World} {args : Array Value} {v : Value} {ds gs : List (DataW X)} {before pa pv : List MemPlace}
    (hW : DataW.Whole enc P f.params.toList s.vars apart W args.toList ds gs before)
    (hres : ∀ (b : Nat) (sp : Nat → Bool) (hd : Bool), DataW.TrodAll enc P W' b sp hd f.resultTypes.toList (v.resultList f.resultTypes.size) (s.fn X (ds ++ gs)).results [])
    (hargs : ∀ sp : Nat → Bool, (∀ p ∈ before, sp p.block = true) → DataW.TrodAll enc P W' 0 sp true f.params.toList args.toList (s.fn X (ds ++ gs)).args pa)
    (hvars : ∀ sp : Nat → Bool, (∀ p ∈ before, sp p.block = true) → DataW.TrodVars enc P W' sp s.vars (s.fn X (ds ++ gs)).vars pv)
    (hps : before = pa ++ pv) (hb : Below W.heap.size W W')
    (hok : ∀ (j : Nat) (t : TypeId) (r : Value), f.resultTypes[j]? = some t → (v.resultList f.resultTypes.size)[j]? = some r → Value.okWide P W' .any 0 t r) :
    s.post enc P f apart fresh handsOn again W args v W' := by
  have hlt : ∀ p ∈ before, p.block < W.heap.size := fun p hp => hW.lt p hp
  have hold : ∀ p ∈ before, (fun b => decide (b < W.heap.size)) p.block = true := fun p hp => by simpa using hlt p hp
  refine ⟨ds, gs, before, [], pa, pv, hW, hres _ _ _, hargs _ hold, hvars _ hold, World.keptBut_mono (fun p hp => ⟨hp, ?_⟩) (hb.frame (· ∈ before)), fun _ => ?_⟩
  · rw [hps, List.mem_append] at hp
    exact Or.inr hp
  · obtain ⟨_, _, _, _, _, hz, hn⟩ := hW
    refine ⟨hok, _, _, ([] ++ pa) ++ pv, ⟨[] ++ pa, pv, trodAll_append (hargs _ (fun _ _ => rfl)) (hres _ _ _), hvars _ (fun _ _ => rfl), rfl, ?_, ?_⟩, ?_⟩
    · intro b off hp
      have hin : MemPlace.cell b off ∈ before := by rw [hps]; simpa using hp
      rw [hb.frozen (hlt _ hin)]
      exact hz b off hin
    · intro ha
      have := hn ha
      rw [hps] at this
      simpa using this
    · intro p hp _
      rw [hps]
      simpa using hp
end

theorem own : ownKnob Tryz.prog.godebug = none := by kernel_rfl
theorem laidOut : laidOutB Tryz.prog = true := by kernel_rfl

end Go.Proofs.YtmaccpaiaidgpaaGreatDoor

namespace Go.Proofs.YtmaccpaiaidgpaaGreatDoor
open Go
/-- No function of the program starts a goroutine. -/
theorem none_goes : Tryz.prog.funcs.toList.any Func.goes = false := by kernel_rfl
theorem goes_none (f : FuncId) : Tryz.prog.goes f = false := by
  have h : ∀ g fn, Tryz.prog.funcs[g]? = some fn → Func.goes fn = false := fun g fn hg => by
    have := List.any_eq_false.1 none_goes fn (by
      have := Array.mem_of_getElem? hg
      simpa using this)
    simpa using this
  have h2 : Tryz.prog.funcs.any Func.goes = false := by
    rw [← Array.any_toList]; exact none_goes
  unfold Program.goes
  rw [h2, Bool.and_false, Bool.or_false]
  rw [List.any_eq_false]
  intro g _
  cases hg : Tryz.prog.funcs[g]? with
  | none => simp
  | some fn => simp [h g fn hg]
end Go.Proofs.YtmaccpaiaidgpaaGreatDoor

