/- EngineNone: the contract over the model, for every argument that reads as data. -/
import Derived.Test.YtmaccpaiaidgpaaGreatDoorNoneA
import Derived.Test.YtmaccpaiaidgpaaGreatDoorMirE
import Derived.SizedLaws
import Derived.Test.YtmaccpaiaidgpaaGreatDoorTabsP
import Derived.Test.YtmaccpaiaidgpaaGreatDoorRows
import Derived.Test.YtmaccpaiaidgpaaGreatDoorCards
import Derived.Test.YtmaccpaiaidgpaaGreatDoorTie
import Derived.ProofKit
import Derived.OpenShut
import Derived.LaidMore
import Derived.Lay
import Derived.SevenTiedAt
import Derived.Stop.Joined
import Derived.Carry
/- The data of this program's types, taken over. -/
namespace Go.Proofs.YtmaccpaiaidgpaaGreatDoor
open Go Go.Mir
set_option maxRecDepth 100000
section
variable {H : Type} {enc : TypeId × Value → H} {w : World} {base : Nat} {sp : Nat → Bool} {held : Bool} {fuel : Nat} {cs : List Value} {x : DataW H × List MemPlace}

theorem c68 : Tryz.prog.cellsOf 68 = 4 := by kernel_rfl
theorem c70 : Tryz.prog.cellsOf 70 = 6 := by kernel_rfl
theorem c137 : Tryz.prog.cellsOf 137 = 5 := by kernel_rfl
theorem c117 : Tryz.prog.cellsOf 117 = 5 := by kernel_rfl
theorem c26 : Tryz.prog.cellsOf 26 = 8 := by kernel_rfl
theorem c3 : Tryz.prog.cellsOf 3 = 1 := by kernel_rfl
theorem c4 : Tryz.prog.cellsOf 4 = 1 := by kernel_rfl
theorem c5 : Tryz.prog.cellsOf 5 = 1 := by kernel_rfl
theorem c2 : Tryz.prog.cellsOf 2 = 1 := by kernel_rfl
theorem c9 : Tryz.prog.cellsOf 9 = 1 := by kernel_rfl
theorem c21 : Tryz.prog.cellsOf 21 = 1 := by kernel_rfl
theorem c22 : Tryz.prog.cellsOf 22 = 1 := by kernel_rfl
theorem c23 : Tryz.prog.cellsOf 23 = 1 := by kernel_rfl
theorem c24 : Tryz.prog.cellsOf 24 = 1 := by kernel_rfl
theorem c64 : Tryz.prog.cellsOf 64 = 1 := by kernel_rfl
theorem c77 : Tryz.prog.cellsOf 77 = 1 := by kernel_rfl
theorem c115 : Tryz.prog.cellsOf 115 = 1 := by kernel_rfl

/-- In its kind's range. -/
def PVal.ok (v : PVal) : Prop := (Lit.int .u8 v.kind).wf = true ∧ (Lit.int .i64 v.n).wf = true ∧ (Lit.int .u64 v.f).wf = true
def PAttr.ok (a : PAttr) : Prop := (Lit.int .i64 a.key).wf = true ∧ PVal.ok a.v
def PChg.ok (a : PChg) : Prop := (Lit.int .i64 a.key).wf = true ∧ PVal.ok a.v

theorem val_open (h : DataW.trod enc Tryz.prog w base sp held fuel 68 cs = some x) : ∃ v : PVal, cs = v.cells ∧ PVal.ok v := by
  obtain ⟨xs, n, _, _, hl, hx, hf⟩ := DataW.trod_struct Tryz.underlying68 h
  rw [c68] at hl
  match cs, hl with
  | [a, b, c, d], _ =>
    have f0 : DataW.trod enc Tryz.prog w base sp held n 5 (([a, b, c, d].drop 0).take (Tryz.prog.cellsOf 5)) = xs[0]? := hf 0 _ rfl
    rw [c5, List.getElem?_eq_getElem (by rw [hx]; decide)] at f0
    have f1 : DataW.trod enc Tryz.prog w base sp held n 2 (([a, b, c, d].drop 1).take (Tryz.prog.cellsOf 2)) = xs[1]? := hf 1 _ rfl
    rw [c2, List.getElem?_eq_getElem (by rw [hx]; decide)] at f1
    have f2 : DataW.trod enc Tryz.prog w base sp held n 64 (([a, b, c, d].drop 2).take (Tryz.prog.cellsOf 64)) = xs[2]? := hf 2 _ rfl
    rw [c64, List.getElem?_eq_getElem (by rw [hx]; decide)] at f2
    have f3 : DataW.trod enc Tryz.prog w base sp held n 9 (([a, b, c, d].drop 3).take (Tryz.prog.cellsOf 9)) = xs[3]? := hf 3 _ rfl
    rw [c9, List.getElem?_eq_getElem (by rw [hx]; decide)] at f3
    obtain ⟨v0, e0, _, w0⟩ := DataW.trod_int Tryz.underlying5 f0
    obtain ⟨v1, e1, _, w1⟩ := DataW.trod_int Tryz.underlying2 f1
    obtain ⟨v2, e2, _, w2⟩ := DataW.trod_int Tryz.underlying64 f2
    obtain ⟨v3, e3, _, _⟩ := DataW.trod_string Tryz.underlying9 f3
    simp at e0 e1 e2 e3
    subst e0
    subst e1
    subst e2
    subst e3
    exact ⟨⟨v0, v1, v2, v3⟩, rfl, w0, w1, w2⟩

theorem attr_open (h : DataW.trod enc Tryz.prog w base sp held fuel 137 cs = some x) : ∃ v : PAttr, cs = v.cells ∧ PAttr.ok v := by
  obtain ⟨xs, n, _, _, hl, hx, hf⟩ := DataW.trod_struct Tryz.underlying137 h
  rw [c137] at hl
  match cs, hl with
  | [a, b, c, d, e], _ =>
    have f0 : DataW.trod enc Tryz.prog w base sp held n 3 (([a, b, c, d, e].drop 0).take (Tryz.prog.cellsOf 3)) = xs[0]? := hf 0 _ rfl
    rw [c3, List.getElem?_eq_getElem (by rw [hx]; decide)] at f0
    have f1 : DataW.trod enc Tryz.prog w base sp held n 68 (([a, b, c, d, e].drop 1).take (Tryz.prog.cellsOf 68)) = xs[1]? := hf 1 _ rfl
    rw [c68, List.getElem?_eq_getElem (by rw [hx]; decide)] at f1
    obtain ⟨v0, e0, _, w0⟩ := DataW.trod_int Tryz.underlying3 f0
    obtain ⟨v1, e1, w1⟩ := val_open f1
    simp [PVal.cells] at e0 e1
    subst e0
    obtain ⟨rfl, rfl, rfl, rfl⟩ := e1
    exact ⟨⟨v0, v1⟩, rfl, w0, w1⟩

theorem chg_open (h : DataW.trod enc Tryz.prog w base sp held fuel 70 cs = some x) : ∃ v : PChg, cs = v.cells ∧ PChg.ok v := by
  obtain ⟨xs, n, _, _, hl, hx, hf⟩ := DataW.trod_struct Tryz.underlying70 h
  rw [c70] at hl
  match cs, hl with
  | [a, b, c, d, e, f], _ =>
    have f0 : DataW.trod enc Tryz.prog w base sp held n 3 (([a, b, c, d, e, f].drop 0).take (Tryz.prog.cellsOf 3)) = xs[0]? := hf 0 _ rfl
    rw [c3, List.getElem?_eq_getElem (by rw [hx]; decide)] at f0
    have f1 : DataW.trod enc Tryz.prog w base sp held n 4 (([a, b, c, d, e, f].drop 1).take (Tryz.prog.cellsOf 4)) = xs[1]? := hf 1 _ rfl
    rw [c4, List.getElem?_eq_getElem (by rw [hx]; decide)] at f1
    have f2 : DataW.trod enc Tryz.prog w base sp held n 68 (([a, b, c, d, e, f].drop 2).take (Tryz.prog.cellsOf 68)) = xs[2]? := hf 2 _ rfl
    rw [c68, List.getElem?_eq_getElem (by rw [hx]; decide)] at f2
    obtain ⟨v0, e0, _, w0⟩ := DataW.trod_int Tryz.underlying3 f0
    obtain ⟨v1, e1, _⟩ := DataW.trod_bool Tryz.underlying4 f1
    obtain ⟨v2, e2, w2⟩ := val_open f2
    simp [PVal.cells] at e0 e1 e2
    subst e0
    subst e1
    obtain ⟨rfl, rfl, rfl, rfl⟩ := e2
    exact ⟨⟨v0, v1, v2⟩, rfl, w0, w2⟩


variable {C : Ctx}
abbrev W_ (x : DataW H × List MemPlace) (t : TypeId) : Prop := ∀ n ∈ x.1.weights Tryz.prog t, n ≤ reachBytes

theorem int_lit {k : IntKind} {n : Int} : ∀ v ∈ [Value.int k n], lit v = true := by intro v hv; simp only [List.mem_singleton] at hv; subst hv; rfl

theorem bytes_can (h : DataW.trod enc Tryz.prog w base sp held fuel 23 cs = some x) (hw : W_ x 23) : Take C w cs (fun h cs' => ∃ v xs, cs' = [v] ∧ Sl h (Here h) 1 RByte v xs) :=
  can_slice (R := fun _ => RByte) Tryz.underlying23 c5 (by omega) (by kernel_rfl) (fun _ _ _ _ q _ => q) (fun fuel cs x h _ => by
    obtain ⟨n, rfl, _, hwf⟩ := DataW.trod_int Tryz.underlying5 h
    simp only [Lit.wf, IntKind.min, IntKind.max, IntKind.signed, IntKind.bits, Bool.and_eq_true] at hwf
    refine Take.lit int_lit (fun h => ⟨rfl, UInt8.ofNat n.toNat, ?_⟩)
    unfold RByte
    have : ((UInt8.ofNat n.toNat).toNat : Int) = n := by
      simp at hwf
      rw [UInt8.toNat_ofNat']; omega
    rw [this]) h hw

theorem runes_can (h : DataW.trod enc Tryz.prog w base sp held fuel 115 cs = some x) (hw : W_ x 115) : Take C w cs (fun h cs' => ∃ v xs, cs' = [v] ∧ Sl h (Here h) 1 RRune v xs) :=
  can_slice (R := fun _ => RRune) Tryz.underlying115 c21 (by omega) (by kernel_rfl) (fun _ _ _ _ q _ => q) (fun fuel cs x h _ => by
    obtain ⟨n, rfl, _, hwf⟩ := DataW.trod_int Tryz.underlying21 h
    exact Take.lit int_lit (fun h => ⟨rfl, n, rfl⟩)) h hw

theorem set_can (h : DataW.trod enc Tryz.prog w base sp held fuel 77 cs = some x) (hw : W_ x 77) : Take C w cs (fun h cs' => ∃ v xs, cs' = [v] ∧ Sl h (Here h) 5 RAttr v xs) :=
  can_slice (R := fun _ => RAttr) Tryz.underlying77 c137 (by omega) (by kernel_rfl) (fun _ _ _ _ q _ => q) (fun fuel cs x h _ => by
    obtain ⟨v, rfl, _⟩ := attr_open h
    exact Take.lit (by intro y hy; simp only [PAttr.cells, PVal.cells, List.mem_cons, List.mem_nil_iff, or_false] at hy; rcases hy with rfl | rfl | rfl | rfl | rfl <;> rfl) (fun h => ⟨rfl, v, rfl⟩)) h hw

theorem patch_can (h : DataW.trod enc Tryz.prog w base sp held fuel 24 cs = some x) (hw : W_ x 24) : Take C w cs (fun h cs' => ∃ v xs, cs' = [v] ∧ Sl h (Here h) 6 RChg v xs) :=
  can_slice (R := fun _ => RChg) Tryz.underlying24 c70 (by omega) (by kernel_rfl) (fun _ _ _ _ q _ => q) (fun fuel cs x h _ => by
    obtain ⟨v, rfl, _⟩ := chg_open h
    exact Take.lit (by intro y hy; simp only [PChg.cells, PVal.cells, List.mem_cons, List.mem_nil_iff, or_false] at hy; rcases hy with rfl | rfl | rfl | rfl | rfl | rfl <;> rfl) (fun h => ⟨rfl, v, rfl⟩)) h hw

theorem here_le {h h' : Mir.H} (q : Le h h') : ∀ a, Here h a → Here h' a ∧ h'.get a = h.get a := fun a ha => ⟨Nat.lt_of_lt_of_le ha q.1, q.2 a ha⟩

theorem sl_mono {α : Type} {wd : Nat} {R : α → List Value → Prop} : Mono (fun h cs => ∃ v xs, cs = [v] ∧ Sl h (Here h) wd R v (xs : List α)) := fun _ _ _ ⟨v, xs, e, q⟩ l =>
  ⟨v, xs, e, q.to (here_le l) (fun _ _ q => q)⟩

theorem op_can (h : DataW.trod enc Tryz.prog w base sp held fuel 117 cs = some x) (hw : W_ x 117) : Take C w cs (fun h cs' => cs'.length = 5 ∧ ∃ a, ROp h (Here h) a cs') := by
  obtain ⟨xs, n, _, rfl, hl, hx, hf⟩ := DataW.trod_struct Tryz.underlying117 h
  rw [c117] at hl
  match cs, hl with
  | [a, b, c, d, e], _ =>
    have f0 : DataW.trod enc Tryz.prog w base sp held n 5 (([a, b, c, d, e].drop 0).take (Tryz.prog.cellsOf 5)) = xs[0]? := hf 0 _ rfl
    have f1 : DataW.trod enc Tryz.prog w base sp held n 3 (([a, b, c, d, e].drop 1).take (Tryz.prog.cellsOf 3)) = xs[1]? := hf 1 _ rfl
    have f2 : DataW.trod enc Tryz.prog w base sp held n 115 (([a, b, c, d, e].drop 2).take (Tryz.prog.cellsOf 115)) = xs[2]? := hf 2 _ rfl
    have f3 : DataW.trod enc Tryz.prog w base sp held n 77 (([a, b, c, d, e].drop 3).take (Tryz.prog.cellsOf 77)) = xs[3]? := hf 3 _ rfl
    have f4 : DataW.trod enc Tryz.prog w base sp held n 24 (([a, b, c, d, e].drop 4).take (Tryz.prog.cellsOf 24)) = xs[4]? := hf 4 _ rfl
    have hsz : xs.length = 5 := hx
    rw [c5, List.getElem?_eq_getElem (by omega)] at f0
    rw [c3, List.getElem?_eq_getElem (by omega)] at f1
    rw [c115, List.getElem?_eq_getElem (by omega)] at f2
    rw [c77, List.getElem?_eq_getElem (by omega)] at f3
    rw [c24, List.getElem?_eq_getElem (by omega)] at f4
    obtain ⟨v0, e0, _, _⟩ := DataW.trod_int Tryz.underlying5 f0
    obtain ⟨v1, e1, _, _⟩ := DataW.trod_int Tryz.underlying3 f1
    simp at e0 e1
    subst e0; subst e1
    have hws : ∀ (j : Nat) (t : TypeId) (hj : j < xs.length), [(5 : TypeId), 3, 115, 77, 24][j]? = some t → W_ xs[j] t := fun j t hj ht m hm => by
      apply hw
      simp only [DataW.weights, Tryz.underlying117]
      refine DataW.weights_mem_each (j := j) (t := t) (d := xs[j].1) ?_ ?_ m hm
      · simpa using ht
      · rw [List.getElem?_map, List.getElem?_eq_getElem hj]; rfl
    have r := Take.append (C := C) (ls := [.int .u8 v0, .int .i64 v1]) (Take.lit (R := fun _ cs => cs = [.int .u8 v0, .int .i64 v1]) (by intro y hy; simp only [List.mem_cons, List.mem_nil_iff, or_false] at hy; rcases hy with rfl | rfl <;> rfl) (fun _ => rfl)) (fun _ _ _ q _ => q)
      (Take.append (runes_can f2 (hws 2 115 (by omega) rfl)) sl_mono (Take.append (set_can f3 (hws 3 77 (by omega) rfl)) sl_mono (patch_can f4 (hws 4 24 (by omega) rfl))))
    refine r.mono fun h cs ⟨q1, q2, e1, e2, q3, q4, e3, ⟨r, rs, e4, hr⟩, q5, q6, e5, ⟨s, ss, e6, hs⟩, ⟨p, ps, e7, hp⟩⟩ => ?_
    subst e1 e2 e3 e4 e5 e6 e7
    exact ⟨rfl, ⟨v0, v1, rs, ss, ps⟩, r, s, p, rfl, hr, hs, hp⟩

theorem ops_can (h : DataW.trod enc Tryz.prog w base sp held fuel 22 cs = some x) (hw : W_ x 22) : Take C w cs (fun h cs' => ∃ v xs, cs' = [v] ∧ Sl h (Here h) 5 (ROp h (Here h)) v xs) :=
  can_slice (R := fun h => ROp h (Here h)) Tryz.underlying22 c117 (by omega) (by kernel_rfl) (fun h h' x cs q l => q.to (here_le l)) (fun fuel cs x h hw => op_can h hw) h hw

/-- The data of a command of the reference. -/
def RDo (h : Mir.H) (cs : List Value) : Prop := ∃ (k i j key b : Int) (X : Value) (ba : Option Addr) (bn bc : Nat) (P : Value) (xs : List POp) (ps : List PChg),
  cs = [.int .i64 k, .int .i64 i, .int .i64 j, .int .i64 key, .int .i64 b, X, .slice ba bn bc, P] ∧ Sl h (Here h) 5 (ROp h (Here h)) X xs ∧ Sl h (Here h) 6 RChg P ps

theorem do_can (h : DataW.trod enc Tryz.prog w base sp held fuel 26 cs = some x) (hw : W_ x 26) : Take C w cs RDo := by
  obtain ⟨xs, n, _, rfl, hl, hx, hf⟩ := DataW.trod_struct Tryz.underlying26 h
  rw [c26] at hl
  match cs, hl with
  | [a, b, c, d, e, f, g, i], _ =>
    have f0 : DataW.trod enc Tryz.prog w base sp held n 3 (([a, b, c, d, e, f, g, i].drop 0).take (Tryz.prog.cellsOf 3)) = xs[0]? := hf 0 _ rfl
    have f1 : DataW.trod enc Tryz.prog w base sp held n 3 (([a, b, c, d, e, f, g, i].drop 1).take (Tryz.prog.cellsOf 3)) = xs[1]? := hf 1 _ rfl
    have f2 : DataW.trod enc Tryz.prog w base sp held n 3 (([a, b, c, d, e, f, g, i].drop 2).take (Tryz.prog.cellsOf 3)) = xs[2]? := hf 2 _ rfl
    have f3 : DataW.trod enc Tryz.prog w base sp held n 3 (([a, b, c, d, e, f, g, i].drop 3).take (Tryz.prog.cellsOf 3)) = xs[3]? := hf 3 _ rfl
    have f4 : DataW.trod enc Tryz.prog w base sp held n 3 (([a, b, c, d, e, f, g, i].drop 4).take (Tryz.prog.cellsOf 3)) = xs[4]? := hf 4 _ rfl
    have f5 : DataW.trod enc Tryz.prog w base sp held n 22 (([a, b, c, d, e, f, g, i].drop 5).take (Tryz.prog.cellsOf 22)) = xs[5]? := hf 5 _ rfl
    have f6 : DataW.trod enc Tryz.prog w base sp held n 23 (([a, b, c, d, e, f, g, i].drop 6).take (Tryz.prog.cellsOf 23)) = xs[6]? := hf 6 _ rfl
    have f7 : DataW.trod enc Tryz.prog w base sp held n 24 (([a, b, c, d, e, f, g, i].drop 7).take (Tryz.prog.cellsOf 24)) = xs[7]? := hf 7 _ rfl
    have hsz : xs.length = 8 := hx
    rw [c3, List.getElem?_eq_getElem (by omega)] at f0
    rw [c3, List.getElem?_eq_getElem (by omega)] at f1
    rw [c3, List.getElem?_eq_getElem (by omega)] at f2
    rw [c3, List.getElem?_eq_getElem (by omega)] at f3
    rw [c3, List.getElem?_eq_getElem (by omega)] at f4
    rw [c22, List.getElem?_eq_getElem (by omega)] at f5
    rw [c23, List.getElem?_eq_getElem (by omega)] at f6
    rw [c24, List.getElem?_eq_getElem (by omega)] at f7
    obtain ⟨v0, e0, _, _⟩ := DataW.trod_int Tryz.underlying3 f0
    obtain ⟨v1, e1, _, _⟩ := DataW.trod_int Tryz.underlying3 f1
    obtain ⟨v2, e2, _, _⟩ := DataW.trod_int Tryz.underlying3 f2
    obtain ⟨v3, e3, _, _⟩ := DataW.trod_int Tryz.underlying3 f3
    obtain ⟨v4, e4, _, _⟩ := DataW.trod_int Tryz.underlying3 f4
    simp at e0 e1 e2 e3 e4
    subst e0 e1 e2 e3 e4
    have hws : ∀ (j : Nat) (t : TypeId) (hj : j < xs.length), [(3 : TypeId), 3, 3, 3, 3, 22, 23, 24][j]? = some t → W_ xs[j] t := fun j t hj ht m hm => by
      apply hw
      simp only [DataW.weights, Tryz.underlying26]
      refine DataW.weights_mem_each (j := j) (t := t) (d := xs[j].1) ?_ ?_ m hm
      · simpa using ht
      · rw [List.getElem?_map, List.getElem?_eq_getElem hj]; rfl
    have r := Take.append (C := C) (ls := [.int .i64 v0, .int .i64 v1, .int .i64 v2, .int .i64 v3, .int .i64 v4]) (Take.lit (R := fun _ cs => cs = [.int .i64 v0, .int .i64 v1, .int .i64 v2, .int .i64 v3, .int .i64 v4]) (by intro y hy; simp only [List.mem_cons, List.mem_nil_iff, or_false] at hy; rcases hy with rfl | rfl | rfl | rfl | rfl <;> rfl) (fun _ => rfl)) (fun _ _ _ q _ => q)
      (Take.append (ops_can f5 (hws 5 22 (by omega) rfl)) (fun _ _ _ ⟨v, xs, e, q⟩ l => ⟨v, xs, e, q.to (here_le l) (fun _ _ q => q.to (here_le l))⟩) (Take.append (bytes_can f6 (hws 6 23 (by omega) rfl)) sl_mono (patch_can f7 (hws 7 24 (by omega) rfl))))
    refine r.mono fun h cs ⟨q1, q2, e1, e2, q3, q4, e3, ⟨r, rs, e4, hr⟩, q5, q6, e5, ⟨s, ss, e6, hs⟩, ⟨p, ps, e7, hp⟩⟩ => ?_
    obtain ⟨ba, bn, bc, rfl, _⟩ := hs
    subst e1 e2 e3 e4 e5 e6 e7
    exact ⟨v0, v1, v2, v3, v4, r, ba, bn, bc, p, rs, ps, rfl, hr, hp⟩
end
end Go.Proofs.YtmaccpaiaidgpaaGreatDoor

namespace Go.Proofs.YtmaccpaiaidgpaaGreatDoor
open Go Go.Mir Go.ChangeShapes Go.WideShapes Go.ChangeAt Go.RowKit
set_option maxRecDepth 100000

/-- Where only rows that are read stand, a call leaves all that was there. -/
theorem below_of {j j' : J} {h h' : H} {w w' : World} (q : Imp cxo w j h) (a : Adv j h w j' h' w') : Below w.heap.size w w' :=
  ⟨a.os, a.tape, a.out, a.sz, fun k hk => a.keep k hk (by
    rintro ⟨x, i, y, _, h2, h3, _⟩
    rw [q.rom x y h2] at h3; cases h3)⟩

/-- From the evaluator's answer to the model's call. -/
theorem calls_of {g : Nat} {fn : Func} {c : Code} (hg : cxo.fn.get g = some fn) (hb : fn.body = some c) {args : List Value} {j : J} {h : H} {w : World} (q : Imp cxo w j h) (ha : ∀ a ∈ args, Wf j a)
    (e : Cal cxo g args h (fun r h' => r = .bool true ∧ Le h h')) {margs : Array Value} (hm : (⟨args.map (ren j)⟩ : Array Value) = margs) : Calls Tryz.prog g margs w fun x w' => x = .returned (.bool true) ∧ Below w.heap.size w w' := by
  subst hm
  obtain ⟨n, v, h', he, _, rfl, hl⟩ := e.run
  refine (ev_call cxoOk hg hb he q.rel ha (fun a h1 _ => q.new a h1)).mono fun x w' ⟨j', e1, ad, _, _⟩ => ?_
  exact ⟨by rw [e1]; simp [ren], below_of q ad⟩

theorem imp_glob (w : World) : Imp cxo w (jGlob 4) ⟨4, .nil⟩ where
  rel := rel_glob cxo w
  rom := fun a x h => by simp [H.get, T.get_nil] at h
  new := fun a h => by have h : 4 ≤ a := h; simp only [jGlob]; rw [if_neg (by omega)]

section
variable {X : Type} {enc : TypeId × Value → X} {P : Program}
theorem post_of_below {f : Func} {s : ChangeSpec} {apart fresh handsOn again : Bool} {W W' : World} {args : Array Value} {v : Value} {ds gs : List (DataW X)} {before pa pv : List MemPlace}
    (hW : DataW.Whole enc P f.params.toList s.vars apart W args.toList ds gs before)
    (hres : ∀ (b : Nat) (sp : Nat → Bool) (hd : Bool), DataW.TrodAll enc P W' b sp hd f.resultTypes.toList (v.resultList f.resultTypes.size) (s.fn X (ds ++ gs)).results [])
    (hargs : ∀ sp : Nat → Bool, (∀ p ∈ before, sp p.block = true) → DataW.TrodAll enc P W' 0 sp true f.params.toList args.toList (s.fn X (ds ++ gs)).args pa)
    (hvars : ∀ sp : Nat → Bool, (∀ p ∈ before, sp p.block = true) → DataW.TrodVars enc P W' sp s.vars (s.fn X (ds ++ gs)).vars pv)
    (hps : before = pa ++ pv) (hb : Below W.heap.size W W')
    (hok : ∀ (j : Nat) (t : TypeId) (r : Value), f.resultTypes[j]? = some t → (v.resultList f.resultTypes.size)[j]? = some r → Value.okWide P W' .any 0 t r) :
    s.post enc P f apart fresh handsOn again W args v W' := by
  have hlt : ∀ p ∈ before, p.block < W.heap.size := fun p hp => hW.lt p hp
  have hold : ∀ p ∈ before, (fun b => decide (b < W.heap.size)) p.block = true := fun p hp => by simpa using hlt p hp
  refine ⟨ds, gs, before, [], pa, pv, hW, hres _ _ _, hargs _ hold, hvars _ hold, World.keptBut_mono (fun p hp => ⟨hp, ?_⟩) (hb.frame (· ∈ before)), fun _ => ?_⟩
  · rw [hps, List.mem_append] at hp
    exact Or.inr hp
  · obtain ⟨_, _, _, _, _, hz, hn⟩ := hW
    refine ⟨hok, _, _, ([] ++ pa) ++ pv, ⟨[] ++ pa, pv, trodAll_append (hargs _ (fun _ _ => rfl)) (hres _ _ _), hvars _ (fun _ _ => rfl), rfl, ?_, ?_⟩, ?_⟩
    · intro b off hp
      have hin : MemPlace.cell b off ∈ before := by rw [hps]; simpa using hp
      rw [hb.frozen (hlt _ hin)]
      exact hz b off hin
    · intro ha
      have := hn ha
      rw [hps] at this
      simpa using this
    · intro p hp _
      rw [hps]
      simpa using hp
end

theorem own : ownKnob Tryz.prog.godebug = none := by kernel_rfl
theorem laidOut : laidOutB Tryz.prog = true := by kernel_rfl

theorem engineNone_contract (X : Type) (enc : TypeId × Value → X) (W : World) (base : Nat) (args : Array Value) (ds gs : List (DataW X)) (before : List MemPlace)
    (hval0 : ∀ (j : Nat) t v, Tryz.f3.params[j]? = some t → args[j]? = some v → Value.okWide Tryz.prog W .any base t v)
    (hW : DataW.Whole enc Tryz.prog Tryz.f3.params.toList Rows.engineNoneSpec.vars false W args.toList ds gs before)
    (hZ : (DataW.weightsEach Tryz.prog (Tryz.f3.params.toList ++ Rows.engineNoneSpec.plain.varTypes Tryz.prog) (ds ++ gs)).all (· ≤ reachBytes) = true) :
    Calls Tryz.prog 3 args W fun e W' => ∃ v, e = .returned v ∧ Rows.engineNoneSpec.post enc Tryz.prog Tryz.f3 false true false false W args v W' := by
  have hval : ∀ (j : Nat) t v, Tryz.f3.params[j]? = some t → args[j]? = some v → Value.okWide Tryz.prog W .any base t v := hval0
  have hW' := hW
  obtain ⟨p, q, hA0, hV, rfl, _, _⟩ := hW
  have hA : DataW.TrodAll enc Tryz.prog W 0 (fun _ => true) true Tryz.f3.params.toList args.toList ds p := hA0
  rw [Tryz.params3] at hA hval hZ
  obtain ⟨v0, d0, rfl, rfl, h0⟩ := trodAll_one hA
  obtain ⟨rfl, rfl⟩ := trodVars_none hV
  have h0k := h0
  obtain ⟨n, hn⟩ := h0
  have hv0 := hval 0 26 v0 rfl rfl
  unfold Value.okWide at hv0
  rw [Tryz.underlying26] at hv0
  obtain ⟨⟨cs⟩, rfl, _, _⟩ := hv0
  obtain ⟨j, h, cs', hi, _, _, hm, hwf, hdo⟩ := do_can (C := cxo) hn (fun m hm => by
    have := List.all_eq_true.1 hZ m (DataW.weights_mem_each (j := 0) (t := 26) (d := d0) rfl rfl m hm)
    simpa using this) _ _ (imp_glob W)
  obtain ⟨k, i, jj, key, b, Y, ba, bn, bc, Q, xs, ps, rfl, hx, hp⟩ := hdo
  have run := calls_of (g := 3) (fn := Tryz.f3) (by rfl) (by rfl) hi (args := [.agg ⟨[.int .i64 k, .int .i64 i, .int .i64 jj, .int .i64 key, .int .i64 b, Y, .slice ba bn bc, Q]⟩]) (by
    intro a ha
    simp only [List.mem_singleton] at ha
    subst ha
    simp only [Wf]
    exact (Wfs_iff _ _).2 hwf) (none_law hx hp) (margs := #[.agg ⟨cs⟩]) (by
    simp only [List.map_cons, List.map_nil, ren, rens_eq, hm]; rfl)
  simp only [List.append_nil] at hW'
  refine run.mono fun e W' ⟨he, hb⟩ => ?_
  subst he
  exact ⟨_, rfl, post_of_below (pa := p) (pv := []) hW' (fun _ _ _ => trodAll_mk1 (shut_bool Tryz.underlying4 _))
    (fun sp hs => trodAll_mk1 (WideElems.Trod_stays laidOut (by kernel_rfl) (by decide +kernel) h0k (fun x hx => hb.same (hW'.lt x (by simpa using hx))) (fun x hx => hs x (by simpa using hx)))) (fun _ _ => rfl) (by simp) hb (ok_one (by kernel_rfl) rfl (okWide_bool_mk Tryz.underlying4 _))⟩

end Go.Proofs.YtmaccpaiaidgpaaGreatDoor

