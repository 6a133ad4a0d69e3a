/- Data of this program, taken over into the evaluator. -/
import Derived.Test.YtmaccpaiaidgpaaGreatDoorTabsO
import Derived.Test.YtmaccpaiaidgpaaGreatDoorMirE
import Derived.SizedLaws
/- The data of this program's types, taken over. -/
namespace Go.Proofs.YtmaccpaiaidgpaaGreatDoor
open Go Go.Mir
set_option maxRecDepth 100000
section
variable {H : Type} {enc : TypeId × Value → H} {w : World} {base : Nat} {sp : Nat → Bool} {held : Bool} {fuel : Nat} {cs : List Value} {x : DataW H × List MemPlace}

theorem c68 : Tryz.prog.cellsOf 68 = 4 := by kernel_rfl
theorem c70 : Tryz.prog.cellsOf 70 = 6 := by kernel_rfl
theorem c137 : Tryz.prog.cellsOf 137 = 5 := by kernel_rfl
theorem c117 : Tryz.prog.cellsOf 117 = 5 := by kernel_rfl
theorem c26 : Tryz.prog.cellsOf 26 = 8 := by kernel_rfl
theorem c3 : Tryz.prog.cellsOf 3 = 1 := by kernel_rfl
theorem c4 : Tryz.prog.cellsOf 4 = 1 := by kernel_rfl
theorem c5 : Tryz.prog.cellsOf 5 = 1 := by kernel_rfl
theorem c2 : Tryz.prog.cellsOf 2 = 1 := by kernel_rfl
theorem c9 : Tryz.prog.cellsOf 9 = 1 := by kernel_rfl
theorem c21 : Tryz.prog.cellsOf 21 = 1 := by kernel_rfl
theorem c22 : Tryz.prog.cellsOf 22 = 1 := by kernel_rfl
theorem c23 : Tryz.prog.cellsOf 23 = 1 := by kernel_rfl
theorem c24 : Tryz.prog.cellsOf 24 = 1 := by kernel_rfl
theorem c64 : Tryz.prog.cellsOf 64 = 1 := by kernel_rfl
theorem c77 : Tryz.prog.cellsOf 77 = 1 := by kernel_rfl
theorem c115 : Tryz.prog.cellsOf 115 = 1 := by kernel_rfl

/-- In its kind's range. -/
def PVal.ok (v : PVal) : Prop := (Lit.int .u8 v.kind).wf = true ∧ (Lit.int .i64 v.n).wf = true ∧ (Lit.int .u64 v.f).wf = true
def PAttr.ok (a : PAttr) : Prop := (Lit.int .i64 a.key).wf = true ∧ PVal.ok a.v
def PChg.ok (a : PChg) : Prop := (Lit.int .i64 a.key).wf = true ∧ PVal.ok a.v

theorem val_open (h : DataW.trod enc Tryz.prog w base sp held fuel 68 cs = some x) : ∃ v : PVal, cs = v.cells ∧ PVal.ok v := by
  obtain ⟨xs, n, _, _, hl, hx, hf⟩ := DataW.trod_struct Tryz.underlying68 h
  rw [c68] at hl
  match cs, hl with
  | [a, b, c, d], _ =>
    have f0 : DataW.trod enc Tryz.prog w base sp held n 5 (([a, b, c, d].drop 0).take (Tryz.prog.cellsOf 5)) = xs[0]? := hf 0 _ rfl
    rw [c5, List.getElem?_eq_getElem (by rw [hx]; decide)] at f0
    have f1 : DataW.trod enc Tryz.prog w base sp held n 2 (([a, b, c, d].drop 1).take (Tryz.prog.cellsOf 2)) = xs[1]? := hf 1 _ rfl
    rw [c2, List.getElem?_eq_getElem (by rw [hx]; decide)] at f1
    have f2 : DataW.trod enc Tryz.prog w base sp held n 64 (([a, b, c, d].drop 2).take (Tryz.prog.cellsOf 64)) = xs[2]? := hf 2 _ rfl
    rw [c64, List.getElem?_eq_getElem (by rw [hx]; decide)] at f2
    have f3 : DataW.trod enc Tryz.prog w base sp held n 9 (([a, b, c, d].drop 3).take (Tryz.prog.cellsOf 9)) = xs[3]? := hf 3 _ rfl
    rw [c9, List.getElem?_eq_getElem (by rw [hx]; decide)] at f3
    obtain ⟨v0, e0, _, w0⟩ := DataW.trod_int Tryz.underlying5 f0
    obtain ⟨v1, e1, _, w1⟩ := DataW.trod_int Tryz.underlying2 f1
    obtain ⟨v2, e2, _, w2⟩ := DataW.trod_int Tryz.underlying64 f2
    obtain ⟨v3, e3, _, _⟩ := DataW.trod_string Tryz.underlying9 f3
    simp at e0 e1 e2 e3
    subst e0
    subst e1
    subst e2
    subst e3
    exact ⟨⟨v0, v1, v2, v3⟩, rfl, w0, w1, w2⟩

theorem attr_open (h : DataW.trod enc Tryz.prog w base sp held fuel 137 cs = some x) : ∃ v : PAttr, cs = v.cells ∧ PAttr.ok v := by
  obtain ⟨xs, n, _, _, hl, hx, hf⟩ := DataW.trod_struct Tryz.underlying137 h
  rw [c137] at hl
  match cs, hl with
  | [a, b, c, d, e], _ =>
    have f0 : DataW.trod enc Tryz.prog w base sp held n 3 (([a, b, c, d, e].drop 0).take (Tryz.prog.cellsOf 3)) = xs[0]? := hf 0 _ rfl
    rw [c3, List.getElem?_eq_getElem (by rw [hx]; decide)] at f0
    have f1 : DataW.trod enc Tryz.prog w base sp held n 68 (([a, b, c, d, e].drop 1).take (Tryz.prog.cellsOf 68)) = xs[1]? := hf 1 _ rfl
    rw [c68, List.getElem?_eq_getElem (by rw [hx]; decide)] at f1
    obtain ⟨v0, e0, _, w0⟩ := DataW.trod_int Tryz.underlying3 f0
    obtain ⟨v1, e1, w1⟩ := val_open f1
    simp [PVal.cells] at e0 e1
    subst e0
    obtain ⟨rfl, rfl, rfl, rfl⟩ := e1
    exact ⟨⟨v0, v1⟩, rfl, w0, w1⟩

theorem chg_open (h : DataW.trod enc Tryz.prog w base sp held fuel 70 cs = some x) : ∃ v : PChg, cs = v.cells ∧ PChg.ok v := by
  obtain ⟨xs, n, _, _, hl, hx, hf⟩ := DataW.trod_struct Tryz.underlying70 h
  rw [c70] at hl
  match cs, hl with
  | [a, b, c, d, e, f], _ =>
    have f0 : DataW.trod enc Tryz.prog w base sp held n 3 (([a, b, c, d, e, f].drop 0).take (Tryz.prog.cellsOf 3)) = xs[0]? := hf 0 _ rfl
    rw [c3, List.getElem?_eq_getElem (by rw [hx]; decide)] at f0
    have f1 : DataW.trod enc Tryz.prog w base sp held n 4 (([a, b, c, d, e, f].drop 1).take (Tryz.prog.cellsOf 4)) = xs[1]? := hf 1 _ rfl
    rw [c4, List.getElem?_eq_getElem (by rw [hx]; decide)] at f1
    have f2 : DataW.trod enc Tryz.prog w base sp held n 68 (([a, b, c, d, e, f].drop 2).take (Tryz.prog.cellsOf 68)) = xs[2]? := hf 2 _ rfl
    rw [c68, List.getElem?_eq_getElem (by rw [hx]; decide)] at f2
    obtain ⟨v0, e0, _, w0⟩ := DataW.trod_int Tryz.underlying3 f0
    obtain ⟨v1, e1, _⟩ := DataW.trod_bool Tryz.underlying4 f1
    obtain ⟨v2, e2, w2⟩ := val_open f2
    simp [PVal.cells] at e0 e1 e2
    subst e0
    subst e1
    obtain ⟨rfl, rfl, rfl, rfl⟩ := e2
    exact ⟨⟨v0, v1, v2⟩, rfl, w0, w2⟩


variable {C : Ctx}
abbrev W_ (x : DataW H × List MemPlace) (t : TypeId) : Prop := ∀ n ∈ x.1.weights Tryz.prog t, n ≤ reachBytes

theorem int_lit {k : IntKind} {n : Int} : ∀ v ∈ [Value.int k n], lit v = true := by intro v hv; simp only [List.mem_singleton] at hv; subst hv; rfl

theorem bytes_canK (h : DataW.trod enc Tryz.prog w base sp held fuel 23 cs = some x) (hw : W_ x 23) : Take C w cs (fun h cs' => ∃ v xs, cs' = [v] ∧ SlK h (Here h) 1 RByte v xs) :=
  can_sliceK (R := fun _ => RByte) Tryz.underlying23 c5 (by omega) (by kernel_rfl) (fun _ _ _ _ q _ => q) (fun fuel cs x h _ => by
    obtain ⟨n, rfl, _, hwf⟩ := DataW.trod_int Tryz.underlying5 h
    simp only [Lit.wf, IntKind.min, IntKind.max, IntKind.signed, IntKind.bits, Bool.and_eq_true] at hwf
    refine Take.lit int_lit (fun h => ⟨rfl, UInt8.ofNat n.toNat, ?_⟩)
    unfold RByte
    have : ((UInt8.ofNat n.toNat).toNat : Int) = n := by
      simp at hwf
      rw [UInt8.toNat_ofNat']; omega
    rw [this]) h hw

theorem bytes_can (h : DataW.trod enc Tryz.prog w base sp held fuel 23 cs = some x) (hw : W_ x 23) : Take C w cs (fun h cs' => ∃ v xs, cs' = [v] ∧ Sl h (Here h) 1 RByte v xs) :=
  (bytes_canK h hw).mono fun _ _ ⟨v, xs, e, q, _⟩ => ⟨v, xs, e, q⟩

theorem runes_can (h : DataW.trod enc Tryz.prog w base sp held fuel 115 cs = some x) (hw : W_ x 115) : Take C w cs (fun h cs' => ∃ v xs, cs' = [v] ∧ Sl h (Here h) 1 RRune v xs) :=
  can_slice (R := fun _ => RRune) Tryz.underlying115 c21 (by omega) (by kernel_rfl) (fun _ _ _ _ q _ => q) (fun fuel cs x h _ => by
    obtain ⟨n, rfl, _, hwf⟩ := DataW.trod_int Tryz.underlying21 h
    exact Take.lit int_lit (fun h => ⟨rfl, n, rfl⟩)) h hw

theorem set_can (h : DataW.trod enc Tryz.prog w base sp held fuel 77 cs = some x) (hw : W_ x 77) : Take C w cs (fun h cs' => ∃ v xs, cs' = [v] ∧ Sl h (Here h) 5 RAttr v xs) :=
  can_slice (R := fun _ => RAttr) Tryz.underlying77 c137 (by omega) (by kernel_rfl) (fun _ _ _ _ q _ => q) (fun fuel cs x h _ => by
    obtain ⟨v, rfl, _⟩ := attr_open h
    exact Take.lit (by intro y hy; simp only [PAttr.cells, PVal.cells, List.mem_cons, List.mem_nil_iff, or_false] at hy; rcases hy with rfl | rfl | rfl | rfl | rfl <;> rfl) (fun h => ⟨rfl, v, rfl⟩)) h hw

theorem patch_can (h : DataW.trod enc Tryz.prog w base sp held fuel 24 cs = some x) (hw : W_ x 24) : Take C w cs (fun h cs' => ∃ v xs, cs' = [v] ∧ Sl h (Here h) 6 RChg v xs) :=
  can_slice (R := fun _ => RChg) Tryz.underlying24 c70 (by omega) (by kernel_rfl) (fun _ _ _ _ q _ => q) (fun fuel cs x h _ => by
    obtain ⟨v, rfl, _⟩ := chg_open h
    exact Take.lit (by intro y hy; simp only [PChg.cells, PVal.cells, List.mem_cons, List.mem_nil_iff, or_false] at hy; rcases hy with rfl | rfl | rfl | rfl | rfl | rfl <;> rfl) (fun h => ⟨rfl, v, rfl⟩)) h hw

theorem here_le {h h' : Mir.H} (q : Le h h') : ∀ a, Here h a → Here h' a ∧ h'.get a = h.get a := fun a ha => ⟨Nat.lt_of_lt_of_le ha q.1, q.2 a ha⟩

theorem sl_mono {α : Type} {wd : Nat} {R : α → List Value → Prop} : Mono (fun h cs => ∃ v xs, cs = [v] ∧ Sl h (Here h) wd R v (xs : List α)) := fun _ _ _ ⟨v, xs, e, q⟩ l =>
  ⟨v, xs, e, q.to (here_le l) (fun _ _ q => q)⟩

theorem op_can (h : DataW.trod enc Tryz.prog w base sp held fuel 117 cs = some x) (hw : W_ x 117) : Take C w cs (fun h cs' => cs'.length = 5 ∧ ∃ a, ROp h (Here h) a cs') := by
  obtain ⟨xs, n, _, rfl, hl, hx, hf⟩ := DataW.trod_struct Tryz.underlying117 h
  rw [c117] at hl
  match cs, hl with
  | [a, b, c, d, e], _ =>
    have f0 : DataW.trod enc Tryz.prog w base sp held n 5 (([a, b, c, d, e].drop 0).take (Tryz.prog.cellsOf 5)) = xs[0]? := hf 0 _ rfl
    have f1 : DataW.trod enc Tryz.prog w base sp held n 3 (([a, b, c, d, e].drop 1).take (Tryz.prog.cellsOf 3)) = xs[1]? := hf 1 _ rfl
    have f2 : DataW.trod enc Tryz.prog w base sp held n 115 (([a, b, c, d, e].drop 2).take (Tryz.prog.cellsOf 115)) = xs[2]? := hf 2 _ rfl
    have f3 : DataW.trod enc Tryz.prog w base sp held n 77 (([a, b, c, d, e].drop 3).take (Tryz.prog.cellsOf 77)) = xs[3]? := hf 3 _ rfl
    have f4 : DataW.trod enc Tryz.prog w base sp held n 24 (([a, b, c, d, e].drop 4).take (Tryz.prog.cellsOf 24)) = xs[4]? := hf 4 _ rfl
    have hsz : xs.length = 5 := hx
    rw [c5, List.getElem?_eq_getElem (by omega)] at f0
    rw [c3, List.getElem?_eq_getElem (by omega)] at f1
    rw [c115, List.getElem?_eq_getElem (by omega)] at f2
    rw [c77, List.getElem?_eq_getElem (by omega)] at f3
    rw [c24, List.getElem?_eq_getElem (by omega)] at f4
    obtain ⟨v0, e0, _, _⟩ := DataW.trod_int Tryz.underlying5 f0
    obtain ⟨v1, e1, _, _⟩ := DataW.trod_int Tryz.underlying3 f1
    simp at e0 e1
    subst e0; subst e1
    have hws : ∀ (j : Nat) (t : TypeId) (hj : j < xs.length), [(5 : TypeId), 3, 115, 77, 24][j]? = some t → W_ xs[j] t := fun j t hj ht m hm => by
      apply hw
      simp only [DataW.weights, Tryz.underlying117]
      refine DataW.weights_mem_each (j := j) (t := t) (d := xs[j].1) ?_ ?_ m hm
      · simpa using ht
      · rw [List.getElem?_map, List.getElem?_eq_getElem hj]; rfl
    have r := Take.append (C := C) (ls := [.int .u8 v0, .int .i64 v1]) (Take.lit (R := fun _ cs => cs = [.int .u8 v0, .int .i64 v1]) (by intro y hy; simp only [List.mem_cons, List.mem_nil_iff, or_false] at hy; rcases hy with rfl | rfl <;> rfl) (fun _ => rfl)) (fun _ _ _ q _ => q)
      (Take.append (runes_can f2 (hws 2 115 (by omega) rfl)) sl_mono (Take.append (set_can f3 (hws 3 77 (by omega) rfl)) sl_mono (patch_can f4 (hws 4 24 (by omega) rfl))))
    refine r.mono fun h cs ⟨q1, q2, e1, e2, q3, q4, e3, ⟨r, rs, e4, hr⟩, q5, q6, e5, ⟨s, ss, e6, hs⟩, ⟨p, ps, e7, hp⟩⟩ => ?_
    subst e1 e2 e3 e4 e5 e6 e7
    exact ⟨rfl, ⟨v0, v1, rs, ss, ps⟩, r, s, p, rfl, hr, hs, hp⟩

theorem ops_can (h : DataW.trod enc Tryz.prog w base sp held fuel 22 cs = some x) (hw : W_ x 22) : Take C w cs (fun h cs' => ∃ v xs, cs' = [v] ∧ Sl h (Here h) 5 (ROp h (Here h)) v xs) :=
  can_slice (R := fun h => ROp h (Here h)) Tryz.underlying22 c117 (by omega) (by kernel_rfl) (fun h h' x cs q l => q.to (here_le l)) (fun fuel cs x h hw => op_can h hw) h hw

end
end Go.Proofs.YtmaccpaiaidgpaaGreatDoor

