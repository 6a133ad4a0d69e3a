/- Data of scripts, taken over, with how much they hold. -/
import Derived.Test.YtmaccpaiaidgpaaGreatDoorImpA
import Derived.Test.YtmaccpaiaidgpaaGreatDoorReadB
import Derived.Test.YtmaccpaiaidgpaaGreatDoorScrA
import Derived.Test.YtmaccpaiaidgpaaGreatDoorRows
/- The data of scripts, taken over, with how much they hold. -/
namespace Go.Proofs.YtmaccpaiaidgpaaGreatDoor
open Go Go.Mir
set_option maxRecDepth 100000

theorem bulk_sum {X : Type} : ∀ l : List (DataW X), (l.map Rows.uptoBulk).sum = Rows.uptoBulkAll l
  | [] => rfl
  | d :: l => by simp only [List.map_cons, List.sum_cons, Rows.uptoBulkAll, bulk_sum l]
theorem bulk_sl {X : Type} (el sp : List (DataW X)) : (el.map Rows.uptoBulk).sum ≤ Rows.uptoBulk (.slice el sp) := by
  rw [bulk_sum]; simp only [Rows.uptoBulk]; omega
theorem bulk_one {X : Type} (d : DataW X) : 1 ≤ Rows.uptoBulk d := by
  cases d with
  | lit l => cases l <;> simp [Rows.uptoBulk]
  | _ => simp [Rows.uptoBulk]

section
variable {H : Type} {enc : TypeId × Value → H} {w : World} {base : Nat} {sp : Nat → Bool} {held : Bool} {fuel : Nat} {cs : List Value} {x : DataW H × List MemPlace}
theorem c51 : Tryz.prog.cellsOf 51 = 1 := by kernel_rfl
theorem c52 : Tryz.prog.cellsOf 52 = 1 := by kernel_rfl
theorem c54 : Tryz.prog.cellsOf 54 = 4 := by kernel_rfl
theorem c74 : Tryz.prog.cellsOf 74 = 6 := by kernel_rfl
theorem c105 : Tryz.prog.cellsOf 105 = 8 := by kernel_rfl

theorem wf_u8 {n : Int} (h : (Lit.int .u8 n).wf = true) : u8ok n := by
  simp [Lit.wf, IntKind.min, IntKind.max, IntKind.signed, IntKind.bits] at h; unfold u8ok; omega
theorem wf_i64 {n : Int} (h : (Lit.int .i64 n).wf = true) : i64ok n := by
  simp [Lit.wf, IntKind.min, IntKind.max, IntKind.signed, IntKind.bits] at h; unfold i64ok; omega
theorem wf_i32 {n : Int} (h : (Lit.int .i32 n).wf = true) : i32ok n := by
  simp [Lit.wf, IntKind.min, IntKind.max, IntKind.signed, IntKind.bits] at h; unfold i32ok; omega
theorem wf_u64 {n : Int} (h : (Lit.int .u64 n).wf = true) : u64ok n := by
  simp [Lit.wf, IntKind.min, IntKind.max, IntKind.signed, IntKind.bits] at h; unfold u64ok; omega

theorem val_openM (h : DataW.trod enc Tryz.prog w base sp held fuel 68 cs = some x) : ∃ v : PVal, cs = v.cells ∧ v.okR ∧ 1 + v.s.size ≤ Rows.uptoBulk x.1 := by
  obtain ⟨xs, n, _, rfl, hl, hx, hf⟩ := DataW.trod_struct Tryz.underlying68 h
  rw [c68] at hl
  have hx : xs.length = 4 := hx
  match cs, hl, xs, hx with
  | [a, b, c, d], _, [y0, y1, y2, y3], _ =>
    have f0 : DataW.trod enc Tryz.prog w base sp held n 5 (([a, b, c, d].drop 0).take (Tryz.prog.cellsOf 5)) = [y0, y1, y2, y3][0]? := hf 0 _ rfl
    rw [c5] at f0
    have f1 : DataW.trod enc Tryz.prog w base sp held n 2 (([a, b, c, d].drop 1).take (Tryz.prog.cellsOf 2)) = [y0, y1, y2, y3][1]? := hf 1 _ rfl
    rw [c2] at f1
    have f2 : DataW.trod enc Tryz.prog w base sp held n 64 (([a, b, c, d].drop 2).take (Tryz.prog.cellsOf 64)) = [y0, y1, y2, y3][2]? := hf 2 _ rfl
    rw [c64] at f2
    have f3 : DataW.trod enc Tryz.prog w base sp held n 9 (([a, b, c, d].drop 3).take (Tryz.prog.cellsOf 9)) = [y0, y1, y2, y3][3]? := hf 3 _ rfl
    rw [c9] at f3
    obtain ⟨v0, e0, _, w0⟩ := DataW.trod_int Tryz.underlying5 f0
    obtain ⟨v1, e1, _, w1⟩ := DataW.trod_int Tryz.underlying2 f1
    obtain ⟨v2, e2, _, w2⟩ := DataW.trod_int Tryz.underlying64 f2
    obtain ⟨v3, e3, g3, _⟩ := DataW.trod_string Tryz.underlying9 f3
    simp at e0 e1 e2 e3
    subst e0 e1 e2 e3 g3
    refine ⟨⟨v0, v1, v2, v3⟩, rfl, ⟨wf_u8 w0, wf_i64 w1, wf_u64 w2⟩, ?_⟩
    simp only [List.map_cons, List.map_nil, Rows.uptoBulk, Rows.uptoBulkAll]
    have : v3.data.toList.length = v3.size := rfl
    omega

theorem attr_openM (h : DataW.trod enc Tryz.prog w base sp held fuel 137 cs = some x) : ∃ v : PAttr, cs = v.cells ∧ v.okR ∧ nAttr v ≤ Rows.uptoBulk x.1 := by
  obtain ⟨xs, n, _, rfl, hl, hx, hf⟩ := DataW.trod_struct Tryz.underlying137 h
  rw [c137] at hl
  have hx : xs.length = 2 := hx
  match cs, hl, xs, hx with
  | [a, b, c, d, e], _, [y0, y1], _ =>
    have f0 : DataW.trod enc Tryz.prog w base sp held n 3 (([a, b, c, d, e].drop 0).take (Tryz.prog.cellsOf 3)) = [y0, y1][0]? := hf 0 _ rfl
    rw [c3] at f0
    have f1 : DataW.trod enc Tryz.prog w base sp held n 68 (([a, b, c, d, e].drop 1).take (Tryz.prog.cellsOf 68)) = [y0, y1][1]? := hf 1 _ rfl
    rw [c68] at f1
    obtain ⟨v0, e0, _, w0⟩ := DataW.trod_int Tryz.underlying3 f0
    obtain ⟨v1, e1, w1, u1⟩ := val_openM f1
    simp [PVal.cells] at e0 e1
    subst e0
    obtain ⟨rfl, rfl, rfl, rfl⟩ := e1
    refine ⟨⟨v0, v1⟩, rfl, ⟨wf_i64 w0, w1⟩, ?_⟩
    simp only [nAttr, List.map_cons, List.map_nil, Rows.uptoBulk, Rows.uptoBulkAll]
    omega

theorem chg_openM (h : DataW.trod enc Tryz.prog w base sp held fuel 70 cs = some x) : ∃ v : PChg, cs = v.cells ∧ v.okR ∧ nChg v ≤ Rows.uptoBulk x.1 := by
  obtain ⟨xs, n, _, rfl, hl, hx, hf⟩ := DataW.trod_struct Tryz.underlying70 h
  rw [c70] at hl
  have hx : xs.length = 3 := hx
  match cs, hl, xs, hx with
  | [a, b, c, d, e, f], _, [y0, y1, y2], _ =>
    have f0 : DataW.trod enc Tryz.prog w base sp held n 3 (([a, b, c, d, e, f].drop 0).take (Tryz.prog.cellsOf 3)) = [y0, y1, y2][0]? := hf 0 _ rfl
    rw [c3] at f0
    have f1 : DataW.trod enc Tryz.prog w base sp held n 4 (([a, b, c, d, e, f].drop 1).take (Tryz.prog.cellsOf 4)) = [y0, y1, y2][1]? := hf 1 _ rfl
    rw [c4] at f1
    have f2 : DataW.trod enc Tryz.prog w base sp held n 68 (([a, b, c, d, e, f].drop 2).take (Tryz.prog.cellsOf 68)) = [y0, y1, y2][2]? := hf 2 _ rfl
    rw [c68] at f2
    obtain ⟨v0, e0, _, w0⟩ := DataW.trod_int Tryz.underlying3 f0
    obtain ⟨v1, e1, _⟩ := DataW.trod_bool Tryz.underlying4 f1
    obtain ⟨v2, e2, w2, u2⟩ := val_openM f2
    simp [PVal.cells] at e0 e1 e2
    subst e0
    subst e1
    obtain ⟨rfl, rfl, rfl, rfl⟩ := e2
    refine ⟨⟨v0, v1, v2⟩, rfl, ⟨wf_i64 w0, w2⟩, ?_⟩
    simp only [nChg, List.map_cons, List.map_nil, Rows.uptoBulk, Rows.uptoBulkAll]
    omega

theorem key_openM (h : DataW.trod enc Tryz.prog w base sp held fuel 74 cs = some x) : ∃ v : PKey, cs = v.cells ∧ v.okR := by
  obtain ⟨xs, n, _, rfl, hl, hx, hf⟩ := DataW.trod_struct Tryz.underlying74 h
  rw [c74] at hl
  have hx : xs.length = 6 := hx
  match cs, hl, xs, hx with
  | [a, b, c, d, e, f], _, [y0, y1, y2, y3, y4, y5], _ =>
    have f0 : DataW.trod enc Tryz.prog w base sp held n 3 (([a, b, c, d, e, f].drop 0).take (Tryz.prog.cellsOf 3)) = [y0, y1, y2, y3, y4, y5][0]? := hf 0 _ rfl
    rw [c3] at f0
    have f1 : DataW.trod enc Tryz.prog w base sp held n 4 (([a, b, c, d, e, f].drop 1).take (Tryz.prog.cellsOf 4)) = [y0, y1, y2, y3, y4, y5][1]? := hf 1 _ rfl
    rw [c4] at f1
    have f2 : DataW.trod enc Tryz.prog w base sp held n 5 (([a, b, c, d, e, f].drop 2).take (Tryz.prog.cellsOf 5)) = [y0, y1, y2, y3, y4, y5][2]? := hf 2 _ rfl
    rw [c5] at f2
    have f3 : DataW.trod enc Tryz.prog w base sp held n 4 (([a, b, c, d, e, f].drop 3).take (Tryz.prog.cellsOf 4)) = [y0, y1, y2, y3, y4, y5][3]? := hf 3 _ rfl
    rw [c4] at f3
    have f4 : DataW.trod enc Tryz.prog w base sp held n 4 (([a, b, c, d, e, f].drop 4).take (Tryz.prog.cellsOf 4)) = [y0, y1, y2, y3, y4, y5][4]? := hf 4 _ rfl
    rw [c4] at f4
    have f5 : DataW.trod enc Tryz.prog w base sp held n 3 (([a, b, c, d, e, f].drop 5).take (Tryz.prog.cellsOf 3)) = [y0, y1, y2, y3, y4, y5][5]? := hf 5 _ rfl
    rw [c3] at f5
    obtain ⟨v0, e0, _, w0⟩ := DataW.trod_int Tryz.underlying3 f0
    obtain ⟨v1, e1, _⟩ := DataW.trod_bool Tryz.underlying4 f1
    obtain ⟨v2, e2, _, w2⟩ := DataW.trod_int Tryz.underlying5 f2
    obtain ⟨v3, e3, _⟩ := DataW.trod_bool Tryz.underlying4 f3
    obtain ⟨v4, e4, _⟩ := DataW.trod_bool Tryz.underlying4 f4
    obtain ⟨v5, e5, _, w5⟩ := DataW.trod_int Tryz.underlying3 f5
    simp at e0 e1 e2 e3 e4 e5
    subst e0 e1 e2 e3 e4 e5
    exact ⟨⟨v0, v1, v2, v3, v4, v5⟩, rfl, wf_i64 w0, wf_u8 w2, wf_i64 w5⟩

variable {C : Ctx}
theorem here_mono {α : Type} {wd : Nat} {R : Mir.H → α → List Value → Prop} (hm : ∀ h h' x cs, R h x cs → Le h h' → R h' x cs) {P : List α → Prop} : Mono (fun h cs => ∃ v xs, cs = [v] ∧ SlK h (Here h) wd (R h) v xs ∧ P xs) := fun _ _ _ ⟨v, xs, e, q, z⟩ l =>
  ⟨v, xs, e, q.to (here_le l) (fun _ _ q => hm _ _ _ _ q l), z⟩
theorem SlK.all {α : Type} {h : Mir.H} {S : Nat → Prop} {wd : Nat} {R : α → List Value → Prop} {v : Value} {xs : List α} (q : SlK h S wd R v xs) : ∀ x ∈ xs, ∃ cs, R x cs := fun x hx => by
  obtain ⟨q1, a, n, c, rfl, _⟩ := q
  obtain ⟨i, hi⟩ := List.getElem?_of_mem hx
  have hn : n = xs.length := by
    obtain ⟨_, _, _, e, h3, _⟩ := q1.inv
    simp only [Value.slice.injEq] at e
    omega
  obtain ⟨_, _, y, cs, _, _, _, hy, _, hR, _⟩ := q1.at (i := i) (by have := (List.getElem?_eq_some_iff.1 hi).1; omega)
  rw [hi] at hy
  obtain rfl := Option.some.inj hy
  exact ⟨cs, hR⟩
theorem SlK.weaken {α : Type} {h : Mir.H} {S : Nat → Prop} {wd : Nat} {R R' : α → List Value → Prop} {v : Value} {xs : List α} (q : SlK h S wd R v xs) (r : ∀ x cs, R x cs → R' x cs) : SlK h S wd R' v xs := q.to (fun _ q => ⟨q, rfl⟩) r
theorem sum_one {α : Type} (l : List α) : (l.map fun _ => 1).sum = l.length := by
  induction l with
  | nil => rfl
  | cons a l ih => simp only [List.map_cons, List.sum_cons, ih, List.length_cons]; omega

theorem bytes_canM (h : DataW.trod enc Tryz.prog w base sp held fuel 23 cs = some x) (hw : W_ x 23) : Take C w cs (fun h cs' => ∃ v xs, cs' = [v] ∧ SlK h (Here h) 1 ((fun _ => RByte) h) v xs ∧ ((xs : List UInt8).map (fun _ => 1)).sum ≤ Rows.uptoBulk x.1) :=
  can_sliceM (R := (fun _ => RByte)) Tryz.underlying23 c5 (by omega) (by kernel_rfl) (fun _ => 1) Rows.uptoBulk bulk_sl (fun _ _ _ _ q _ => q) (fun fuel cs x h hw => by
    obtain ⟨n, rfl, _, hwf⟩ := DataW.trod_int Tryz.underlying5 h
    have hwf := wf_u8 hwf
    refine Take.lit int_lit (fun h => ⟨rfl, UInt8.ofNat n.toNat, ?_, bulk_one _⟩)
    unfold RByte
    have : ((UInt8.ofNat n.toNat).toNat : Int) = n := by
      unfold u8ok at hwf
      rw [UInt8.toNat_ofNat']; omega
    rw [this]) h hw

def RRuneO (_ : Mir.H) (r : Int) (cs : List Value) : Prop := RRune r cs ∧ i32ok r
def RAttrO (_ : Mir.H) (a : PAttr) (cs : List Value) : Prop := RAttr a cs ∧ a.okR
def RChgO (_ : Mir.H) (a : PChg) (cs : List Value) : Prop := RChg a cs ∧ a.okR
def RKeyO (_ : Mir.H) (a : PKey) (cs : List Value) : Prop := cs = a.cells ∧ a.okR

theorem runes_canM (h : DataW.trod enc Tryz.prog w base sp held fuel 115 cs = some x) (hw : W_ x 115) : Take C w cs (fun h cs' => ∃ v xs, cs' = [v] ∧ SlK h (Here h) 1 (RRuneO h) v xs ∧ ((xs : List Int).map (fun _ => 1)).sum ≤ Rows.uptoBulk x.1) :=
  can_sliceM (R := RRuneO) Tryz.underlying115 c21 (by omega) (by kernel_rfl) (fun _ => 1) Rows.uptoBulk bulk_sl (fun _ _ _ _ q _ => q) (fun fuel cs x h hw => by
    obtain ⟨n, rfl, _, hwf⟩ := DataW.trod_int Tryz.underlying21 h
    exact Take.lit int_lit (fun h => ⟨rfl, n, ⟨rfl, wf_i32 hwf⟩, bulk_one _⟩)) h hw

theorem set_canM (h : DataW.trod enc Tryz.prog w base sp held fuel 77 cs = some x) (hw : W_ x 77) : Take C w cs (fun h cs' => ∃ v xs, cs' = [v] ∧ SlK h (Here h) 5 (RAttrO h) v xs ∧ ((xs : List PAttr).map nAttr).sum ≤ Rows.uptoBulk x.1) :=
  can_sliceM (R := RAttrO) Tryz.underlying77 c137 (by omega) (by kernel_rfl) nAttr Rows.uptoBulk bulk_sl (fun _ _ _ _ q _ => q) (fun fuel cs x h hw => by
    obtain ⟨v, rfl, hv, hu⟩ := attr_openM h
    exact Take.lit (by intro y hy; simp only [PAttr.cells, PVal.cells, List.mem_cons, List.mem_nil_iff, or_false] at hy; rcases hy with rfl | rfl | rfl | rfl | rfl <;> rfl) (fun h => ⟨rfl, v, ⟨rfl, hv⟩, hu⟩)) h hw

theorem patch_canM (h : DataW.trod enc Tryz.prog w base sp held fuel 24 cs = some x) (hw : W_ x 24) : Take C w cs (fun h cs' => ∃ v xs, cs' = [v] ∧ SlK h (Here h) 6 (RChgO h) v xs ∧ ((xs : List PChg).map nChg).sum ≤ Rows.uptoBulk x.1) :=
  can_sliceM (R := RChgO) Tryz.underlying24 c70 (by omega) (by kernel_rfl) nChg Rows.uptoBulk bulk_sl (fun _ _ _ _ q _ => q) (fun fuel cs x h hw => by
    obtain ⟨v, rfl, hv, hu⟩ := chg_openM h
    exact Take.lit (by intro y hy; simp only [PChg.cells, PVal.cells, List.mem_cons, List.mem_nil_iff, or_false] at hy; rcases hy with rfl | rfl | rfl | rfl | rfl | rfl <;> rfl) (fun h => ⟨rfl, v, ⟨rfl, hv⟩, hu⟩)) h hw

theorem keys_canM (h : DataW.trod enc Tryz.prog w base sp held fuel 51 cs = some x) (hw : W_ x 51) : Take C w cs (fun h cs' => ∃ v xs, cs' = [v] ∧ SlK h (Here h) 6 (RKeyO h) v xs ∧ ((xs : List PKey).map (fun _ => 1)).sum ≤ Rows.uptoBulk x.1) :=
  can_sliceM (R := RKeyO) Tryz.underlying51 c74 (by omega) (by kernel_rfl) (fun _ => 1) Rows.uptoBulk bulk_sl (fun _ _ _ _ q _ => q) (fun fuel cs x h hw => by
    obtain ⟨v, rfl, hv⟩ := key_openM h
    exact Take.lit (by intro y hy; simp only [PKey.cells, List.mem_cons, List.mem_nil_iff, or_false] at hy; rcases hy with rfl | rfl | rfl | rfl | rfl | rfl <;> rfl) (fun h => ⟨rfl, v, ⟨rfl, hv⟩, bulk_one _⟩)) h hw

def ROpO (h : Mir.H) (o : POp) (cs : List Value) : Prop := Go.Mir.ROp h (Here h) o cs ∧ o.okR
theorem ROpO.mono (h h' : Mir.H) (o : POp) (cs : List Value) (q : ROpO h o cs) (l : Le h h') : ROpO h' o cs := ⟨q.1.to (here_le l), q.2⟩

theorem op_canM (h : DataW.trod enc Tryz.prog w base sp held fuel 117 cs = some x) (hw : W_ x 117) : Take C w cs (fun h cs' => cs'.length = 5 ∧ ∃ a, ROpO h a cs' ∧ nOp a ≤ Rows.uptoBulk x.1) := by
  obtain ⟨xs, n, _, rfl, hl, hx, hf⟩ := DataW.trod_struct Tryz.underlying117 h
  rw [c117] at hl
  have hx : xs.length = 5 := hx
  match cs, hl, xs, hx with
  | [a, b, c, d, e], _, [y0, y1, y2, y3, y4], _ =>
    have f0 : DataW.trod enc Tryz.prog w base sp held n 5 (([a, b, c, d, e].drop 0).take (Tryz.prog.cellsOf 5)) = [y0, y1, y2, y3, y4][0]? := hf 0 _ rfl
    rw [c5] at f0
    have f1 : DataW.trod enc Tryz.prog w base sp held n 3 (([a, b, c, d, e].drop 1).take (Tryz.prog.cellsOf 3)) = [y0, y1, y2, y3, y4][1]? := hf 1 _ rfl
    rw [c3] at f1
    have f2 : DataW.trod enc Tryz.prog w base sp held n 115 (([a, b, c, d, e].drop 2).take (Tryz.prog.cellsOf 115)) = [y0, y1, y2, y3, y4][2]? := hf 2 _ rfl
    rw [c115] at f2
    have f3 : DataW.trod enc Tryz.prog w base sp held n 77 (([a, b, c, d, e].drop 3).take (Tryz.prog.cellsOf 77)) = [y0, y1, y2, y3, y4][3]? := hf 3 _ rfl
    rw [c77] at f3
    have f4 : DataW.trod enc Tryz.prog w base sp held n 24 (([a, b, c, d, e].drop 4).take (Tryz.prog.cellsOf 24)) = [y0, y1, y2, y3, y4][4]? := hf 4 _ rfl
    rw [c24] at f4
    obtain ⟨v0, e0, _, w0⟩ := DataW.trod_int Tryz.underlying5 f0
    obtain ⟨v1, e1, _, w1⟩ := DataW.trod_int Tryz.underlying3 f1
    simp at e0 e1
    subst e0; subst e1
    have hws : ∀ (j : Nat) (t : TypeId) (d : DataW H × List MemPlace), [(5 : TypeId), 3, 115, 77, 24][j]? = some t → [y0, y1, y2, y3, y4][j]? = some d → W_ d t := fun j t d ht hd m hm => by
      apply hw
      simp only [DataW.weights, Tryz.underlying117]
      refine DataW.weights_mem_each (j := j) (t := t) (d := d.1) ?_ ?_ m hm
      · simpa using ht
      · rw [List.getElem?_map, hd]; rfl
    have r := Take.append (C := C) (ls := [.int .u8 v0, .int .i64 v1]) (Take.lit (R := fun _ cs => cs = [.int .u8 v0, .int .i64 v1]) (by intro y hy; simp only [List.mem_cons, List.mem_nil_iff, or_false] at hy; rcases hy with rfl | rfl <;> rfl) (fun _ => rfl)) (fun _ _ _ q _ => q)
      (Take.append (runes_canM f2 (hws 2 115 _ rfl rfl)) (here_mono (fun _ _ _ _ q _ => q)) (Take.append (set_canM f3 (hws 3 77 _ rfl rfl)) (here_mono (fun _ _ _ _ q _ => q)) (patch_canM f4 (hws 4 24 _ rfl rfl))))
    refine r.mono fun h cs ⟨q1, q2, e1, e2, q3, q4, e3, ⟨r, rs, e4, hr, ur⟩, q5, q6, e5, ⟨s, ss, e6, hs, us⟩, ⟨p, ps, e7, hp, up⟩⟩ => ?_
    subst e1 e2 e3 e4 e5 e6 e7
    refine ⟨rfl, ⟨v0, v1, rs, ss, ps⟩, ⟨⟨r, s, p, rfl, (SlK.weaken hr fun _ _ q => q.1).1, (SlK.weaken hs fun _ _ q => q.1).1, (SlK.weaken hp fun _ _ q => q.1).1⟩, wf_u8 w0, wf_i64 w1, fun a ha => ?_, fun a ha => ?_, fun a ha => ?_⟩, ?_⟩
    · obtain ⟨_, q⟩ := SlK.all hr a ha; exact q.2
    · obtain ⟨_, q⟩ := SlK.all hs a ha; exact q.2
    · obtain ⟨_, q⟩ := SlK.all hp a ha; exact q.2
    · rw [sum_one] at ur
      simp only [nOp, List.map_cons, List.map_nil, Rows.uptoBulk, Rows.uptoBulkAll]
      omega

theorem ops_canM (h : DataW.trod enc Tryz.prog w base sp held fuel 22 cs = some x) (hw : W_ x 22) : Take C w cs (fun h cs' => ∃ v xs, cs' = [v] ∧ SlK h (Here h) 5 (ROpO h) v xs ∧ ((xs : List POp).map nOp).sum ≤ Rows.uptoBulk x.1) :=
  can_sliceM (R := ROpO) Tryz.underlying22 c117 (by omega) (by kernel_rfl) nOp Rows.uptoBulk bulk_sl ROpO.mono (fun fuel cs x h hw => by
    exact op_canM h hw) h hw

def RCmdO (h : Mir.H) (o : PCmd) (cs : List Value) : Prop := RCmd h (Here h) o cs ∧ o.okR
theorem RCmdO.mono (h h' : Mir.H) (o : PCmd) (cs : List Value) (q : RCmdO h o cs) (l : Le h h') : RCmdO h' o cs := ⟨q.1.gr ⟨l.1, here_le l⟩, q.2⟩

set_option maxHeartbeats 1000000 in
theorem cmd_canM (h : DataW.trod enc Tryz.prog w base sp held fuel 105 cs = some x) (hw : W_ x 105) : Take C w cs (fun h cs' => cs'.length = 8 ∧ ∃ a, RCmdO h a cs' ∧ 1 + nCmd a ≤ Rows.uptoBulk x.1) := by
  obtain ⟨xs, n, _, rfl, hl, hx, hf⟩ := DataW.trod_struct Tryz.underlying105 h
  rw [c105] at hl
  have hx : xs.length = 8 := hx
  match cs, hl, xs, hx with
  | [a, b, c, d, e, f, g, i], _, [y0, y1, y2, y3, y4, y5, y6, y7], _ =>
    have f0 : DataW.trod enc Tryz.prog w base sp held n 5 (([a, b, c, d, e, f, g, i].drop 0).take (Tryz.prog.cellsOf 5)) = [y0, y1, y2, y3, y4, y5, y6, y7][0]? := hf 0 _ rfl
    rw [c5] at f0
    have f1 : DataW.trod enc Tryz.prog w base sp held n 3 (([a, b, c, d, e, f, g, i].drop 1).take (Tryz.prog.cellsOf 3)) = [y0, y1, y2, y3, y4, y5, y6, y7][1]? := hf 1 _ rfl
    rw [c3] at f1
    have f2 : DataW.trod enc Tryz.prog w base sp held n 3 (([a, b, c, d, e, f, g, i].drop 2).take (Tryz.prog.cellsOf 3)) = [y0, y1, y2, y3, y4, y5, y6, y7][2]? := hf 2 _ rfl
    rw [c3] at f2
    have f3 : DataW.trod enc Tryz.prog w base sp held n 3 (([a, b, c, d, e, f, g, i].drop 3).take (Tryz.prog.cellsOf 3)) = [y0, y1, y2, y3, y4, y5, y6, y7][3]? := hf 3 _ rfl
    rw [c3] at f3
    have f4 : DataW.trod enc Tryz.prog w base sp held n 3 (([a, b, c, d, e, f, g, i].drop 4).take (Tryz.prog.cellsOf 3)) = [y0, y1, y2, y3, y4, y5, y6, y7][4]? := hf 4 _ rfl
    rw [c3] at f4
    have f5 : DataW.trod enc Tryz.prog w base sp held n 22 (([a, b, c, d, e, f, g, i].drop 5).take (Tryz.prog.cellsOf 22)) = [y0, y1, y2, y3, y4, y5, y6, y7][5]? := hf 5 _ rfl
    rw [c22] at f5
    have f6 : DataW.trod enc Tryz.prog w base sp held n 23 (([a, b, c, d, e, f, g, i].drop 6).take (Tryz.prog.cellsOf 23)) = [y0, y1, y2, y3, y4, y5, y6, y7][6]? := hf 6 _ rfl
    rw [c23] at f6
    have f7 : DataW.trod enc Tryz.prog w base sp held n 24 (([a, b, c, d, e, f, g, i].drop 7).take (Tryz.prog.cellsOf 24)) = [y0, y1, y2, y3, y4, y5, y6, y7][7]? := hf 7 _ rfl
    rw [c24] at f7
    obtain ⟨v0, e0, _, w0⟩ := DataW.trod_int Tryz.underlying5 f0
    obtain ⟨v1, e1, _, w1⟩ := DataW.trod_int Tryz.underlying3 f1
    obtain ⟨v2, e2, _, w2⟩ := DataW.trod_int Tryz.underlying3 f2
    obtain ⟨v3, e3, _, w3⟩ := DataW.trod_int Tryz.underlying3 f3
    obtain ⟨v4, e4, _, w4⟩ := DataW.trod_int Tryz.underlying3 f4
    simp at e0 e1 e2 e3 e4
    subst e0 e1 e2 e3 e4
    have hws : ∀ (j : Nat) (t : TypeId) (d : DataW H × List MemPlace), [(5 : TypeId), 3, 3, 3, 3, 22, 23, 24][j]? = some t → [y0, y1, y2, y3, y4, y5, y6, y7][j]? = some d → W_ d t := fun j t d ht hd m hm => by
      apply hw
      simp only [DataW.weights, Tryz.underlying105]
      refine DataW.weights_mem_each (j := j) (t := t) (d := d.1) ?_ ?_ m hm
      · simpa using ht
      · rw [List.getElem?_map, hd]; rfl
    have r := Take.append (C := C) (ls := [.int .u8 v0, .int .i64 v1, .int .i64 v2, .int .i64 v3, .int .i64 v4]) (Take.lit (R := fun _ cs => cs = [.int .u8 v0, .int .i64 v1, .int .i64 v2, .int .i64 v3, .int .i64 v4]) (by intro y hy; simp only [List.mem_cons, List.mem_nil_iff, or_false] at hy; rcases hy with rfl | rfl | rfl | rfl | rfl <;> rfl) (fun _ => rfl)) (fun _ _ _ q _ => q)
      (Take.append (ops_canM f5 (hws 5 22 _ rfl rfl)) (here_mono ROpO.mono) (Take.append (bytes_canM f6 (hws 6 23 _ rfl rfl)) (here_mono (fun _ _ _ _ q _ => q)) (patch_canM f7 (hws 7 24 _ rfl rfl))))
    refine r.mono fun h cs ⟨q1, q2, e1, e2, q3, q4, e3, ⟨r, rs, e4, hr, ur⟩, q5, q6, e5, ⟨s, ss, e6, hs, us⟩, ⟨p, ps, e7, hp, up⟩⟩ => ?_
    subst e1 e2 e3 e4 e5 e6 e7
    refine ⟨rfl, ⟨v0, v1, v2, v3, v4, rs, ss, ps⟩, ⟨⟨r, s, p, rfl, (SlK.weaken hr fun _ _ q => q.1).1, hs.1, (SlK.weaken hp fun _ _ q => q.1).1⟩, wf_u8 w0, wf_i64 w1, wf_i64 w2, wf_i64 w3, wf_i64 w4, fun a ha => ?_, fun a ha => ?_⟩, ?_⟩
    · obtain ⟨_, q⟩ := SlK.all hr a ha; exact q.2
    · obtain ⟨_, q⟩ := SlK.all hp a ha; exact q.2
    · rw [sum_one] at us
      simp only [nCmd, List.map_cons, List.map_nil, Rows.uptoBulk, Rows.uptoBulkAll]
      omega

theorem cmds_canM (h : DataW.trod enc Tryz.prog w base sp held fuel 52 cs = some x) (hw : W_ x 52) : Take C w cs (fun h cs' => ∃ v xs, cs' = [v] ∧ SlK h (Here h) 8 (RCmdO h) v xs ∧ ((xs : List PCmd).map (fun c => 1 + nCmd c)).sum ≤ Rows.uptoBulk x.1) :=
  can_sliceM (R := RCmdO) Tryz.underlying52 c105 (by omega) (by kernel_rfl) (fun c => 1 + nCmd c) Rows.uptoBulk bulk_sl RCmdO.mono (fun fuel cs x h hw => by
    exact cmd_canM h hw) h hw

/-- A script whose rows have known caps. -/
def RScrK (h : Mir.H) (S : Nat → Prop) (s : PScr) (cs : List Value) : Prop :=
  ∃ k c, cs = [k, .int .i64 s.maxLen, .int .i64 s.maxUndo, c] ∧ SlK h S 6 (LKey h S) k s.keys ∧ SlK h S 8 (RCmd h S) c s.cmds
theorem RScrK.scr {h : Mir.H} {S : Nat → Prop} {s : PScr} {cs : List Value} (q : RScrK h S s cs) : RScr h S s cs := by
  obtain ⟨k, c, e, q1, q2⟩ := q
  exact ⟨k, c, e, q1.1, q2.1⟩

theorem scr_canM (h : DataW.trod enc Tryz.prog w base sp held fuel 54 cs = some x) (hw : W_ x 54) : Take C w cs (fun h cs' => ∃ s, RScrK h (Here h) s cs' ∧ s.okR ∧ s.keys.length + (s.cmds.map fun c => 1 + nCmd c).sum ≤ Rows.uptoBulk x.1) := by
  obtain ⟨xs, n, _, rfl, hl, hx, hf⟩ := DataW.trod_struct Tryz.underlying54 h
  rw [c54] at hl
  have hx : xs.length = 4 := hx
  match cs, hl, xs, hx with
  | [a, b, c, d], _, [y0, y1, y2, y3], _ =>
    have f0 : DataW.trod enc Tryz.prog w base sp held n 51 (([a, b, c, d].drop 0).take (Tryz.prog.cellsOf 51)) = [y0, y1, y2, y3][0]? := hf 0 _ rfl
    rw [c51] at f0
    have f1 : DataW.trod enc Tryz.prog w base sp held n 3 (([a, b, c, d].drop 1).take (Tryz.prog.cellsOf 3)) = [y0, y1, y2, y3][1]? := hf 1 _ rfl
    rw [c3] at f1
    have f2 : DataW.trod enc Tryz.prog w base sp held n 3 (([a, b, c, d].drop 2).take (Tryz.prog.cellsOf 3)) = [y0, y1, y2, y3][2]? := hf 2 _ rfl
    rw [c3] at f2
    have f3 : DataW.trod enc Tryz.prog w base sp held n 52 (([a, b, c, d].drop 3).take (Tryz.prog.cellsOf 52)) = [y0, y1, y2, y3][3]? := hf 3 _ rfl
    rw [c52] at f3
    obtain ⟨v1, e1, _, w1⟩ := DataW.trod_int Tryz.underlying3 f1
    obtain ⟨v2, e2, _, w2⟩ := DataW.trod_int Tryz.underlying3 f2
    simp at e1 e2
    subst e1 e2
    have hws : ∀ (j : Nat) (t : TypeId) (d : DataW H × List MemPlace), [(51 : TypeId), 3, 3, 52][j]? = some t → [y0, y1, y2, y3][j]? = some d → W_ d t := fun j t d ht hd m hm => by
      apply hw
      simp only [DataW.weights, Tryz.underlying54]
      refine DataW.weights_mem_each (j := j) (t := t) (d := d.1) ?_ ?_ m hm
      · simpa using ht
      · rw [List.getElem?_map, hd]; rfl
    have r := Take.append (C := C) (keys_canM f0 (hws 0 51 _ rfl rfl)) (here_mono (fun _ _ _ _ q _ => q)) (Take.append (ls := [.int .i64 v1, .int .i64 v2]) (Take.lit (R := fun _ cs => cs = [.int .i64 v1, .int .i64 v2]) (by intro y hy; simp only [List.mem_cons, List.mem_nil_iff, or_false] at hy; rcases hy with rfl | rfl <;> rfl) (fun _ => rfl)) (fun _ _ _ q _ => q)
      (cmds_canM f3 (hws 3 52 _ rfl rfl)))
    refine r.mono fun h cs ⟨q1, q2, e1, ⟨r, rs, e4, hr, ur⟩, q3, q4, e3, e2, ⟨s, ss, e6, hs, us⟩⟩ => ?_
    subst e1 e2 e3 e4 e6
    refine ⟨⟨rs, v1, v2, ss⟩, ⟨r, s, rfl, SlK.weaken hr fun _ _ q => q.1, SlK.weaken hs fun _ _ q => q.1⟩, ⟨fun a ha => ?_, wf_i64 w1, wf_i64 w2, fun a ha => ?_⟩, ?_⟩
    · obtain ⟨_, q⟩ := SlK.all hr a ha; exact q.2
    · obtain ⟨_, q⟩ := SlK.all hs a ha; exact q.2
    · rw [sum_one] at ur
      simp only [List.map_cons, List.map_nil, Rows.uptoBulk, Rows.uptoBulkAll]
      omega

end
end Go.Proofs.YtmaccpaiaidgpaaGreatDoor

