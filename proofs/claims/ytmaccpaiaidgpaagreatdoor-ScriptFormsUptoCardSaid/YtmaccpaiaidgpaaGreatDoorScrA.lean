/- Scripts as bytes: the forms, and that each is read in one way alone; rules for bytes, rows that grow, strings. -/
import Derived.Test.YtmaccpaiaidgpaaGreatDoorMirE
import Derived.IntWalk
import Derived.Laws.Strings
/- Scripts as bytes: the forms, and that each is read in one way alone. -/
namespace Go.Mir

structure PKey where
  id : Int
  block : Bool
  kind : Int
  aft : Bool
  bef : Bool
  group : Int

structure PCmd where
  kind : Int
  i : Int
  j : Int
  key : Int
  by' : Int
  ops : List POp
  bytes : List UInt8
  patch : List PChg

structure PScr where
  keys : List PKey
  maxLen : Int
  maxUndo : Int
  cmds : List PCmd

/-- The form of a natural number. -/
def form (n : Nat) : List UInt8 := if _h : n < 128 then [UInt8.ofNat n] else UInt8.ofNat (n % 128 + 128) :: form (n / 128)
  termination_by n
  decreasing_by omega

theorem form_small {n : Nat} (h : n < 128) : form n = [UInt8.ofNat n] := by rw [form, dif_pos h]
theorem form_great {n : Nat} (h : ¬ n < 128) : form n = UInt8.ofNat (n % 128 + 128) :: form (n / 128) := by rw [form, dif_neg h]

theorem form_ne (n : Nat) : form n ≠ [] := by
  by_cases h : n < 128
  · rw [form_small h]; simp
  · rw [form_great h]; simp

/-- The natural number of a whole one. -/
def zig (n : Int) : Nat := if 0 ≤ n then (2 * n).toNat else (-2 * n - 1).toNat
/-- The whole number of a natural one. -/
def zag (n : Nat) : Int := if n % 2 = 0 then (n / 2 : Nat) else -((n / 2 : Nat) : Int) - 1

theorem zag_zig (n : Int) : zag (zig n) = n := by
  unfold zag zig
  split <;> split <;> omega
theorem zig_zag (n : Nat) : zig (zag n) = n := by
  unfold zag zig
  split <;> split <;> omega

def wI (n : Int) : List UInt8 := form (zig n)
def wU (n : Int) : List UInt8 := form n.toNat
def wF (b : Bool) : List UInt8 := form (if b then 1 else 0)
def wB (l : List UInt8) : List UInt8 := form l.length ++ l
def wL {α : Type} (w : α → List UInt8) (l : List α) : List UInt8 := form l.length ++ l.flatMap w
def wVal (v : PVal) : List UInt8 := wU v.kind ++ (wI v.n ++ (wU v.f ++ wB v.s.data.toList))
def wAttr (a : PAttr) : List UInt8 := wI a.key ++ wVal a.v
def wChg (c : PChg) : List UInt8 := wI c.key ++ (wF c.gone ++ wVal c.v)
def wOp (o : POp) : List UInt8 := wU o.kind ++ (wI o.n ++ (wL wI o.runes ++ (wL wAttr o.set ++ wL wChg o.patch)))
def wKey (k : PKey) : List UInt8 := wI k.id ++ (wF k.block ++ (wU k.kind ++ (wF k.aft ++ (wF k.bef ++ wI k.group))))

/-- The fields of a kind of command, as letters; none: no such kind. -/
def fieldsOf (k : Int) : List UInt8 :=
  if k = 1 then [111] else if k = 2 then [98] else if k = 3 then [105, 98] else if k = 4 then [105, 106] else if k = 5 then [105, 106, 112] else if k = 6 then [105, 106, 112]
  else if k = 7 then [105, 106, 107, 121] else if k = 8 then [105, 106] else if k = 9 then [105, 106] else if k = 10 then [105] else if 11 ≤ k ∧ k ≤ 18 then [46]
  else if k = 19 then [105] else if k = 20 then [105] else if k = 21 then [46] else []

def wField (c : PCmd) (f : UInt8) : List UInt8 :=
  if f = 105 then wI c.i else if f = 106 then wI c.j else if f = 107 then wI c.key else if f = 121 then wI c.by'
  else if f = 111 then wL wOp c.ops else if f = 98 then wB c.bytes else if f = 112 then wL wChg c.patch else []

def wCmd (c : PCmd) : List UInt8 := wU c.kind ++ (fieldsOf c.kind).flatMap (wField c)
def wScr (s : PScr) : List UInt8 := wL wKey s.keys ++ (wI s.maxLen ++ (wI s.maxUndo ++ s.cmds.flatMap wCmd))

/-- A command with the fields of its kind alone. -/
def bareC (c : PCmd) : PCmd where
  kind := c.kind
  i := if 105 ∈ fieldsOf c.kind then c.i else 0
  j := if 106 ∈ fieldsOf c.kind then c.j else 0
  key := if 107 ∈ fieldsOf c.kind then c.key else 0
  by' := if 121 ∈ fieldsOf c.kind then c.by' else 0
  ops := if 111 ∈ fieldsOf c.kind then c.ops else []
  bytes := if 98 ∈ fieldsOf c.kind then c.bytes else []
  patch := if 112 ∈ fieldsOf c.kind then c.patch else []

def mayC (c : PCmd) : Prop := fieldsOf c.kind ≠ [] ∧ c = bareC c
def mayS (s : PScr) : Prop := ∀ c ∈ s.cmds, mayC c

/-! Ranges -/
def i64ok (n : Int) : Prop := -2 ^ 63 ≤ n ∧ n < 2 ^ 63
def i32ok (n : Int) : Prop := -2 ^ 31 ≤ n ∧ n < 2 ^ 31
def u8ok (n : Int) : Prop := 0 ≤ n ∧ n < 256
def u64ok (n : Int) : Prop := 0 ≤ n ∧ n < 2 ^ 64
def PVal.okR (v : PVal) : Prop := u8ok v.kind ∧ i64ok v.n ∧ u64ok v.f
def PAttr.okR (a : PAttr) : Prop := i64ok a.key ∧ a.v.okR
def PChg.okR (a : PChg) : Prop := i64ok a.key ∧ a.v.okR
def POp.okR (o : POp) : Prop := u8ok o.kind ∧ i64ok o.n ∧ (∀ r ∈ o.runes, i32ok r) ∧ (∀ a ∈ o.set, a.okR) ∧ ∀ c ∈ o.patch, c.okR
def PKey.okR (k : PKey) : Prop := i64ok k.id ∧ u8ok k.kind ∧ i64ok k.group
def PCmd.okR (c : PCmd) : Prop := u8ok c.kind ∧ i64ok c.i ∧ i64ok c.j ∧ i64ok c.key ∧ i64ok c.by' ∧ (∀ o ∈ c.ops, o.okR) ∧ ∀ p ∈ c.patch, p.okR
def PScr.okR (s : PScr) : Prop := (∀ k ∈ s.keys, k.okR) ∧ i64ok s.maxLen ∧ i64ok s.maxUndo ∧ ∀ c ∈ s.cmds, c.okR

/-! One way alone -/
/-- Of what is written so, the beginning tells all. -/
def PC {α : Type} (ok : α → Prop) (w : α → List UInt8) : Prop := ∀ x y r s, ok x → ok y → w x ++ r = w y ++ s → x = y ∧ r = s

theorem form_pc : PC (fun _ => True) form := by
  intro x
  induction x using Nat.strongRecOn with
  | ind x ih =>
    intro y r s _ _ h
    by_cases hx : x < 128 <;> by_cases hy : y < 128
    · rw [form_small hx, form_small hy] at h
      simp only [List.cons_append, List.nil_append, List.cons.injEq] at h
      have := congrArg UInt8.toNat h.1
      simp only [UInt8.toNat_ofNat'] at this
      exact ⟨by omega, h.2⟩
    · rw [form_small hx, form_great hy] at h
      simp only [List.cons_append, List.nil_append, List.cons.injEq] at h
      have := congrArg UInt8.toNat h.1
      simp only [UInt8.toNat_ofNat'] at this
      omega
    · rw [form_great hx, form_small hy] at h
      simp only [List.cons_append, List.nil_append, List.cons.injEq] at h
      have := congrArg UInt8.toNat h.1
      simp only [UInt8.toNat_ofNat'] at this
      omega
    · rw [form_great hx, form_great hy] at h
      simp only [List.cons_append, List.cons.injEq] at h
      have h1 := congrArg UInt8.toNat h.1
      simp only [UInt8.toNat_ofNat'] at h1
      have h2 := ih (x / 128) (by omega) (y / 128) r s trivial trivial h.2
      exact ⟨by omega, h2.2⟩

theorem wI_pc : PC (fun _ => True) wI := fun x y r s _ _ h => by
  have := form_pc _ _ r s trivial trivial h
  refine ⟨?_, this.2⟩
  rw [← zag_zig x, ← zag_zig y, this.1]

theorem wU_pc : PC (fun n : Int => 0 ≤ n) wU := fun x y r s hx hy h => by
  have := form_pc _ _ r s trivial trivial h
  exact ⟨by omega, this.2⟩

theorem wF_pc : PC (fun _ => True) wF := fun x y r s _ _ h => by
  have := form_pc _ _ r s trivial trivial h
  exact ⟨by cases x <;> cases y <;> simp_all, this.2⟩

theorem wB_pc : PC (fun _ => True) wB := fun x y r s _ _ h => by
  unfold wB at h
  rw [List.append_assoc, List.append_assoc] at h
  have := form_pc _ _ _ _ trivial trivial h
  exact List.append_inj this.2 this.1

theorem flatMap_pc {α : Type} {ok : α → Prop} {w : α → List UInt8} (h : PC ok w) : ∀ (l m : List α) (r s : List UInt8), l.length = m.length → (∀ x ∈ l, ok x) → (∀ x ∈ m, ok x) → l.flatMap w ++ r = m.flatMap w ++ s → l = m ∧ r = s
  | [], [], _, _, _, _, _, e => ⟨rfl, by simpa using e⟩
  | x :: l, y :: m, r, s, hl, hx, hy, e => by
    simp only [List.flatMap_cons, List.append_assoc] at e
    obtain ⟨e1, e2⟩ := h x y _ _ (hx x (by simp)) (hy y (by simp)) e
    obtain ⟨e3, e4⟩ := flatMap_pc h l m r s (by simpa using hl) (fun z hz => hx z (List.mem_cons_of_mem _ hz)) (fun z hz => hy z (List.mem_cons_of_mem _ hz)) e2
    exact ⟨by rw [e1, e3], e4⟩
  | [], _ :: _, _, _, hl, _, _, _ => by simp at hl
  | _ :: _, [], _, _, hl, _, _, _ => by simp at hl

theorem wL_pc {α : Type} {ok : α → Prop} {w : α → List UInt8} (h : PC ok w) : PC (fun l => ∀ x ∈ l, ok x) (wL w) := fun x y r s hx hy e => by
  unfold wL at e
  rw [List.append_assoc, List.append_assoc] at e
  have := form_pc _ _ _ _ trivial trivial e
  exact flatMap_pc h x y r s this.1 hx hy this.2

theorem wVal_pc : PC PVal.okR wVal := fun x y r s hx hy e => by
  unfold wVal at e
  simp only [List.append_assoc] at e
  obtain ⟨a1, e⟩ := wU_pc _ _ _ _ hx.1.1 hy.1.1 e
  obtain ⟨a2, e⟩ := wI_pc _ _ _ _ trivial trivial e
  obtain ⟨a3, e⟩ := wU_pc _ _ _ _ hx.2.2.1 hy.2.2.1 e
  obtain ⟨a4, e⟩ := wB_pc _ _ _ _ trivial trivial e
  refine ⟨?_, e⟩
  obtain ⟨xk, xn, xf, ⟨⟨xs⟩⟩⟩ := x
  obtain ⟨yk, yn, yf, ⟨⟨ys⟩⟩⟩ := y
  simp only at a1 a2 a3 a4
  rw [a1, a2, a3, a4]

theorem wAttr_pc : PC PAttr.okR wAttr := fun x y r s hx hy e => by
  unfold wAttr at e
  simp only [List.append_assoc] at e
  obtain ⟨a1, e⟩ := wI_pc _ _ _ _ trivial trivial e
  obtain ⟨a2, e⟩ := wVal_pc _ _ _ _ hx.2 hy.2 e
  refine ⟨?_, e⟩
  obtain ⟨x1, x2⟩ := x
  obtain ⟨y1, y2⟩ := y
  simp only at a1 a2
  rw [a1, a2]

theorem wChg_pc : PC PChg.okR wChg := fun x y r s hx hy e => by
  unfold wChg at e
  simp only [List.append_assoc] at e
  obtain ⟨a1, e⟩ := wI_pc _ _ _ _ trivial trivial e
  obtain ⟨a2, e⟩ := wF_pc _ _ _ _ trivial trivial e
  obtain ⟨a3, e⟩ := wVal_pc _ _ _ _ hx.2 hy.2 e
  refine ⟨?_, e⟩
  obtain ⟨x1, x2, x3⟩ := x
  obtain ⟨y1, y2, y3⟩ := y
  simp only at a1 a2 a3
  rw [a1, a2, a3]

theorem wOp_pc : PC POp.okR wOp := fun x y r s hx hy e => by
  unfold wOp at e
  simp only [List.append_assoc] at e
  obtain ⟨a1, e⟩ := wU_pc _ _ _ _ hx.1.1 hy.1.1 e
  obtain ⟨a2, e⟩ := wI_pc _ _ _ _ trivial trivial e
  obtain ⟨a3, e⟩ := wL_pc wI_pc _ _ _ _ (fun _ _ => trivial) (fun _ _ => trivial) e
  obtain ⟨a4, e⟩ := wL_pc wAttr_pc _ _ _ _ hx.2.2.2.1 hy.2.2.2.1 e
  obtain ⟨a5, e⟩ := wL_pc wChg_pc _ _ _ _ hx.2.2.2.2 hy.2.2.2.2 e
  refine ⟨?_, e⟩
  obtain ⟨x1, x2, x3, x4, x5⟩ := x
  obtain ⟨y1, y2, y3, y4, y5⟩ := y
  simp only at a1 a2 a3 a4 a5
  rw [a1, a2, a3, a4, a5]

theorem wKey_pc : PC PKey.okR wKey := fun x y r s hx hy e => by
  unfold wKey at e
  simp only [List.append_assoc] at e
  obtain ⟨a1, e⟩ := wI_pc _ _ _ _ trivial trivial e
  obtain ⟨a2, e⟩ := wF_pc _ _ _ _ trivial trivial e
  obtain ⟨a3, e⟩ := wU_pc _ _ _ _ hx.2.1.1 hy.2.1.1 e
  obtain ⟨a4, e⟩ := wF_pc _ _ _ _ trivial trivial e
  obtain ⟨a5, e⟩ := wF_pc _ _ _ _ trivial trivial e
  obtain ⟨a6, e⟩ := wI_pc _ _ _ _ trivial trivial e
  refine ⟨?_, e⟩
  obtain ⟨x1, x2, x3, x4, x5, x6⟩ := x
  obtain ⟨y1, y2, y3, y4, y5, y6⟩ := y
  simp only at a1 a2 a3 a4 a5 a6
  rw [a1, a2, a3, a4, a5, a6]

/-- A field of a command that is written. -/
def getF (c : PCmd) : Int × Int × Int × Int × List POp × List UInt8 × List PChg := (c.i, c.j, c.key, c.by', c.ops, c.bytes, c.patch)

theorem wField_pc {x y : PCmd} (hx : x.okR) (hy : y.okR) : ∀ (fs : List UInt8) (r s : List UInt8), fs.flatMap (wField x) ++ r = fs.flatMap (wField y) ++ s →
    r = s ∧ (105 ∈ fs → x.i = y.i) ∧ (106 ∈ fs → x.j = y.j) ∧ (107 ∈ fs → x.key = y.key) ∧ (121 ∈ fs → x.by' = y.by') ∧ (111 ∈ fs → x.ops = y.ops) ∧ (98 ∈ fs → x.bytes = y.bytes) ∧ (112 ∈ fs → x.patch = y.patch)
  | [], r, s, e => by simpa using e
  | f :: fs, r, s, e => by
    simp only [List.flatMap_cons, List.append_assoc] at e
    have key : (fs.flatMap (wField x) ++ r = fs.flatMap (wField y) ++ s) ∧ (f = 105 → x.i = y.i) ∧ (f = 106 → x.j = y.j) ∧ (f = 107 → x.key = y.key) ∧ (f = 121 → x.by' = y.by') ∧ (f = 111 → x.ops = y.ops) ∧ (f = 98 → x.bytes = y.bytes) ∧ (f = 112 → x.patch = y.patch) := by
      unfold wField at e
      by_cases h1 : f = 105
      · subst h1
        obtain ⟨a, b⟩ := wI_pc _ _ _ _ trivial trivial (by simpa using e)
        exact ⟨b, fun _ => a, fun q => absurd q (by decide), fun q => absurd q (by decide), fun q => absurd q (by decide), fun q => absurd q (by decide), fun q => absurd q (by decide), fun q => absurd q (by decide)⟩
      by_cases h2 : f = 106
      · subst h2
        obtain ⟨a, b⟩ := wI_pc _ _ _ _ trivial trivial (by simpa using e)
        exact ⟨b, fun q => absurd q (by decide), fun _ => a, fun q => absurd q (by decide), fun q => absurd q (by decide), fun q => absurd q (by decide), fun q => absurd q (by decide), fun q => absurd q (by decide)⟩
      by_cases h3 : f = 107
      · subst h3
        obtain ⟨a, b⟩ := wI_pc _ _ _ _ trivial trivial (by simpa using e)
        exact ⟨b, fun q => absurd q (by decide), fun q => absurd q (by decide), fun _ => a, fun q => absurd q (by decide), fun q => absurd q (by decide), fun q => absurd q (by decide), fun q => absurd q (by decide)⟩
      by_cases h4 : f = 121
      · subst h4
        obtain ⟨a, b⟩ := wI_pc _ _ _ _ trivial trivial (by simpa using e)
        exact ⟨b, fun q => absurd q (by decide), fun q => absurd q (by decide), fun q => absurd q (by decide), fun _ => a, fun q => absurd q (by decide), fun q => absurd q (by decide), fun q => absurd q (by decide)⟩
      by_cases h5 : f = 111
      · subst h5
        obtain ⟨a, b⟩ := wL_pc wOp_pc _ _ _ _ hx.2.2.2.2.2.1 hy.2.2.2.2.2.1 (by simpa using e)
        exact ⟨b, fun q => absurd q (by decide), fun q => absurd q (by decide), fun q => absurd q (by decide), fun q => absurd q (by decide), fun _ => a, fun q => absurd q (by decide), fun q => absurd q (by decide)⟩
      by_cases h6 : f = 98
      · subst h6
        obtain ⟨a, b⟩ := wB_pc _ _ _ _ trivial trivial (by simpa using e)
        exact ⟨b, fun q => absurd q (by decide), fun q => absurd q (by decide), fun q => absurd q (by decide), fun q => absurd q (by decide), fun q => absurd q (by decide), fun _ => a, fun q => absurd q (by decide)⟩
      by_cases h7 : f = 112
      · subst h7
        obtain ⟨a, b⟩ := wL_pc wChg_pc _ _ _ _ hx.2.2.2.2.2.2 hy.2.2.2.2.2.2 (by simpa using e)
        exact ⟨b, fun q => absurd q (by decide), fun q => absurd q (by decide), fun q => absurd q (by decide), fun q => absurd q (by decide), fun q => absurd q (by decide), fun q => absurd q (by decide), fun _ => a⟩
      · simp only [h1, h2, h3, h4, h5, h6, h7, if_false, List.nil_append] at e
        exact ⟨e, fun q => absurd q h1, fun q => absurd q h2, fun q => absurd q h3, fun q => absurd q h4, fun q => absurd q h5, fun q => absurd q h6, fun q => absurd q h7⟩
    obtain ⟨k0, k1, k2, k3, k4, k5, k6, k7⟩ := key
    obtain ⟨i0, i1, i2, i3, i4, i5, i6, i7⟩ := wField_pc hx hy fs r s k0
    refine ⟨i0, fun q => ?_, fun q => ?_, fun q => ?_, fun q => ?_, fun q => ?_, fun q => ?_, fun q => ?_⟩
    · rcases List.mem_cons.1 q with q | q
      · exact k1 q.symm
      · exact i1 q
    · rcases List.mem_cons.1 q with q | q
      · exact k2 q.symm
      · exact i2 q
    · rcases List.mem_cons.1 q with q | q
      · exact k3 q.symm
      · exact i3 q
    · rcases List.mem_cons.1 q with q | q
      · exact k4 q.symm
      · exact i4 q
    · rcases List.mem_cons.1 q with q | q
      · exact k5 q.symm
      · exact i5 q
    · rcases List.mem_cons.1 q with q | q
      · exact k6 q.symm
      · exact i6 q
    · rcases List.mem_cons.1 q with q | q
      · exact k7 q.symm
      · exact i7 q

theorem wCmd_pc : PC (fun c => PCmd.okR c ∧ mayC c) wCmd := fun x y r s hx hy e => by
  unfold wCmd at e
  simp only [List.append_assoc] at e
  obtain ⟨a, e⟩ := wU_pc _ _ _ _ hx.1.1.1 hy.1.1.1 e
  rw [a] at e
  obtain ⟨e0, h1, h2, h3, h4, h5, h6, h7⟩ := wField_pc hx.1 hy.1 _ r s e
  refine ⟨?_, e0⟩
  rw [hx.2.2, hy.2.2]
  unfold bareC
  rw [a]
  congr 1
  · split
    · exact h1 ‹_›
    · rfl
  · split
    · exact h2 ‹_›
    · rfl
  · split
    · exact h3 ‹_›
    · rfl
  · split
    · exact h4 ‹_›
    · rfl
  · split
    · exact h5 ‹_›
    · rfl
  · split
    · exact h6 ‹_›
    · rfl
  · split
    · exact h7 ‹_›
    · rfl
end Go.Mir

/- Bits of numbers, as the forms use them. -/
namespace Go.Mir

theorem wrap_u8 {n : Int} (h : 0 ≤ n ∧ n < 256) : IntKind.u8.wrap n = n := IntWalk.u8_in _ (by omega)
theorem wrap_u64 {n : Int} (h : 0 ≤ n ∧ n < 2 ^ 64) : IntKind.u64.wrap n = n := IntWalk.u64_in _ (by omega)
theorem wrap_i64 {n : Int} (h : i64ok n) : IntKind.i64.wrap n = n := IntWalk.i64_in _ (by unfold i64ok at h; omega)

theorem ofInt_toNat {w : Nat} {n : Int} (h : 0 ≤ n) : (BitVec.ofInt w n).toNat = n.toNat % 2 ^ w := by
  rw [BitVec.toNat_ofInt]
  obtain ⟨m, rfl⟩ := Int.eq_ofNat_of_zero_le h
  norm_cast

theorem op_and8 {x y : Int} {r : Nat} (e : (BitVec.ofInt 8 x &&& BitVec.ofInt 8 y).toNat = r) (_hr : r < 256) : intOp .and .u8 x y = some (.int .u8 (r : Int)) := by
  show some (Value.int .u8 (IntKind.u8.wrap ((BitVec.ofInt 8 x &&& BitVec.ofInt 8 y).toNat : Int))) = _
  rw [e, wrap_u8 (by omega)]
theorem op_or8 {x y : Int} {r : Nat} (e : (BitVec.ofInt 8 x ||| BitVec.ofInt 8 y).toNat = r) (_hr : r < 256) : intOp .or .u8 x y = some (.int .u8 (r : Int)) := by
  show some (Value.int .u8 (IntKind.u8.wrap ((BitVec.ofInt 8 x ||| BitVec.ofInt 8 y).toNat : Int))) = _
  rw [e, wrap_u8 (by omega)]
theorem op_or64 {x y : Int} {r : Nat} (e : (BitVec.ofInt 64 x ||| BitVec.ofInt 64 y).toNat = r) (_hr : r < 2 ^ 64) : intOp .or .u64 x y = some (.int .u64 (r : Int)) := by
  show some (Value.int .u64 (IntKind.u64.wrap ((BitVec.ofInt 64 x ||| BitVec.ofInt 64 y).toNat : Int))) = _
  rw [e, wrap_u64 (by omega)]
theorem op_xor64 {x y : Int} {r : Nat} (e : (BitVec.ofInt 64 x ^^^ BitVec.ofInt 64 y).toNat = r) (_hr : r < 2 ^ 64) : intOp .xor .u64 x y = some (.int .u64 (r : Int)) := by
  show some (Value.int .u64 (IntKind.u64.wrap ((BitVec.ofInt 64 x ^^^ BitVec.ofInt 64 y).toNat : Int))) = _
  rw [e, wrap_u64 (by omega)]
theorem op_xorI {x y : Int} {r : Nat} (e : (BitVec.ofInt 64 x ^^^ BitVec.ofInt 64 y).toNat = r) : intOp .xor .i64 x y = some (.int .i64 (IntKind.i64.wrap (r : Int))) := by
  show some (Value.int .i64 (IntKind.i64.wrap ((BitVec.ofInt 64 x ^^^ BitVec.ofInt 64 y).toNat : Int))) = _
  rw [e]

/-- A byte without its highest bit. -/
theorem and_127 {n : Nat} (h : n < 256) : intOp .and .u8 (n : Int) 127 = some (.int .u8 ((n % 128 : Nat) : Int)) := by
  have e : (BitVec.ofInt 8 (n : Int) &&& BitVec.ofInt 8 127).toNat = n % 128 := by
    rw [BitVec.toNat_and, ofInt_toNat (by omega), ofInt_toNat (by omega)]
    have : (127 : Int).toNat % 2 ^ 8 = 2 ^ 7 - 1 := by decide
    rw [this, Nat.and_two_pow_sub_one_eq_mod, Int.toNat_natCast]
    omega
  exact op_and8 e (by omega)

/-- A byte with its highest bit. -/
theorem or_128 {n : Nat} (h : n < 256) : intOp .or .u8 (n : Int) 128 = some (.int .u8 ((n % 128 + 128 : Nat) : Int)) := by
  have e : (BitVec.ofInt 8 (n : Int) ||| BitVec.ofInt 8 128).toNat = n % 128 + 128 := by
    rw [BitVec.toNat_or, ofInt_toNat (by omega), ofInt_toNat (by omega), Int.toNat_natCast, Nat.mod_eq_of_lt h]
    have e0 : (128 : Int).toNat % 2 ^ 8 = 2 ^ 7 * 1 := by decide
    rw [e0]
    have h1 := Nat.two_pow_add_eq_or_of_lt (i := 7) (b := n % 128) (by omega) 1
    by_cases hn : n < 128
    · have : n % 128 = n := by omega
      rw [this] at h1 ⊢
      rw [Nat.or_comm, ← h1]; omega
    · have h2 : n = 2 ^ 7 * 1 ||| n % 128 := by rw [← h1]; omega
      rw [Nat.or_comm]
      conv => lhs; rw [h2]
      rw [← Nat.or_assoc, Nat.or_self, ← h1]; omega
  exact op_or8 e (by omega)

theorem shl_u64 {C : Ctx} {t : TypeId} {a b : Operand} {x i : Nat} (hx : x < 2 ^ 64) (hi : 7 * i < 64) (h : x * 2 ^ (7 * i) < 2 ^ 64) :
    abin C .shl t a b (.int .u64 (IntKind.u64.wrap (x : Int))) (.int .i64 ((7 * i : Nat) : Int)) = some (.int .u64 ((x * 2 ^ (7 * i) : Nat) : Int)) := by
  rw [wrap_u64 (by omega)]
  have e0 : min (((7 * i : Nat) : Int).toNat) 64 = 7 * i := by omega
  have e2 : ((x : Int) * 2 ^ (7 * i)) = ((x * 2 ^ (7 * i) : Nat) : Int) := by push_cast; rfl
  show (if ((7 * i : Nat) : Int) < 0 then none else some (Value.int .u64 (IntKind.u64.wrap ((x : Int) * 2 ^ min (((7 * i : Nat) : Int).toNat) 64)))) = _
  rw [if_neg (by omega), e0, e2, wrap_u64 (by omega)]

/-- Digits are put on top. -/
theorem or_shl {a d i : Nat} (ha : a < 2 ^ (7 * i)) (h : a + d * 2 ^ (7 * i) < 2 ^ 64) : intOp .or .u64 (a : Int) ((d * 2 ^ (7 * i) : Nat) : Int) = some (.int .u64 ((a + d * 2 ^ (7 * i) : Nat) : Int)) := by
  have e : (BitVec.ofInt 64 (a : Int) ||| BitVec.ofInt 64 ((d * 2 ^ (7 * i) : Nat) : Int)).toNat = a + d * 2 ^ (7 * i) := by
    rw [BitVec.toNat_or, ofInt_toNat (by omega), ofInt_toNat (by omega), Int.toNat_natCast, Int.toNat_natCast, Nat.mod_eq_of_lt (by omega), Nat.mod_eq_of_lt (by omega), Nat.mul_comm d, Nat.or_comm, ← Nat.two_pow_add_eq_or_of_lt ha]
    omega
  exact op_or64 e h

theorem u64_mod (m : Int) : IntKind.u64.wrap m = m % 2 ^ 64 := by simp [IntKind.wrap, IntKind.bits, IntKind.signed]

/-- The natural number of a whole one, as the writer reckons it. -/
theorem zig_bits {n : Int} (h : i64ok n) : intOp .xor .u64 (IntKind.u64.wrap (IntKind.u64.wrap n * 2 ^ 1)) (IntKind.u64.wrap (n.fdiv (2 ^ 63))) = some (.int .u64 (zig n : Int)) := by
  unfold i64ok at h
  rw [u64_mod, u64_mod, u64_mod]
  unfold zig
  by_cases hn : 0 ≤ n
  · have e1 : n.fdiv (2 ^ 63) = 0 := by
      rw [Int.fdiv_eq_ediv_of_nonneg _ (by decide)]
      exact Int.ediv_eq_zero_of_lt hn (by omega)
    rw [e1, if_pos hn]
    have e2 : n % 2 ^ 64 * 2 ^ 1 % 2 ^ 64 = 2 * n := by omega
    rw [e2]
    refine op_xor64 ?_ (by omega)
    rw [BitVec.toNat_xor, ofInt_toNat (by omega), ofInt_toNat (by decide)]
    simp
    omega
  · have e1 : n.fdiv (2 ^ 63) = -1 := by
      rw [Int.fdiv_eq_ediv_of_nonneg _ (by decide)]
      omega
    rw [e1, if_neg hn]
    have e2 : n % 2 ^ 64 * 2 ^ 1 % 2 ^ 64 = 2 * n + 2 ^ 64 := by omega
    have e4 : (-1 : Int) % 2 ^ 64 = 2 ^ 64 - 1 := by decide
    rw [e2, e4]
    refine op_xor64 ?_ (by omega)
    have : BitVec.ofInt 64 (2 ^ 64 - 1) = BitVec.allOnes 64 := by decide
    rw [this, BitVec.xor_allOnes, BitVec.toNat_not, ofInt_toNat (by omega), Nat.mod_eq_of_lt (by omega)]
    omega

/-- The whole number of a natural one, as the reader reckons it. -/
theorem zag_bits {n : Nat} (h : n < 2 ^ 64) : intOp .xor .i64 (IntKind.i64.wrap ((n : Int).fdiv (2 ^ 1))) (IntKind.i64.wrap (-((n % 2 : Nat) : Int))) = some (.int .i64 (zag n)) := by
  have e1 : (n : Int).fdiv (2 ^ 1) = ((n / 2 : Nat) : Int) := by
    rw [Int.fdiv_eq_ediv_of_nonneg _ (by decide)]; omega
  rw [e1, IntWalk.i64_in _ (by omega), IntWalk.i64_in _ (by omega)]
  unfold zag
  by_cases hn : n % 2 = 0
  · rw [if_pos hn, hn]
    have e3 : (BitVec.ofInt 64 ((n / 2 : Nat) : Int) ^^^ BitVec.ofInt 64 (-((0 : Nat) : Int))).toNat = n / 2 := by
      rw [BitVec.toNat_xor, ofInt_toNat (by omega), ofInt_toNat (by decide)]
      simp
      omega
    rw [op_xorI e3, IntWalk.i64_in _ (by omega)]
  · have hn1 : n % 2 = 1 := by omega
    rw [if_neg hn, hn1]
    have e3 : (BitVec.ofInt 64 ((n / 2 : Nat) : Int) ^^^ BitVec.ofInt 64 (-((1 : Nat) : Int))).toNat = 2 ^ 64 - 1 - n / 2 := by
      have : BitVec.ofInt 64 (-((1 : Nat) : Int)) = BitVec.allOnes 64 := by decide
      rw [this, BitVec.xor_allOnes, BitVec.toNat_not, ofInt_toNat (by omega), Nat.mod_eq_of_lt (by omega)]
      omega
    rw [op_xorI e3, IntKind.wrap_i64]
    refine congrArg (fun z => some (Value.int .i64 z)) ?_
    omega

theorem shr1_u64 {C : Ctx} {t : TypeId} {a b : Operand} {n : Nat} : abin C .shr t a b (.int .u64 (n : Int)) (.int .u64 1) = some (.int .u64 ((n / 2 : Nat) : Int)) := by
  have e : (n : Int).fdiv (2 ^ 1) = ((n / 2 : Nat) : Int) := by
    rw [Int.fdiv_eq_ediv_of_nonneg _ (by decide)]; omega
  have e0 : min ((1 : Int).toNat) 64 = 1 := by decide
  show (if (1 : Int) < 0 then none else some (Value.int .u64 ((n : Int).fdiv (2 ^ min ((1 : Int).toNat) 64)))) = _
  rw [if_neg (by decide), e0, e]

theorem and1_u64 {n : Nat} (h : n < 2 ^ 64) : intOp .and .u64 (n : Int) 1 = some (.int .u64 ((n % 2 : Nat) : Int)) := by
  have e : (BitVec.ofInt 64 (n : Int) &&& BitVec.ofInt 64 1).toNat = n % 2 := by
    rw [BitVec.toNat_and, ofInt_toNat (by omega), ofInt_toNat (by omega)]
    have : (1 : Int).toNat % 2 ^ 64 = 2 ^ 1 - 1 := by decide
    rw [this, Nat.and_two_pow_sub_one_eq_mod, Int.toNat_natCast]
    omega
  show some (Value.int .u64 (IntKind.u64.wrap ((BitVec.ofInt 64 (n : Int) &&& BitVec.ofInt 64 1).toNat : Int))) = _
  rw [e, wrap_u64 (by omega)]

theorem zag_xor {n : Nat} (h : n < 2 ^ 64) : intOp .xor .i64 (IntKind.i64.wrap ((n / 2 : Nat) : Int)) (IntKind.i64.wrap (0 - IntKind.i64.wrap ((n % 2 : Nat) : Int))) = some (.int .i64 (zag n)) := by
  have e1 : (n : Int).fdiv (2 ^ 1) = ((n / 2 : Nat) : Int) := by
    rw [Int.fdiv_eq_ediv_of_nonneg _ (by decide)]; omega
  have := zag_bits h
  rw [e1] at this
  have e2 : IntKind.i64.wrap ((n % 2 : Nat) : Int) = ((n % 2 : Nat) : Int) := IntWalk.i64_in _ (by omega)
  rw [e2, Int.zero_sub]; exact this

theorem zag_ok {n : Nat} (h : n < 2 ^ 64) : i64ok (zag n) := by
  unfold zag i64ok; split <;> omega
theorem zig_lt {n : Int} (h : i64ok n) : zig n < 2 ^ 64 := by
  unfold i64ok at h; unfold zig; split <;> omega
end Go.Mir

/- Slices of bytes; rows that grow. -/
namespace Go.Mir

section
variable {k : IntKind} {x y : Int}
theorem lss_t (h : x < y) : intOp .lss k x y = some (.bool true) := by simp [intOp, h]
theorem lss_f (h : ¬ x < y) : intOp .lss k x y = some (.bool false) := by
  simp only [intOp, Option.some.injEq, Value.bool.injEq, decide_eq_false_iff_not]; omega
theorem leq_t (h : x ≤ y) : intOp .leq k x y = some (.bool true) := by simp [intOp, h]
theorem leq_f (h : ¬ x ≤ y) : intOp .leq k x y = some (.bool false) := by
  simp only [intOp, Option.some.injEq, Value.bool.injEq, decide_eq_false_iff_not]; omega
theorem gtr_t (h : y < x) : intOp .gtr k x y = some (.bool true) := by simp [intOp, h]
theorem gtr_f (h : ¬ y < x) : intOp .gtr k x y = some (.bool false) := by
  simp only [intOp, Option.some.injEq, Value.bool.injEq, decide_eq_false_iff_not]; omega
theorem geq_t (h : y ≤ x) : intOp .geq k x y = some (.bool true) := by simp [intOp, h]
theorem geq_f (h : ¬ y ≤ x) : intOp .geq k x y = some (.bool false) := by
  simp only [intOp, Option.some.injEq, Value.bool.injEq, decide_eq_false_iff_not]; omega
theorem eql_t (h : x = y) : intOp .eql k x y = some (.bool true) := by simp [intOp, h]
theorem eql_f (h : x ≠ y) : intOp .eql k x y = some (.bool false) := by simp [intOp, h]
theorem neq_t (h : x ≠ y) : intOp .neq k x y = some (.bool true) := by simp [intOp, h]
theorem neq_f (h : x = y) : intOp .neq k x y = some (.bool false) := by simp [intOp, h]
end

theorem Sl.at {α : Type} {h : H} {S : Nat → Prop} {w : Nat} {R : α → List Value → Prop} {a : Option Addr} {n c : Nat} {xs : List α} (q : Sl h S w R (.slice a n c) xs) {i : Nat} (hi : i < n) :
    ∃ b o x cs, a = some ⟨b, o, none⟩ ∧ S b ∧ c ≤ LOOSE ∧ xs[i]? = some x ∧ cs.length = w ∧ R x cs ∧ h.read ⟨b, o + i * w, none⟩ w = some cs := by
  obtain ⟨a', n', c', e, _, h2, _, h4⟩ := q.inv
  simp only [Value.slice.injEq] at e
  obtain ⟨rfl, rfl, rfl⟩ := e
  obtain ⟨b, o, x, cs, h5, h6, h7, h8, h9, h10⟩ := h4 i hi
  exact ⟨b, o, x, cs, h5, h6, h2, h7, h8, h9, h10⟩

/-- Bytes that stay and may be cut. -/
def Bs (h : H) (S : Nat → Prop) (v : Value) (bs : List UInt8) : Prop :=
  Sl h S 1 RByte v bs ∧ ∃ a c, v = .slice a bs.length c ∧ bs.length ≤ c ∧ (c < LOOSE ∨ (c = LOOSE ∧ ∃ b cs, a = some ⟨b, 0, none⟩ ∧ S b ∧ h.get b = some (.cells cs 1) ∧ cs.length = bs.length))

theorem Bs.to {h h' : H} {S S' : Nat → Prop} {v : Value} {bs : List UInt8} (q : Bs h S v bs) (hs : ∀ a, S a → S' a ∧ h'.get a = h.get a) : Bs h' S' v bs := by
  obtain ⟨q1, a, c, e1, e2, e3⟩ := q
  refine ⟨q1.to hs (fun _ _ q => q), a, c, e1, e2, ?_⟩
  rcases e3 with e3 | ⟨e3, b, cs, e4, e5, e6, e7⟩
  · exact .inl e3
  · exact .inr ⟨e3, b, cs, e4, (hs b e5).1, (hs b e5).2.trans e6, e7⟩

theorem Bs.len {h : H} {S : Nat → Prop} {v : Value} {bs : List UInt8} (q : Bs h S v bs) : bs.length < 2 ^ 62 := by
  obtain ⟨⟨a, n, c, e, h1, h2, h3, _⟩, _⟩ := q
  omega

/-- A part of bytes. -/
theorem cslice_bytes {C : Ctx} {h : H} {S : Nat → Prop} {v : Value} {bs : List UInt8} (q : Bs h S v bs) {t : TypeId} (ht : elemSize C t = some 1) {ρ : Operand → Value} {x : Operand} {lo hi : Option Operand} {l m : Nat} (hx : ρ x = v) (hlo : optNat ρ 0 lo = some l) (hhi : optNat ρ bs.length hi = some m) (h1 : l ≤ m) (h2 : m ≤ bs.length) :
    ∃ a c, cSlice C h ρ t x lo hi none = some (.slice a (m - l) c, none) ∧ (0 < m - l → Sl h S 1 RByte (.slice a (m - l) c) ((bs.drop l).take (m - l))) := by
  have h62 := q.len
  obtain ⟨⟨a0, n0, c0, e0, h1', h2', h3', hel⟩, a, c, e1, e2, e3⟩ := q
  rw [e1] at e0
  simp only [Value.slice.injEq] at e0
  obtain ⟨rfl, rfl, rfl⟩ := e0
  unfold elemSize at ht
  split at ht
  · rename_i el hu
    have hlen : ((bs.drop l).take (m - l)).length = m - l := by rw [List.length_take, List.length_drop]; omega
    have elems : ∀ (b o : Nat), a = some ⟨b, o, none⟩ → S b → (∀ (i : Nat) (x : UInt8), bs[i]? = some x → ∃ cs, cs.length = 1 ∧ RByte x cs ∧ h.read ⟨b, o + i * 1, none⟩ 1 = some cs) → ∀ (i : Nat) (x : UInt8), ((bs.drop l).take (m - l))[i]? = some x → ∃ cs, cs.length = 1 ∧ RByte x cs ∧ h.read ⟨b, o + l + i * 1, none⟩ 1 = some cs := by
      intro b o _ _ f i x hi
      rw [List.getElem?_take] at hi
      split at hi
      · rw [List.getElem?_drop] at hi
        obtain ⟨cs, g1, g2, g3⟩ := f _ x hi
        exact ⟨cs, g1, g2, by rw [← g3]; congr 2; omega⟩
      · cases hi
    rcases e3 with e3 | ⟨e3, b, cs, e4, e5, e6, e7⟩
    · -- the cap is known
      have hn : ¬ LOOSE ≤ c := Nat.not_le_of_lt e3
      have hn1 : Nat.ble LOOSE c = false := by
        cases hb : Nat.ble LOOSE c with
        | false => rfl
        | true => exact absurd (Nat.le_of_ble_eq_true hb) hn
      refine ⟨bif Nat.beq c l then a else a.map (·.add (l * 1)), c - l, ?_, fun hpos => ?_⟩
      · simp only [cSlice, hu, hx, e1, ht, H.capOf, hn1, cond_false, hhi, hlo, show optNat ρ c none = some c from rfl]
        rw [Nat.ble_eq_true_of_le (Nat.le_refl c), Nat.ble_eq_true_of_le (show m ≤ (bif (none : Option Operand).isSome then c else c) by simp; omega), Nat.ble_eq_true_of_le h1]
        simp only [Option.isNone_none, Bool.true_or, Bool.and_self, show Nat.ble 1 1 = true from rfl, cond_true, sliceV, hn1, cond_false, Option.isSome_none, pv]
      · have hne : Nat.beq c l = false := by
          cases hb : Nat.beq c l with
          | false => rfl
          | true => have := Nat.eq_of_beq_eq_true hb; omega
        rw [hne, cond_false]
        cases a with
        | none => simp only at hel; omega
        | some a =>
          simp only at hel
          rcases hel with hel | ⟨b, o, rfl, hS, f⟩
          · omega
          simp only [Option.map_some, addr_step]
          exact ⟨_, _, _, rfl, hlen.symm, by omega, by omega, .inr ⟨b, o + l * 1, rfl, hS, by
            have := elems b o rfl hS f
            simpa using this⟩⟩
    · subst e3
      have hroom : h.room ⟨b, 0, none⟩ 1 = some bs.length := by
        unfold H.room; simp only [e6]
        rw [show Nat.beq 1 1 = true from rfl, cond_true, e7]; simp
      subst e4
      simp only at hel
      have hb1 : Nat.ble LOOSE LOOSE = true := Nat.ble_eq_true_of_le (Nat.le_refl _)
      have hb2 : Nat.blt LOOSE LOOSE = false := by
        cases hb : Nat.blt LOOSE LOOSE with
        | false => rfl
        | true => rw [Nat.blt_eq] at hb; exact absurd hb (Nat.lt_irrefl _)
      have key : cSlice C h ρ t x lo hi none = pv (sliceV false (some ⟨b, 0, none⟩) LOOSE bs.length bs.length m l 1) := by
        simp only [cSlice, hu, hx, e1, ht, H.capOf, hb1, cond_true, hroom, Nat.sub_self, Nat.sub_zero, hhi, hlo, show optNat ρ bs.length none = some bs.length from rfl]
        rw [Nat.ble_eq_true_of_le (Nat.le_refl bs.length), Nat.ble_eq_true_of_le (show m ≤ (bif (none : Option Operand).isSome then bs.length else bs.length) by simp; omega), Nat.ble_eq_true_of_le h1]
        simp only [Option.isNone_none, Bool.true_or, Bool.and_self, show Nat.ble 1 1 = true from rfl, cond_true, Option.isSome_none]
      rw [key]
      simp only [sliceV, hb1, hb2, cond_true, cond_false]
      by_cases hl0 : l = 0
      · subst hl0
        refine ⟨some ⟨b, 0, none⟩, LOOSE, by simp [pv], fun hpos => ⟨_, _, _, rfl, hlen.symm, Nat.le_refl _, by omega, .inr ?_⟩⟩
        rcases hel with hel | ⟨b', o', e, hS, f⟩
        · omega
        simp only [Addr.mk.injEq, and_true] at e
        obtain ⟨rfl, rfl⟩ := e
        exact ⟨b, 0, rfl, hS, by have := elems b 0 rfl hS f; simpa using this⟩
      · have hz : Nat.beq l 0 = false := by
          cases hb : Nat.beq l 0 with
          | false => rfl
          | true => exact absurd (Nat.eq_of_beq_eq_true hb) hl0
        rw [hz, cond_false]
        by_cases hlt : l < bs.length
        · rw [blt_of hlt, cond_true]
          refine ⟨_, _, rfl, fun hpos => ?_⟩
          simp only [Option.map_some, addr_step]
          refine ⟨_, _, _, rfl, hlen.symm, Nat.le_refl _, by omega, .inr ?_⟩
          rcases hel with hel | ⟨b', o', e, hS, f⟩
          · omega
          simp only [Addr.mk.injEq, and_true] at e
          obtain ⟨rfl, rfl⟩ := e
          exact ⟨b, 0 + l * 1, rfl, hS, by have := elems b 0 rfl hS f; simpa using this⟩
        · have hb3 : Nat.blt l bs.length = false := by
            cases hb : Nat.blt l bs.length with
            | false => rfl
            | true => rw [Nat.blt_eq] at hb; exact absurd hb hlt
          rw [hb3, cond_false]
          exact ⟨_, _, rfl, fun hpos => by omega⟩
  · cases ht

theorem St.over {h0 h h' : H} {S : Nat → Prop} {As Bs : List Asn} (p : St h0 S h As) (q : St h S h' Bs) : St h0 S h' Bs :=
  ⟨p.lt, Nat.le_trans p.nx q.nx, fun a ha => (q.same a ha).trans (p.same a ha), q.mine⟩

section
variable {C : Ctx} {md : Option (List KD)} {all rest : List Oper} {K : List Fr} {N : Nat} {L : List (Nat × Value)} {h : H} {Q : Out → Env → H → Prop} {d : Nat} {ty : TypeId} {pos : String} {aft : Array Edge} {g : Option (Nat × Bool)} {h0 : H} {S : Nat → Prop} {As : List Asn}

def optK (L : List (Nat × Value)) (dflt : Nat) : Option Operand → Option Nat
  | none => some dflt
  | some x => match lookO L x with
    | some (.int _ (.ofNat n)) => some n
    | _ => none

theorem optK_eq {e : Env} (he : Knows e N L) {dflt n : Nat} {x : Option Operand} (q : optK L dflt x = some n) : optNat e.eval dflt x = some n := by
  cases x with
  | none => simpa [optK, optNat] using q
  | some x =>
    simp only [optK] at q
    split at q
    · rename_i k m hx
      simp only [optNat, he.eval hx, asNat]; exact q
    · cases q

/-- A part of bytes that stay. -/
theorem ow_sliceB {t : TypeId} {x : Operand} {lo hi : Option Operand} {v : Value} {bs : List UInt8} {l m : Nat} (q : Bs h S v bs) (h1 : l ≤ m) (h2 : m ≤ bs.length)
    (k : ∀ a c, (0 < m - l → Sl h S 1 RByte (.slice a (m - l) c) ((bs.drop l).take (m - l))) → OW C (put md (.read h L (.slice a (m - l) c))) all rest K N ((d, .slice a (m - l) c) :: L) h Q)
    (ht : elemSize C t = some 1 := by rfl) (hx : lookO L x = some v := by rfl) (hlo : optK L 0 lo = some l := by rfl) (hhi : optK L bs.length hi = some m := by rfl) (hg : On all L g = true := by rfl) (hd : Nat.blt d N = true := by rfl) : OW C md all (⟨some d, .slice t x lo hi none, ty, pos, aft, g⟩ :: rest) K N L h Q := by
  by_cases hex : ∃ e, Knows e N L
  · obtain ⟨e0, he0⟩ := hex
    obtain ⟨a, c, e1, e2⟩ := cslice_bytes (C := C) q ht (he0.eval hx) (optK_eq he0 hlo) (optK_eq he0 hhi) h1 h2
    refine ow_read hg hd rfl rfl (fun e he => ?_) (k a c e2)
    obtain ⟨a', c', e1', _⟩ := cslice_bytes (C := C) q ht (he.eval hx) (optK_eq he hlo) (optK_eq he hhi) h1 h2
    have same : cSlice C h e.eval t x lo hi none = cSlice C h e0.eval t x lo hi none := by
      obtain ⟨_, a1, c1, ev, _⟩ := q
      subst ev
      unfold elemSize at ht
      split at ht
      · rename_i el hu
        simp only [cSlice, hu, he.eval hx, he0.eval hx, optK_eq he hlo, optK_eq he0 hlo, optK_eq he hhi, optK_eq he0 hhi]
        rfl
      · cases ht
    show calmF C h e.eval ⟨some d, .slice t x lo hi none, ty, pos, aft, g⟩ = _
    simp only [calmF]
    rw [same]; exact e1
  · refine ⟨?_⟩
    cases md with
    | none => exact fun e he => absurd ⟨e, he⟩ hex
    | some acc => exact fun e he => absurd ⟨e, he⟩ hex

theorem ow_neg {t : TypeId} {x : Operand} {kk : IntKind} {n : Int} (k : OW C (put md .idle) all rest K N ((d, .int kk (kk.wrap (0 - n))) :: L) h Q) (hx : lookO L x = some (.int kk n) := by rfl) (hg : On all L g = true := by rfl) (hd : Nat.blt d N = true := by rfl) : OW C md all (⟨some d, .unOp .neg t x, ty, pos, aft, g⟩ :: rest) K N L h Q :=
  ow_idle hg hd rfl rfl (fun e he => by
    simp only [calmF, cUnOp, he.eval hx]
    rfl) k
end
end Go.Mir

/- Reading a form. -/
namespace Go.Mir

/-- What digits are worth. -/
def val : List UInt8 → Nat
  | [] => 0
  | d :: ds => d.toNat % 128 + 128 * val ds

def hi (x : UInt8) : Prop := 128 ≤ x.toNat

theorem val_snoc : ∀ (p : List UInt8) (x : UInt8), val (p ++ [x]) = val p + x.toNat % 128 * 128 ^ p.length
  | [], x => by simp [val]
  | d :: p, x => by
    simp only [List.cons_append, val, val_snoc p x, List.length_cons, Nat.pow_succ]
    rw [← Nat.mul_assoc (x.toNat % 128)]
    generalize x.toNat % 128 * 128 ^ p.length = z
    omega

theorem val_lt : ∀ p : List UInt8, val p < 128 ^ p.length
  | [] => by simp [val]
  | d :: p => by
    have := val_lt p
    simp only [val, List.length_cons, Nat.pow_succ]
    omega

theorem form_val : ∀ (p : List UInt8) (x : UInt8), (∀ d ∈ p, hi d) → x.toNat < 128 → (p ≠ [] → x.toNat ≠ 0) → form (val (p ++ [x])) = p ++ [x]
  | [], x, _, hx, _ => by
    simp only [List.nil_append, val, Nat.mul_zero, Nat.add_zero]
    rw [form_small (by omega)]
    congr 1
    apply UInt8.toNat_inj.1
    rw [UInt8.toNat_ofNat']; omega
  | d :: p, x, hp, hx, h0 => by
    have hd := hp d (by simp)
    unfold hi at hd
    have hd2 := d.toNat_lt
    have hx0 := h0 (by simp)
    have ih := form_val p x (fun e he => hp e (List.mem_cons_of_mem _ he)) hx (fun _ => hx0)
    have hpos : 1 ≤ val (p ++ [x]) := by
      rw [val_snoc]
      have : 0 < 128 ^ p.length := Nat.pow_pos (by decide)
      have h2 : 1 * 1 ≤ x.toNat % 128 * 128 ^ p.length := Nat.mul_le_mul (by omega) this
      omega
    simp only [List.cons_append, val]
    rw [form_great (by omega)]
    have e1 : (d.toNat % 128 + 128 * val (p ++ [x])) / 128 = val (p ++ [x]) := by omega
    have e2 : (d.toNat % 128 + 128 * val (p ++ [x])) % 128 + 128 = d.toNat := by omega
    rw [e1, e2, ih]
    congr 1
    apply UInt8.toNat_inj.1
    rw [UInt8.toNat_ofNat']; omega

/-- High digits ahead: what is left is the form of what is left. -/
theorem form_pref : ∀ (p : List UInt8) (n : Nat) (r q : List UInt8), (∀ d ∈ p, hi d) → form n ++ r = p ++ q → form (n / 128 ^ p.length) ++ r = q ∧ (p ≠ [] → 1 ≤ n / 128 ^ p.length)
  | [], n, r, q, _, h => by simpa using h
  | d :: p, n, r, q, hp, h => by
    have hd := hp d (by simp)
    unfold hi at hd
    by_cases hn : n < 128
    · rw [form_small hn] at h
      simp only [List.cons_append, List.cons.injEq] at h
      have := congrArg UInt8.toNat h.1
      rw [UInt8.toNat_ofNat'] at this
      omega
    · rw [form_great hn] at h
      simp only [List.cons_append, List.cons.injEq] at h
      obtain ⟨i1, i2⟩ := form_pref p (n / 128) r q (fun e he => hp e (List.mem_cons_of_mem _ he)) h.2
      have e : n / 128 ^ (p.length + 1) = n / 128 / 128 ^ p.length := by rw [Nat.pow_succ, Nat.mul_comm, Nat.div_div_eq_div_mul]
      simp only [List.length_cons]
      rw [e]
      refine ⟨i1, fun _ => ?_⟩
      by_cases hp0 : p = []
      · subst hp0; simp; omega
      · exact i2 hp0

theorem form_head {n : Nat} {r q : List UInt8} {x : UInt8} (h : form n ++ r = x :: q) : (n < 128 ∧ x.toNat = n) ∨ (128 ≤ n ∧ 128 ≤ x.toNat) := by
  by_cases hn : n < 128
  · rw [form_small hn] at h
    simp only [List.cons_append, List.nil_append, List.cons.injEq] at h
    have := congrArg UInt8.toNat h.1
    rw [UInt8.toNat_ofNat'] at this
    exact .inl ⟨hn, by omega⟩
  · rw [form_great hn] at h
    simp only [List.cons_append, List.cons.injEq] at h
    have := congrArg UInt8.toNat h.1
    rw [UInt8.toNat_ofNat'] at this
    exact .inr ⟨by omega, by omega⟩

/-- No form: it does not end. -/
theorem no_end {p : List UInt8} (hp : ∀ d ∈ p, hi d) (n : Nat) (r : List UInt8) : p ≠ form n ++ r := fun h => by
  have := (form_pref p n r [] hp (by simpa using h.symm)).1
  have h2 := form_ne (n / 128 ^ p.length)
  cases hf : form (n / 128 ^ p.length) with
  | nil => exact h2 hf
  | cons a b => rw [hf] at this; cases this

/-- No form: a nought on top. -/
theorem no_nought {p q : List UInt8} (hp : ∀ d ∈ p, hi d) (h0 : p ≠ []) {x : UInt8} (hx : x.toNat = 0) (n : Nat) (r : List UInt8) : p ++ x :: q ≠ form n ++ r := fun h => by
  obtain ⟨h1, h2⟩ := form_pref p n r (x :: q) hp h.symm
  have := h2 h0
  rcases form_head h1 with h3 | h3 <;> omega

/-- No form: too great. -/
theorem no_great {p q : List UInt8} (hp : ∀ d ∈ p, hi d) (h9 : p.length = 9) {x : UInt8} (hx : 1 < x.toNat) (n : Nat) (hn : n < 2 ^ 64) (r : List UInt8) : p ++ x :: q ≠ form n ++ r := fun h => by
  obtain ⟨h1, _⟩ := form_pref p n r (x :: q) hp h.symm
  rw [h9] at h1
  have : n / 128 ^ 9 ≤ 1 := by
    have e : (128 : Nat) ^ 9 = 2 ^ 63 := by decide
    rw [e]; omega
  rcases form_head h1 with h3 | h3 <;> omega
end Go.Mir

/- Rows that grow by appends. -/
namespace Go.Mir

/-- What stays goes on staying, and may become more. -/
def Gr (S : Nat → Prop) (h : H) (S' : Nat → Prop) (h' : H) : Prop := h.next ≤ h'.next ∧ ∀ a, S a → S' a ∧ h'.get a = h.get a
theorem Gr.refl {S : Nat → Prop} {h : H} : Gr S h S h := ⟨Nat.le_refl _, fun _ ha => ⟨ha, rfl⟩⟩
theorem Gr.trans {S S1 S2 : Nat → Prop} {h h1 h2 : H} (p : Gr S h S1 h1) (q : Gr S1 h1 S2 h2) : Gr S h S2 h2 := ⟨Nat.le_trans p.1 q.1, fun a ha => ⟨(q.2 a (p.2 a ha).1).1, (q.2 a (p.2 a ha).1).2.trans (p.2 a ha).2⟩⟩
theorem St.gr {h0 h : H} {S : Nat → Prop} {As : List Asn} (s : St h0 S h As) : Gr S h0 S h := ⟨s.nx, fun a ha => ⟨ha, s.same a ha⟩⟩
theorem Bs.gr {h h' : H} {S S' : Nat → Prop} {v : Value} {bs : List UInt8} (q : Bs h S v bs) (g : Gr S h S' h') : Bs h' S' v bs := q.to g.2
theorem Sl.gr {α : Type} {h h' : H} {S S' : Nat → Prop} {w : Nat} {R : α → List Value → Prop} {v : Value} {xs : List α} (q : Sl h S w R v xs) (g : Gr S h S' h') : Sl h' S' w R v xs := q.to g.2 fun _ _ q => q
theorem ROp.gr {h h' : H} {S S' : Nat → Prop} {x : POp} {cs : List Value} (q : ROp h S x cs) (g : Gr S h S' h') : ROp h' S' x cs := q.to g.2

/-- A row that grows, owned. -/
def Buf (w n : Nat) (v : Value) (cs : List Value) : Asn := fun K =>
  cs.length = n * w ∧ ((n = 0 ∧ K = [] ∧ ∃ a, spotless a = true ∧ v = .slice a 0 0) ∨ (∃ b, v = .slice (some ⟨b, 0, none⟩) n LOOSE ∧ K = [(b, .cells cs w)]))

noncomputable def appT (C : Ctx) (ts tx : TypeId) : Option (Nat × Nat) := match C.u ts with
  | some (.slice e) => match C.ty.get e with
    | some i => match i.info.zero with
      | some z => bif (C.u tx).isSome && !isIntD (C.u tx) && Nat.ble 1 i.info.size && Nat.ble 1 i.info.bytes && Nat.beq z.cells.toList.length i.info.size && Nat.ble i.info.bytes (2 ^ 20) then some (i.info.size, i.info.bytes) else none
      | none => none
    | none => none
  | _ => none

theorem nble_f {m n : Nat} (h : n < m) : Nat.ble m n = false := by
  cases hb : Nat.ble m n with
  | false => rfl
  | true => have := Nat.le_of_ble_eq_true hb; omega
theorem nbeq_f {m n : Nat} (h : m ≠ n) : Nat.beq m n = false := by
  cases hb : Nat.beq m n with
  | false => rfl
  | true => exact absurd (Nat.eq_of_beq_eq_true hb) h

section
variable {C : Ctx} {h0 h : H} {S : Nat → Prop} {As : List Asn}

theorem takeN_all {α : Type} : ∀ l : List α, takeN l.length l = some l
  | [] => rfl
  | a :: l => by simp [takeN, takeN_all l]

theorem nth_setL {α : Type} : ∀ {l : List α} {i : Nat} {a : α}, nth l i = some a → ∀ b : α, nth (setL l i b) i = some b
  | [], i, _, q, _ => by cases i <;> simp [nth] at q
  | _ :: _, 0, _, _, _ => rfl
  | _ :: l, i + 1, _, q, b => nth_setL (l := l) (i := i) q b
theorem eraseAt_setL {α : Type} : ∀ (l : List α) (i : Nat) (b : α), eraseAt (setL l i b) i = eraseAt l i
  | [], i, _ => by cases i <;> rfl
  | _ :: _, 0, _ => rfl
  | a :: l, i + 1, b => congrArg (a :: ·) (eraseAt_setL l i b)

theorem append_buf {ts tx : TypeId} {w y m n i : Nat} {v x : Value} {cs ys : List Value} (ht : appT C ts tx = some (w, y)) (hlen : lenOf x = some m) (hsrc : firstCells h w m x = some ys) (hone : allB oneCell ys = true) (hyl : ys.length = m * w) (hfit : (n + m) * y ≤ 2 ^ 40) (s : St h0 S h As) (hi : nth As i = some (Buf w n v cs)) :
    ∃ v' h1, append C h [ts, tx] [v, x] = some (v', h1) ∧ h.next ≤ h1.next ∧ St h0 S h1 (Buf w (n + m) v' (cs ++ ys) :: eraseAt As i) := by
  unfold appT at ht
  split at ht
  · rename_i e hu
    split at ht
    · rename_i ti hti
      split at ht
      · rename_i z hz
        cases hc : ((C.u tx).isSome && !isIntD (C.u tx) && Nat.ble 1 ti.info.size && Nat.ble 1 ti.info.bytes && Nat.beq z.cells.toList.length ti.info.size && Nat.ble ti.info.bytes (2 ^ 20)) with
        | false => rw [hc, cond_false] at ht; cases ht
        | true =>
          rw [hc, cond_true] at ht
          simp only [Option.some.injEq, Prod.mk.injEq] at ht
          obtain ⟨hw, hy⟩ := ht
          simp only [Bool.and_eq_true, Bool.not_eq_true'] at hc
          obtain ⟨⟨⟨⟨⟨c1, c2⟩, c3⟩, c4⟩, c5⟩, c6⟩ := hc
          rw [hw] at c3 c5
          rw [hy] at c4 c6
          have hw1 : 1 ≤ w := Nat.le_of_ble_eq_true c3
          obtain ⟨K, hl, hK⟩ := s.see i hi
          have hsl : ∃ a c, v = .slice a n c ∧ spotless a = true := by
            rcases hK with ⟨rfl, _, a, ha, rfl⟩ | ⟨b, rfl, _⟩
            · exact ⟨_, _, rfl, ha⟩
            · exact ⟨_, _, rfl, rfl⟩
          obtain ⟨a, c, rfl, hsp⟩ := hsl
          have hfit' := Nat.ble_eq_true_of_le hfit
          by_cases hm : m = 0
          · subst hm
            have hys : ys = [] := List.eq_nil_of_length_eq_zero (by omega)
            subst hys
            have hcap : ∃ lb, h.capOf a c w = some lb ∧ n ≤ lb := by
              rcases hK with ⟨rfl, _, a', _, e'⟩ | ⟨b, e', _⟩
              · exact ⟨_, by simp only [Value.slice.injEq] at e'; rw [e'.2.2]; rfl, Nat.zero_le _⟩
              · simp only [Value.slice.injEq] at e'
                obtain ⟨rfl, _, rfl⟩ := e'
                have hb : h.get b = some (.cells cs w) := by
                  have s2 := s.imp i hi (B := blk b (.cells cs w)) (fun K q => by
                    rcases q.2 with ⟨_, _, a', _, e'⟩ | ⟨b', e', e2⟩
                    · simp only [Value.slice.injEq] at e'; exact absurd e'.2.2 (by decide)
                    · simp only [Value.slice.injEq, Option.some.injEq, Addr.mk.injEq] at e'; rw [e'.1.1]; exact e2)
                  exact s2.get i (nth_setL hi _)
                refine ⟨n, ?_, Nat.le_refl _⟩
                unfold H.capOf H.room
                rw [Nat.ble_eq_true_of_le (Nat.le_refl _), cond_true]
                simp only [hb, Nat.beq_refl, cond_true, Nat.sub_zero, Nat.sub_self, hl, Nat.mul_div_cancel _ hw1]
            obtain ⟨lb, hcap, hle⟩ := hcap
            have hle' : Nat.ble (n + 0) lb = true := Nat.ble_eq_true_of_le (by omega)
            refine ⟨.slice a n c, h, ?_, Nat.le_refl _, ?_⟩
            · unfold append
              simp only [hu, hti, hz, hw, hy, c1, c2, c3, c4, c5, c6, hsp, cond_false, hlen, hsrc, hfit', Bool.and_self, cond_true, hcap, hle']
            · rw [List.append_nil]
              exact s.pull i hi
          · have hm0 : Nat.beq m 0 = false := nbeq_f hm
            rcases hK with ⟨rfl, hK, a', _, e'⟩ | ⟨b, e', _⟩
            · simp only [Value.slice.injEq] at e'
              obtain ⟨rfl, _, rfl⟩ := e'
              have hcs : cs = [] := List.eq_nil_of_length_eq_zero (by omega)
              subst hcs
              have hcap : h.capOf a 0 w = some 0 := rfl
              have hold : firstCells h w 0 (.slice a 0 0) = some [] := by cases a <;> rfl
              have hlt : Nat.ble (0 + m) 0 = false := nble_f (by omega)
              have hl0 : Nat.ble LOOSE 0 = false := rfl
              refine ⟨.slice (some ⟨h.next, 0, none⟩) (0 + m) LOOSE, h.new (.cells ([] ++ ys) w), ?_, ?_, ?_⟩
              · unfold append
                simp only [hu, hti, hz, hw, hy, c1, c2, c3, c4, c5, c6, hsp, cond_false, hlen, hsrc, hfit', Bool.and_self, cond_true, hcap, hlt, hm0, hone, Bool.not_true, Bool.or_self, hold, hl0]
              · rw [H.next_new]; omega
              · have s2 := (s.drop i hi).new (.cells ([] ++ ys) w)
                exact s2.imp 0 rfl fun K q => ⟨by simp [hyl], .inr ⟨_, rfl, q⟩⟩
            · simp only [Value.slice.injEq] at e'
              obtain ⟨rfl, _, rfl⟩ := e'
              have s2 := s.imp i hi (B := blk b (.cells cs w)) (fun K q => by
                rcases q.2 with ⟨_, _, a', _, e'⟩ | ⟨b', e', e2⟩
                · simp only [Value.slice.injEq] at e'; exact absurd e'.2.2 (by decide)
                · simp only [Value.slice.injEq, Option.some.injEq, Addr.mk.injEq] at e'; rw [e'.1.1]; exact e2)
              have hb : h.get b = some (.cells cs w) := s2.get i (nth_setL hi _)
              have hcap : h.capOf (some ⟨b, 0, none⟩) LOOSE w = some n := by
                unfold H.capOf H.room
                rw [Nat.ble_eq_true_of_le (Nat.le_refl _), cond_true]
                simp only [hb, Nat.beq_refl, cond_true, Nat.sub_zero, Nat.sub_self, hl, Nat.mul_div_cancel _ hw1]
              have hold : firstCells h w n (.slice (some ⟨b, 0, none⟩) n LOOSE) = some cs := by
                simp only [firstCells]
                by_cases hn : n = 0
                · subst hn
                  have hcs : cs = [] := List.eq_nil_of_length_eq_zero (by omega)
                  rw [hcs]; rfl
                · rw [nbeq_f hn, cond_false, Nat.ble_eq_true_of_le (Nat.le_refl _), cond_true]
                  exact readOf hb (by rw [← hl]; exact takeN_all cs)
              have hlt : Nat.ble (n + m) n = false := nble_f (by omega)
              have hl0 : Nat.ble LOOSE LOOSE = true := Nat.ble_eq_true_of_le (Nat.le_refl _)
              have s3 := (s2.set i (nth_setL hi _) .dead).drop i (nth_setL (nth_setL hi _) _)
              have s4 := s3.new (.cells (cs ++ ys) w)
              refine ⟨.slice (some ⟨h.next, 0, none⟩) (n + m) LOOSE, (h.set b .dead).new (.cells (cs ++ ys) w), ?_, ?_, ?_⟩
              · unfold append
                simp only [hu, hti, hz, hw, hy, c1, c2, c3, c4, c5, c6, hsp, cond_false, hlen, hsrc, hfit', Bool.and_self, cond_true, hcap, hlt, hm0, hone, Bool.not_true, Bool.or_self, hold, hl0]
                rfl
              · rw [H.next_new]; exact Nat.le_succ _
              · rw [eraseAt_setL, eraseAt_setL] at s4
                exact s4.imp 0 rfl fun K q => ⟨by rw [List.length_append, hl, hyl, Nat.add_mul], .inr ⟨_, rfl, q⟩⟩
      · cases ht
    · cases ht
  · cases ht

theorem Buf.lenOf {w n : Nat} {v : Value} {cs : List Value} {i : Nat} (s : St h0 S h As) (hi : nth As i = some (Buf w n v cs)) : ∃ a c, v = .slice a n c := by
  obtain ⟨K, _, hK⟩ := s.see i hi
  rcases hK with ⟨rfl, _, a, _, rfl⟩ | ⟨b, rfl, _⟩
  · exact ⟨_, _, rfl⟩
  · exact ⟨_, _, rfl⟩

/-- What an owned row has. -/
theorem Buf.cells {w n : Nat} {v : Value} {cs : List Value} {i : Nat} (s : St h0 S h As) (hi : nth As i = some (Buf w n v cs)) : firstCells h w n v = some cs ∧ Go.Mir.lenOf v = some n ∧ cs.length = n * w := by
  obtain ⟨K, hl, hK⟩ := s.see i hi
  rcases hK with ⟨rfl, _, a, _, rfl⟩ | ⟨b, rfl, _⟩
  · have hcs : cs = [] := List.eq_nil_of_length_eq_zero (by omega)
    subst hcs
    exact ⟨by cases a <;> rfl, rfl, by simp⟩
  · have s2 := s.imp i hi (B := blk b (.cells cs w)) (fun K q => by
      rcases q.2 with ⟨_, _, a', _, e'⟩ | ⟨b', e', e2⟩
      · simp only [Value.slice.injEq] at e'; exact absurd e'.2.2 (by decide)
      · simp only [Value.slice.injEq, Option.some.injEq, Addr.mk.injEq] at e'; rw [e'.1.1]; exact e2)
    have hb : h.get b = some (.cells cs w) := s2.get i (nth_setL hi _)
    refine ⟨?_, rfl, hl⟩
    simp only [firstCells]
    by_cases hn : n = 0
    · subst hn
      have hcs : cs = [] := List.eq_nil_of_length_eq_zero (by omega)
      rw [hcs]; rfl
    · rw [nbeq_f hn, cond_false, Nat.ble_eq_true_of_le (Nat.le_refl _), cond_true]
      exact readOf hb (by rw [← hl]; exact takeN_all cs)

theorem St.nilBuf {w : Nat} {a : Option Addr} (s : St h0 S h As) (ha : spotless a = true := by rfl) : St h0 S h (Buf w 0 (.slice a 0 0) [] :: As) := by
  obtain ⟨K, hf, hm⟩ := s.mine
  exact ⟨s.lt, s.nx, s.same, [] ++ K, .cons ⟨by simp, .inl ⟨rfl, rfl, a, ha, rfl⟩⟩ hf, hm⟩

/-- Cells, one element after the other. -/
def Rows {α : Type} (w : Nat) (R : α → List Value → Prop) (cs : List Value) (xs : List α) : Prop :=
  cs.length = xs.length * w ∧ ∀ i x, xs[i]? = some x → ∃ c, c.length = w ∧ R x c ∧ takeN w (dropN (i * w) cs) = some c

theorem dropN_append {α : Type} : ∀ (n : Nat) (l m : List α), n ≤ l.length → dropN n (l ++ m) = dropN n l ++ m
  | 0, l, m, _ => by cases l <;> rfl
  | n + 1, [], m, h => by simp at h
  | n + 1, a :: l, m, h => by
    show dropN n (l ++ m) = dropN n l ++ m
    exact dropN_append n l m (by simpa using h)
theorem takeN_append {α : Type} : ∀ (n : Nat) (l m r : List α), takeN n l = some r → takeN n (l ++ m) = some r
  | 0, l, m, r, h => by
    have h' : r = [] := by cases l <;> simpa [takeN] using h.symm
    rw [h']; cases l <;> cases m <;> rfl
  | n + 1, [], m, r, h => by simp [takeN] at h
  | n + 1, a :: l, m, r, h => by
    simp only [takeN, List.cons_append] at h ⊢
    split at h
    · rename_i t ht
      rw [takeN_append n l m t ht]; exact h
    · cases h
theorem dropN_len {α : Type} : ∀ (l m : List α), dropN l.length (l ++ m) = m
  | [], m => by cases m <;> rfl
  | a :: l, m => dropN_len l m

theorem Rows.nil {α : Type} {w : Nat} {R : α → List Value → Prop} : Rows w R [] [] := ⟨by simp, fun i x hx => by simp at hx⟩
theorem Rows.snoc {α : Type} {w : Nat} {R : α → List Value → Prop} {cs c : List Value} {xs : List α} {x : α} (q : Rows w R cs xs) (hc : c.length = w) (hr : R x c) : Rows w R (cs ++ c) (xs ++ [x]) := by
  refine ⟨by rw [List.length_append, q.1, hc, List.length_append, List.length_singleton, Nat.add_mul, Nat.one_mul], fun i y hy => ?_⟩
  by_cases hi : i < xs.length
  · rw [List.getElem?_append_left hi] at hy
    obtain ⟨d, h1, h2, h3⟩ := q.2 i y hy
    refine ⟨d, h1, h2, ?_⟩
    have : i * w + w ≤ xs.length * w := by rw [← Nat.succ_mul]; exact Nat.mul_le_mul_right _ hi
    rw [dropN_append _ _ _ (by rw [q.1]; omega)]
    exact takeN_append _ _ _ _ h3
  · rw [List.getElem?_append_right (by omega)] at hy
    have h0 : i - xs.length = 0 := by
      rcases Nat.eq_zero_or_pos (i - xs.length) with h | h
      · exact h
      · rw [List.getElem?_eq_none (by simp; omega)] at hy; cases hy
    rw [h0] at hy
    simp only [List.getElem?_cons_zero, Option.some.injEq] at hy
    subst hy
    have : i = xs.length := by omega
    subst this
    refine ⟨c, hc, hr, ?_⟩
    rw [← q.1, dropN_len, ← hc]
    exact takeN_all c
theorem Rows.mono {α : Type} {w : Nat} {R R' : α → List Value → Prop} {cs : List Value} {xs : List α} (q : Rows w R cs xs) (h : ∀ x c, R x c → R' x c) : Rows w R' cs xs :=
  ⟨q.1, fun i x hx => by obtain ⟨c, h1, h2, h3⟩ := q.2 i x hx; exact ⟨c, h1, h _ _ h2, h3⟩⟩

def bytesV (bs : List UInt8) : List Value := bs.map fun b => .int .u8 b.toNat
theorem bytesV_len (bs : List UInt8) : (bytesV bs).length = bs.length * 1 := by simp [bytesV]
theorem bytesV_one : ∀ bs : List UInt8, allB oneCell (bytesV bs) = true
  | [] => rfl
  | _ :: bs => bytesV_one bs
theorem bytesV_append (a b : List UInt8) : bytesV (a ++ b) = bytesV a ++ bytesV b := by simp [bytesV]
theorem rows_bytes (bs : List UInt8) : Rows 1 RByte (bytesV bs) bs := by
  refine ⟨bytesV_len bs, fun i x hx => ⟨[.int .u8 x.toNat], rfl, rfl, ?_⟩⟩
  rw [Nat.mul_one, dropN_eq, bytesV, ← List.map_drop]
  obtain ⟨hi, rfl⟩ := List.getElem?_eq_some_iff.1 hx
  rw [List.drop_eq_getElem_cons hi]
  rfl

/-- A row that is done stays. -/
theorem buf_freeze {α : Type} {w n i : Nat} {v : Value} {cs : List Value} {R : α → List Value → Prop} {xs : List α} (s : St h0 S h As) (hi : nth As i = some (Buf w n v cs)) (r : Rows w R cs xs) (hn : n = xs.length) (h62 : n < 2 ^ 62) :
    ∃ S', Gr S h S' h ∧ Sl h S' w R v xs ∧ St h S' h (eraseAt As i) := by
  obtain ⟨K, hK, hg, st⟩ := s.freeze i hi
  refine ⟨_, ⟨Nat.le_refl _, fun a ha => ⟨.inl ha, rfl⟩⟩, ?_, st⟩
  rcases hK.2 with ⟨rfl, _, a, _, rfl⟩ | ⟨b, rfl, rfl⟩
  · refine ⟨a, 0, 0, rfl, hn, Nat.zero_le _, by decide, ?_⟩
    cases a with
    | none => exact ⟨rfl, rfl⟩
    | some a => exact .inl rfl
  · refine ⟨_, n, LOOSE, rfl, hn, Nat.le_refl _, h62, .inr ⟨b, 0, rfl, .inr ⟨_, List.mem_singleton.2 rfl, rfl⟩, fun j x hx => ?_⟩⟩
    obtain ⟨c, h1, h2, h3⟩ := r.2 j x hx
    refine ⟨c, h1, h2, ?_⟩
    have hb : h.get b = some (.cells cs w) := hg _ (List.mem_singleton.2 rfl)
    exact readOf hb (by rw [Nat.zero_add]; exact h3)

/-- Bytes that stay, as they are read. -/
theorem sl_cells {v : Value} {bs : List UInt8} (q : Sl h S 1 RByte v bs) : firstCells h 1 bs.length v = some (bytesV bs) ∧ Go.Mir.lenOf v = some bs.length := by
  obtain ⟨a, n, c, rfl, hn, h1, h2, h3⟩ := q
  subst hn
  refine ⟨?_, rfl⟩
  cases a with
  | none => simp only at h3; have : bs = [] := List.eq_nil_of_length_eq_zero h3.1; subst this; rfl
  | some a =>
    simp only [firstCells]
    rcases h3 with h3 | ⟨b, o, rfl, _, hr⟩
    · have : bs = [] := List.eq_nil_of_length_eq_zero h3
      subst this; rfl
    · by_cases h0 : bs.length = 0
      · have : bs = [] := List.eq_nil_of_length_eq_zero h0
        subst this; rfl
      · rw [nbeq_f h0, cond_false, Nat.ble_eq_true_of_le h1, cond_true]
        unfold H.read at hr ⊢
        cases hc : h.cells? b with
        | none => obtain ⟨cs, _, _, q⟩ := hr 0 _ (List.getElem?_eq_getElem (by omega)); simp [hc] at q
        | some c =>
          simp only [hc] at hr ⊢
          have : ∀ (l : List UInt8) (o : Nat), (∀ i x, l[i]? = some x → ∃ cs, cs.length = 1 ∧ RByte x cs ∧ takeN 1 (dropN (o + i * 1) c) = some cs) → takeN l.length (dropN o c) = some (bytesV l) := by
            intro l
            induction l with
            | nil => intro o _; cases dropN o c <;> rfl
            | cons x l ih =>
              intro o hl
              obtain ⟨cs, _, e, q⟩ := hl 0 x rfl
              have e : cs = [.int .u8 x.toNat] := e
              subst e
              have ih := ih (o + 1) fun i y hy => by
                obtain ⟨cs, g1, g2, g3⟩ := hl (i + 1) y hy
                exact ⟨cs, g1, g2, by rw [← g3]; congr 2; omega⟩
              rw [dropN_eq] at q ih ⊢
              simp only [Nat.zero_mul, Nat.add_zero] at q
              rw [← List.drop_drop] at ih
              cases hd : c.drop o with
              | nil => rw [hd] at q; simp [takeN] at q
              | cons z zs =>
                rw [hd] at q ih
                have e2 : z = .int .u8 x.toNat := by cases zs <;> simpa [takeN] using q
                subst e2
                have ih : takeN l.length zs = some (bytesV l) := ih
                simp only [List.length_cons, takeN, ih]; rfl
          rw [Nat.mul_one]
          exact this bs o hr
end

section
variable {C : Ctx} {md : Option (List KD)} {all rest : List Oper} {K : List Fr} {N : Nat} {L : List (Nat × Value)} {h : H} {Q : Out → Env → H → Prop} {d : Nat} {ty : TypeId} {pos : String} {aft : Array Edge} {g : Option (Nat × Bool)} {h0 : H} {S : Nat → Prop} {As : List Asn}

/-- An append to an owned row. -/
theorem st_append {ts tx : TypeId} {w y m n : Nat} {xv xs : Operand} {v x : Value} {cs ys : List Value} (i : Nat) (hsrc : firstCells h w m x = some ys ∧ lenOf x = some m) (hone : allB oneCell ys = true) (hyl : ys.length = m * w) (hfit : (n + m) * y ≤ 2 ^ 40) (s : St h0 S h As)
    (k : ∀ v' h1, St h0 S h1 (Buf w (n + m) v' (cs ++ ys) :: eraseAt As i) → OW C (put md (.wrote h)) all rest K N ((d, v') :: L) h1 Q)
    (ht : appT C ts tx = some (w, y) := by rfl) (hi : nth As i = some (Buf w n v cs) := by rfl) (hv : lookO L xv = some v := by rfl) (hx : lookO L xs = some x := by rfl) (hg : On all L g = true := by rfl) (hd : Nat.blt d N = true := by rfl) :
    OW C md all (⟨some d, .call { callee := .builtin .append, args := ⟨[xv, xs]⟩, argTypes := ⟨[ts, tx]⟩ }, ty, pos, aft, g⟩ :: rest) K N L h Q := by
  obtain ⟨v', h1, e1, e2, e3⟩ := append_buf ht hsrc.2 hsrc.1 hone hyl hfit s hi
  refine ow_loud (v := v') (h1 := h1) hg hd rfl (fun e he => ?_) e2 (k v' h1 e3)
  show append C h [ts, tx] [e.eval xv, e.eval xs] = _
  rw [he.eval hv, he.eval hx]; exact e1

/-- An append of what was just laid. -/
theorem st_append1 {ts tx : TypeId} {w y n b : Nat} {xv xs : Operand} {v : Value} {cs ys : List Value} (i j : Nat) (hfit : (n + 1) * y ≤ 2 ^ 40) (s : St h0 S h As)
    (k : ∀ v' h1, St h0 S h1 (Buf w (n + 1) v' (cs ++ ys) :: eraseAt As i) → OW C (put md (.wrote h)) all rest K N ((d, v') :: L) h1 Q)
    (ht : appT C ts tx = some (w, y) := by rfl) (hi : nth As i = some (Buf w n v cs) := by rfl) (hj : nth As j = some (blk b (.cells ys 0)) := by rfl) (hyl : ys.length = w := by rfl) (hone : allB oneCell ys = true := by rfl) (hv : lookO L xv = some v := by rfl) (hx : lookO L xs = some (.slice (some ⟨b, 0, none⟩) 1 1) := by rfl) (hg : On all L g = true := by rfl) (hd : Nat.blt d N = true := by rfl) :
    OW C md all (⟨some d, .call { callee := .builtin .append, args := ⟨[xv, xs]⟩, argTypes := ⟨[ts, tx]⟩ }, ty, pos, aft, g⟩ :: rest) K N L h Q :=
  st_append (m := 1) i ⟨by
    simp only [firstCells]
    rw [show Nat.beq 1 0 = false from rfl, cond_false, Nat.ble_eq_true_of_le (by decide : 1 ≤ LOOSE), cond_true]
    exact readOf (s.get j hj) (by rw [Nat.one_mul, ← hyl]; exact takeN_all ys), rfl⟩ hone (by rw [hyl, Nat.one_mul]) hfit s k ht hi hv hx hg hd
end
end Go.Mir

/- What reading comes to. -/
namespace Go.Mir

/-- What reading comes to: the thing whose form stands there; or bad, and there is none. -/
def ROut {α : Type} (ok : α → Prop) (w : α → List UInt8) (b : List UInt8) (i : Nat) (bad : Bool) (i' : Nat) (bad' : Bool) (x : α) : Prop :=
  i' ≤ b.length ∧ (bad = true → bad' = true) ∧ (bad = false → (bad' = false ∧ ok x ∧ b.drop i = w x ++ b.drop i') ∨ (bad' = true ∧ ∀ y, ok y → ∀ rest, b.drop i ≠ w y ++ rest))

variable {α β : Type} {ok : α → Prop} {ok2 : β → Prop} {w : α → List UInt8} {w2 : β → List UInt8} {b : List UInt8} {i i1 i2 : Nat} {bad bad1 bad2 : Bool} {x : α} {y : β}

theorem ROut.seq (p : ROut ok w b i bad i1 bad1 x) (q : ROut ok2 w2 b i1 bad1 i2 bad2 y) (pc : PC ok w) : ROut (fun z : α × β => ok z.1 ∧ ok2 z.2) (fun z => w z.1 ++ w2 z.2) b i bad i2 bad2 (x, y) := by
  refine ⟨q.1, fun h => q.2.1 (p.2.1 h), fun h => ?_⟩
  rcases p.2.2 h with ⟨h1, h2, h3⟩ | ⟨h1, h2⟩
  · rcases q.2.2 h1 with ⟨g1, g2, g3⟩ | ⟨g1, g2⟩
    · exact .inl ⟨g1, ⟨h2, g2⟩, by rw [h3, g3, List.append_assoc]⟩
    · refine .inr ⟨g1, fun z hz rest e => ?_⟩
      rw [h3, List.append_assoc] at e
      exact g2 z.2 hz.2 rest (pc _ _ _ _ h2 hz.1 e).2
  · exact .inr ⟨q.2.1 h1, fun z hz rest e => h2 z.1 hz.1 _ (by rw [e, List.append_assoc])⟩

theorem ROut.map (p : ROut ok w b i bad i1 bad1 x) (f : α → β) (g : β → α) (h1 : ∀ x, ok x → ok2 (f x) ∧ w2 (f x) = w x) (h2 : ∀ y, ok2 y → ok (g y) ∧ w2 y = w (g y)) : ROut ok2 w2 b i bad i1 bad1 (f x) := by
  refine ⟨p.1, p.2.1, fun h => ?_⟩
  rcases p.2.2 h with ⟨a1, a2, a3⟩ | ⟨a1, a2⟩
  · exact .inl ⟨a1, (h1 x a2).1, by rw [(h1 x a2).2]; exact a3⟩
  · exact .inr ⟨a1, fun z hz rest => by rw [(h2 z hz).2]; exact a2 _ (h2 z hz).1 rest⟩

/-- So many things, one after the other. -/
def RMany (ok : α → Prop) (w : α → List UInt8) (b : List UInt8) (n i0 : Nat) (bad0 : Bool) (i : Nat) (bad : Bool) (xs : List α) (m : Nat) : Prop :=
  i ≤ b.length ∧ (bad0 = true → bad = true) ∧ (bad0 = false → (bad = false ∧ xs.length + m = n ∧ (∀ x ∈ xs, ok x) ∧ b.drop i0 = xs.flatMap w ++ b.drop i) ∨ (bad = true ∧ ∀ l : List α, l.length = n → (∀ x ∈ l, ok x) → ∀ rest, b.drop i0 ≠ l.flatMap w ++ rest))

theorem RMany.start {n : Nat} (h : i ≤ b.length) : RMany ok w b n i bad i bad [] n :=
  ⟨h, fun q => q, fun q => .inl ⟨q, by simp, by simp, by simp⟩⟩

theorem RMany.step {n i0 m : Nat} {bad0 : Bool} {xs : List α} (p : RMany ok w b n i0 bad0 i false xs (m + 1)) (q : ROut ok w b i false i1 bad1 x) (pc : PC ok w) : RMany ok w b n i0 bad0 i1 bad1 (xs ++ [x]) m := by
  refine ⟨q.1, fun h => absurd (p.2.1 h) (by simp), fun h => ?_⟩
  rcases p.2.2 h with ⟨_, h1, h2, h3⟩ | ⟨h1, _⟩
  · rcases q.2.2 rfl with ⟨g1, g2, g3⟩ | ⟨g1, g2⟩
    · refine .inl ⟨g1, by simp; omega, fun z hz => ?_, ?_⟩
      · rcases List.mem_append.1 hz with hz | hz
        · exact h2 z hz
        · rw [List.mem_singleton.1 hz]; exact g2
      · rw [h3, g3]; simp
    · refine .inr ⟨g1, fun l hl ho rest e => ?_⟩
      have hlt : xs.length < l.length := by omega
      have e2 : l = l.take xs.length ++ l[xs.length] :: l.drop (xs.length + 1) := by
        rw [← List.drop_eq_getElem_cons hlt, List.take_append_drop]
      rw [h3] at e
      rw [e2, List.flatMap_append, List.append_assoc] at e
      have := (flatMap_pc pc xs (l.take xs.length) _ _ (by rw [List.length_take]; omega) h2 (fun z hz => ho z (List.mem_of_mem_take hz)) e).2
      rw [List.flatMap_cons, List.append_assoc] at this
      exact g2 _ (ho _ (List.getElem_mem _)) _ this
  · cases h1

theorem RMany.left {n i0 m : Nat} {bad0 : Bool} {xs : List α} (p : RMany ok w b n i0 bad0 i false xs m) : xs.length + m = n := by
  rcases h : bad0 with _ | _
  · rcases p.2.2 h with h1 | h1
    · exact h1.2.1
    · cases h1.1
  · exact absurd (p.2.1 h) (by simp)

/-- A number of things, and these. -/
theorem RMany.done {n j m : Nat} {bad0 : Bool} {xs : List α} (u : ROut (fun k => k ≤ b.length ∧ k < 2 ^ 64) form b j bad0 i bad n) (p : RMany ok w b n i bad i1 bad1 xs m) (hm : m = 0 ∨ bad1 = true) (hw : ∀ x, ok x → w x ≠ []) (hb : b.length < 2 ^ 64) : ROut (fun l : List α => ∀ x ∈ l, ok x) (wL w) b j bad0 i1 bad1 xs := by
  have long : ∀ l : List α, (∀ x ∈ l, ok x) → l.length ≤ (l.flatMap w).length := by
    intro l
    induction l with
    | nil => simp
    | cons a l ih =>
      intro h
      have h1 := ih (fun z hz => h z (List.mem_cons_of_mem _ hz))
      have h2 := List.length_pos_iff.2 (hw a (h a (by simp)))
      simp only [List.flatMap_cons, List.length_append, List.length_cons]
      omega
  refine ⟨p.1, fun h => p.2.1 (u.2.1 h), fun h => ?_⟩
  rcases u.2.2 h with ⟨h1, h2, h3⟩ | ⟨h1, h2⟩
  · rcases p.2.2 h1 with ⟨g1, g2, g3, g4⟩ | ⟨g1, g2⟩
    · refine .inl ⟨g1, g3, ?_⟩
      have hm0 : m = 0 := by rcases hm with hm | hm; exact hm; rw [g1] at hm; cases hm
      unfold wL
      rw [h3, g4, List.append_assoc]
      congr 2; omega
    · refine .inr ⟨g1, fun l hl rest e => ?_⟩
      unfold wL at e
      rw [h3, List.append_assoc] at e
      obtain ⟨e1, e2⟩ := form_pc _ _ _ _ trivial trivial e
      exact g2 l e1.symm hl rest e2
  · refine .inr ⟨p.2.1 h1, fun l hl rest e => ?_⟩
    unfold wL at e
    rw [List.append_assoc] at e
    have h5 := congrArg List.length e
    rw [List.length_drop, List.length_append, List.length_append] at h5
    have := long l hl
    exact h2 l.length ⟨by omega, by omega⟩ _ e

/-! Bytes as strings -/
def Byt (h : H) (v : Value) (bs : List UInt8) : Prop := (firstCells h 1 bs.length v = some (bytesV bs) ∧ lenOf v = some bs.length) ∧ ∃ a n c, v = .slice a n c

theorem Byt.sl {h : H} {S : Nat → Prop} {v : Value} {bs : List UInt8} (q : Sl h S 1 RByte v bs) : Byt h v bs := ⟨sl_cells q, by obtain ⟨a, n, c, e, _⟩ := q; exact ⟨a, n, c, e⟩⟩
theorem Byt.buf {h0 h : H} {S : Nat → Prop} {As : List Asn} {v : Value} {bs : List UInt8} {n i : Nat} (s : St h0 S h As) (hi : nth As i = some (Buf 1 n v (bytesV bs))) : Byt h v bs ∧ n = bs.length := by
  obtain ⟨h1, h2, h3⟩ := Buf.cells s hi
  have hn : n = bs.length := by rw [bytesV_len] at h3; omega
  subst hn
  refine ⟨⟨⟨h1, h2⟩, ?_⟩, rfl⟩
  obtain ⟨a, c, e⟩ := Buf.lenOf s hi
  exact ⟨a, _, c, e⟩

theorem bytesOf_bytesV : ∀ bs : List UInt8, bytesOf (bytesV bs) = some bs
  | [] => rfl
  | b :: bs => by
    have := bytesOf_bytesV bs
    show (match bytesOf (bytesV bs) with | some l => some (UInt8.ofNat (b.toNat : Int).toNat :: l) | none => none) = _
    rw [this]
    simp

theorem byt_str {h : H} {a : Option Addr} {n c : Nat} {bs : List UInt8} (q : Byt h (.slice a n c) bs) : strOf h a n c = some (.string ⟨⟨bs⟩⟩) := by
  obtain ⟨⟨h1, h2⟩, _⟩ := q
  have hn : n = bs.length := by simpa [lenOf] using h2
  subst hn
  unfold strOf
  cases a with
  | none =>
    simp only [firstCells] at h1
    cases hb : bs with
    | nil => rfl
    | cons x l =>
      rw [hb] at h1
      rw [show (x :: l).length = l.length + 1 from rfl, nbeq_f (Nat.succ_ne_zero _), cond_false] at h1
      cases h1
  | some a => simp only [h1, bytesOf_bytesV]

section
variable {C : Ctx} {md : Option (List KD)} {all rest : List Oper} {K : List Fr} {N : Nat} {L : List (Nat × Value)} {h : H} {Q : Out → Env → H → Prop} {d : Nat} {ty : TypeId} {pos : String} {aft : Array Edge} {g : Option (Nat × Bool)}

noncomputable def isByteSl (C : Ctx) (t : TypeId) : Bool := match C.u t with
  | some (.slice e) => match C.u e with
    | some (.int .u8) => true
    | _ => false
  | _ => false
noncomputable def isStr (C : Ctx) (t : TypeId) : Bool := match C.u t with
  | some .string => true
  | _ => false

/-- Bytes as a string. -/
theorem ow_strB {s t : TypeId} {x : Operand} {v : Value} {bs : List UInt8} (q : Byt h v bs) (k : OW C (put md (.read h L (.string ⟨⟨bs⟩⟩))) all rest K N ((d, .string ⟨⟨bs⟩⟩) :: L) h Q)
    (hs : isByteSl C s = true := by rfl) (ht : isStr C t = true := by rfl) (hx : lookO L x = some v := by rfl) (hg : On all L g = true := by rfl) (hd : Nat.blt d N = true := by rfl) : OW C md all (⟨some d, .convert s t x, ty, pos, aft, g⟩ :: rest) K N L h Q := by
  obtain ⟨a, n, c, rfl⟩ := q.2
  unfold isByteSl at hs
  unfold isStr at ht
  split at hs
  · rename_i e hu
    split at hs
    · rename_i he
      split at ht
      · rename_i hut
        have hk : kindOf C (.convert s t x) = .calm := by
          unfold kindOf; simp only [hu, hut]
        have hr : readsMem C (.convert s t x) = true := by
          unfold readsMem; simp only [hu]
        refine ow_read hg hd hk hr (fun e' he' => ?_) k
        simp only [calmF, cConvert, he'.eval hx, hu, hut, he, byt_str q, pv]
      · cases ht
    · cases hs
  · cases hs
end
end Go.Mir

/- Regions whose order is open: reads that are bound ahead of the first write. -/
namespace Go.Mir
/-- The first write: its place, the memory ahead of it, and what is ahead of it. -/
def firstW : Nat → List Oper → List KD → List Nat → Option (Nat × H × Nat)
  | i, _ :: _, .wrote a :: _, b :: _ => some (i, a, b)
  | i, _ :: os, _ :: ks, _ :: bs => firstW (i + 1) os ks bs
  | _, _, _, _ => none

def BndOk (hh : H) (j bj : Nat) : Nat → List KD → List Nat → Prop
  | i, .read hx _ v :: ks, b :: bs => hh = hx ∧ plain v = true ∧ b.testBit j = false ∧ bj.testBit i = true ∧ BndOk hh j bj (i + 1) ks bs
  | i, _ :: ks, _ :: bs => BndOk hh j bj (i + 1) ks bs
  | _, _, _ => True

section
variable {C : Ctx} {N : Nat}
theorem allAt_bound {x : KRow} {hx : H} {L : List (Nat × Value)} {v : Value} {h : H} {j bj : Nat} (e1 : x.bef.testBit j = false) (e2 : bj.testBit x.i = true) : ∀ (ops : List Oper) (acc : List KD) (i : Nat) (bs : List Nat), firstW i ops acc bs = some (j, hx, bj) → AllAt C N x hx L v h (krows i ops acc bs)
  | [], acc, i, bs, q => by cases acc <;> simp [firstW] at q
  | _ :: _, [], i, bs, q => by simp [firstW] at q
  | _ :: _, k :: _, i, [], q => by cases k <;> simp [firstW] at q
  | o :: os, .idle :: ks, i, b :: bs, q => allAt_bound e1 e2 os ks (i + 1) bs q
  | o :: os, .read _ _ _ :: ks, i, b :: bs, q => allAt_bound e1 e2 os ks (i + 1) bs q
  | o :: os, .wrote a :: ks, i, b :: bs, q => by
    simp only [firstW, Option.some.injEq, Prod.mk.injEq] at q
    obtain ⟨rfl, rfl, rfl⟩ := q
    show (bif x.bef.testBit i then _ else _)
    rw [e1]
    refine ⟨.inl rfl, ?_⟩
    show (bif Nat.testBit b x.i then True else _)
    rw [e2]; trivial

theorem reads_bound {ops : List Oper} {acc : List KD} {h hh : H} {j bj : Nat} (hw : firstW 0 ops acc (befs [] ops) = some (j, hh, bj)) (q : BndOk hh j bj 0 acc (befs [] ops)) : ReadsK C N ops acc h := by
  have : ∀ (os : List Oper) (ks : List KD) (i : Nat) (bs : List Nat), BndOk hh j bj i ks bs → RowsOk C N (krows 0 ops acc (befs [] ops)) h (krows i os ks bs) := by
    intro os
    induction os with
    | nil => intro ks i bs _; simp [krows, RowsOk]
    | cons o os ih =>
      intro ks i bs hk
      cases ks with
      | nil => simp [krows, RowsOk]
      | cons k ks =>
        cases bs with
        | nil => simp [krows, RowsOk]
        | cons b bs =>
          cases k with
          | idle => exact ⟨trivial, ih ks (i + 1) bs hk⟩
          | wrote _ => exact ⟨trivial, ih ks (i + 1) bs hk⟩
          | read hx L v =>
            obtain ⟨rfl, h2, h3, h4, h5⟩ := hk
            exact ⟨⟨h2, allAt_bound (x := ⟨i, o, .read hh L v, b⟩) h3 h4 ops acc 0 _ hw⟩, ih ks (i + 1) bs h5⟩
  exact this ops acc 0 _ q
end

/-- All writes, with the memory ahead of each, and what is ahead of it. -/
def writes : Nat → List Oper → List KD → List Nat → List (Nat × H × Nat)
  | i, _ :: os, .wrote a :: ks, b :: bs => (i, a, b) :: writes (i + 1) os ks bs
  | i, _ :: os, _ :: ks, _ :: bs => writes (i + 1) os ks bs
  | _, _, _, _ => []

def AllW (C : Ctx) (N : Nat) (o : Oper) (hx : H) (L : List (Nat × Value)) (v : Value) (h : H) (i bef : Nat) : List (Nat × H × Nat) → Prop
  | [] => Agn C N o hx L v h
  | (j, a, bj) :: ws => bif bef.testBit j then AllW C N o hx L v h i bef ws else (Agn C N o hx L v a ∧ (bif bj.testBit i then True else AllW C N o hx L v h i bef ws))

def RdsW (C : Ctx) (N : Nat) (h : H) (ws : List (Nat × H × Nat)) : Nat → List Oper → List KD → List Nat → Prop
  | i, o :: os, .read hx L v :: ks, b :: bs => plain v = true ∧ AllW C N o hx L v h i b ws ∧ RdsW C N h ws (i + 1) os ks bs
  | i, _ :: os, _ :: ks, _ :: bs => RdsW C N h ws (i + 1) os ks bs
  | _, _, _, _ => True

section
variable {C : Ctx} {N : Nat} {o : Oper} {hx h a : H} {L : List (Nat × Value)} {v : Value} {i bef j bj : Nat} {ws : List (Nat × H × Nat)}
theorem AllW.bnd (e1 : bef.testBit j = false) (A : Agn C N o hx L v a) (e2 : bj.testBit i = true) : AllW C N o hx L v h i bef ((j, a, bj) :: ws) := by
  unfold AllW; rw [e1, e2]; exact ⟨A, trivial⟩
theorem AllW.go (e1 : bef.testBit j = false) (A : Agn C N o hx L v a) (e2 : AllW C N o hx L v h i bef ws) : AllW C N o hx L v h i bef ((j, a, bj) :: ws) := by
  unfold AllW; rw [e1]; refine ⟨A, ?_⟩
  cases bj.testBit i with
  | true => trivial
  | false => exact e2
theorem AllW.skip (e1 : bef.testBit j = true) (e2 : AllW C N o hx L v h i bef ws) : AllW C N o hx L v h i bef ((j, a, bj) :: ws) := by
  unfold AllW; rw [e1]; exact e2

theorem allAt_writes {x : KRow} : ∀ (ops : List Oper) (acc : List KD) (i : Nat) (bs : List Nat), AllW C N x.o hx L v h x.i x.bef (writes i ops acc bs) → AllAt C N x hx L v h (krows i ops acc bs)
  | [], _, _, _, q => by simpa [writes, AllW, krows, AllAt] using q
  | _ :: _, [], _, _, q => by simpa [writes, AllW, krows, AllAt] using q
  | _ :: _, k :: _, _, [], q => by cases k <;> simpa [writes, AllW, krows, AllAt] using q
  | o :: os, .idle :: ks, i, b :: bs, q => allAt_writes os ks (i + 1) bs q
  | o :: os, .read _ _ _ :: ks, i, b :: bs, q => allAt_writes os ks (i + 1) bs q
  | o :: os, .wrote a :: ks, i, b :: bs, q => by
    show (bif x.bef.testBit i then _ else _)
    have q : bif x.bef.testBit i then AllW C N x.o hx L v h x.i x.bef (writes (i + 1) os ks bs) else (Agn C N x.o hx L v a ∧ (bif b.testBit x.i then True else AllW C N x.o hx L v h x.i x.bef (writes (i + 1) os ks bs))) := q
    cases hb : x.bef.testBit i with
    | true => rw [hb] at q; exact allAt_writes os ks (i + 1) bs q
    | false =>
      rw [hb] at q
      refine ⟨q.1, ?_⟩
      show (bif Nat.testBit b x.i then True else _)
      have q2 := q.2
      cases hc : Nat.testBit b x.i with
      | true => trivial
      | false => rw [hc] at q2; exact allAt_writes os ks (i + 1) bs q2

theorem reads_gen {ops : List Oper} {acc : List KD} (hw : writes 0 ops acc (befs [] ops) = ws) (q : RdsW C N h ws 0 ops acc (befs [] ops)) : ReadsK C N ops acc h := by
  have : ∀ (os : List Oper) (ks : List KD) (i : Nat) (bs : List Nat), RdsW C N h ws i os ks bs → RowsOk C N (krows 0 ops acc (befs [] ops)) h (krows i os ks bs) := by
    intro os
    induction os with
    | nil => intro ks i bs _; simp [krows, RowsOk]
    | cons o os ih =>
      intro ks i bs hk
      cases ks with
      | nil => simp [krows, RowsOk]
      | cons k ks =>
        cases bs with
        | nil => simp [krows, RowsOk]
        | cons b bs =>
          cases k with
          | idle => exact ⟨trivial, ih ks (i + 1) bs hk⟩
          | wrote _ => exact ⟨trivial, ih ks (i + 1) bs hk⟩
          | read hx L v =>
            obtain ⟨h2, h3, h5⟩ := hk
            exact ⟨⟨h2, allAt_writes (x := ⟨i, o, .read hx L v, b⟩) ops acc 0 _ (hw ▸ h3)⟩, ih ks (i + 1) bs h5⟩
  exact this ops acc 0 _ q

/-- A load gives the same in another memory. -/
theorem agn_load {t : TypeId} {x : Operand} {dd : Option Nat} {ty : TypeId} {pos : String} {aft : Array Edge} {g : Option (Nat × Bool)} {p : Addr} (hl : a.load p = some v) (ht : aggOf C t = some false := by rfl) (hxx : lookO L x = some (.pointer (some p)) := by rfl) : Agn C N ⟨dd, .load t x, ty, pos, aft, g⟩ hx L v a :=
  .inr fun e he => by
    simp only [calmF, cLoad, he.eval hxx]
    unfold aggOf at ht
    obtain ⟨i, hi, ha⟩ := Option.map_eq_some_iff.1 ht
    rw [hi]; simp only [loadV, ha, cond_false, hl, pv]
end

section
variable {C : Ctx} {md : Option (List KD)} {all rest : List Oper} {K : List Fr} {N : Nat} {L : List (Nat × Value)} {h : H} {Q : Out → Env → H → Prop} {d : Nat} {ty : TypeId} {pos : String} {aft : Array Edge} {g : Option (Nat × Bool)}
/-- A conversion whose number is known. -/
theorem ow_convTo {s t : TypeId} {x : Operand} {j kk : IntKind} {n n' : Int} (hw : kk.wrap n = n') (k : OW C (put md .idle) all rest K N ((d, .int kk n') :: L) h Q) (h1 : (C.u s).isSome = true := by rfl) (hs : isSliceT C s = false := by rfl) (h2 : C.u t = some (.int kk) := by rfl) (hx : lookO L x = some (.int j n) := by rfl) (hg : On all L g = true := by rfl) (hd : Nat.blt d N = true := by rfl) : OW C md all (⟨some d, .convert s t x, ty, pos, aft, g⟩ :: rest) K N L h Q := by
  subst hw
  exact ow_conv k h1 hs h2 hx hg hd
end
end Go.Mir

/- Running over a string of letters. -/
namespace Go.Mir

theorem decode_letter {fs : List UInt8} {p : Nat} {f : UInt8} (hf : fs[p]? = some f) (h7 : f.toNat < 128) : Utf8.decode ⟨⟨fs⟩⟩ p = (f.toNat, 1) := by
  obtain ⟨hp, rfl⟩ := List.getElem?_eq_some_iff.1 hf
  have e : ((⟨⟨fs⟩⟩ : ByteArray).get! (p + 0)).toNat = fs[p].toNat := by
    congr 1
    show (Array.mk fs)[p + 0]! = _
    rw [Nat.add_zero]
    simp [hp]
  unfold Utf8.decode
  simp only [e]
  rw [if_pos h7]

section
variable {C : Ctx} {md : Option (List KD)} {all rest : List Oper} {K : List Fr} {N : Nat} {L : List (Nat × Value)} {h : H} {Q : Out → Env → H → Prop} {d : Nat} {ty : TypeId} {pos : String} {aft : Array Edge} {g : Option (Nat × Bool)} {h0 : H} {S : Nat → Prop} {As : List Asn}

noncomputable def isStr2 (C : Ctx) (t : TypeId) : Bool := match C.u t with
  | some .string => true
  | _ => false

theorem st_range {t : TypeId} {x : Operand} {s : ByteArray} (st : St h0 S h As) (k : ∀ b h1, St h0 S h1 (blk b (.iter s 0) :: As) → OW C (put md .idle) all rest K N ((d, .pointer (some ⟨b, 0, none⟩)) :: L) h1 Q) (ht : isStr2 C t = true := by rfl) (hx : lookO L x = some (.string s) := by rfl) (hg : On all L g = true := by rfl) (hd : Nat.blt d N = true := by rfl) : OW C md all (⟨some d, .range t x, ty, pos, aft, g⟩ :: rest) K N L h Q :=
  ow_make (v := .pointer (some ⟨h.next, 0, none⟩)) (b := .iter s 0) hg hd rfl rfl (fun e he => by
    unfold isStr2 at ht
    split at ht
    · rename_i hu
      simp only [calmF, cRange, he.eval hx, hu]
    · cases ht) (k _ _ (st.new _))

theorem st_next {x : Operand} {b p : Nat} {fs : List UInt8} {f : UInt8} (i : Nat) (hf : fs[p]? = some f) (h7 : f.toNat < 128) (st : St h0 S h As) (k : ∀ h1, St h0 S h1 (setL As i (blk b (.iter ⟨⟨fs⟩⟩ (p + 1)))) → OW C (put md (.wrote h)) all rest K N ((d, .tuple ⟨[.bool true, .int .i64 (p : Int), .int .i32 (f.toNat : Int)]⟩) :: L) h1 Q)
    (hi : nth As i = some (blk b (.iter ⟨⟨fs⟩⟩ p)) := by rfl) (hx : lookO L x = some (.pointer (some ⟨b, 0, none⟩)) := by rfl) (hg : On all L g = true := by rfl) (hd : Nat.blt d N = true := by rfl) : OW C md all (⟨some d, .next x true, ty, pos, aft, g⟩ :: rest) K N L h Q := by
  refine ow_loud (v := .tuple ⟨[.bool true, .int .i64 (p : Int), .int .i32 (f.toNat : Int)]⟩) (h1 := h.set b (.iter ⟨⟨fs⟩⟩ (p + 1))) hg hd rfl (fun e he => ?_) (Nat.le_refl _) (k _ (st.set i hi _))
  have hlt : Nat.blt p (⟨⟨fs⟩⟩ : ByteArray).size = true := blt_of (by
    show p < fs.length
    exact (List.getElem?_eq_some_iff.1 hf).1)
  simp only [loudF, lNext, he.eval hx, st.get i hi, nextV, hlt, cond_true, decode_letter hf h7]
  rfl

theorem st_nextEnd {x : Operand} {b : Nat} {fs : List UInt8} (i : Nat) {p : Nat} (hp : p = fs.length) (st : St h0 S h As) (k : OW C (put md (.wrote h)) all rest K N ((d, .tuple ⟨[.bool false]⟩) :: L) h Q)
    (hi : nth As i = some (blk b (.iter ⟨⟨fs⟩⟩ p)) := by rfl) (hx : lookO L x = some (.pointer (some ⟨b, 0, none⟩)) := by rfl) (hg : On all L g = true := by rfl) (hd : Nat.blt d N = true := by rfl) : OW C md all (⟨some d, .next x true, ty, pos, aft, g⟩ :: rest) K N L h Q := by
  refine ow_loud (v := .tuple ⟨[.bool false]⟩) (h1 := h) hg hd rfl (fun e he => ?_) (Nat.le_refl _) k
  have hlt : Nat.blt p (⟨⟨fs⟩⟩ : ByteArray).size = false := by
    cases hb : Nat.blt p (⟨⟨fs⟩⟩ : ByteArray).size with
    | false => rfl
    | true =>
      rw [Nat.blt_eq] at hb
      have hb : p < fs.length := hb
      omega
  simp only [loudF, lNext, he.eval hx, st.get i hi, nextV, hlt, cond_false]

theorem loadRom {h : H} {b o : Nat} {cs : List Value} {v : Value} (hb : h.get b = some (.rom cs)) (hv : nth cs o = some v) : h.load ⟨b, o, none⟩ = some v := by
  unfold H.load H.cells?; simp only [hb]; exact hv

theorem abin_eqS {t : TypeId} {x y : Operand} {a b : List UInt8} (ht : isStr2 C t = true) : abin C .eql t x y (.string ⟨⟨a⟩⟩) (.string ⟨⟨b⟩⟩) = some (.bool (decide (a = b))) ∧ abin C .neq t x y (.string ⟨⟨a⟩⟩) (.string ⟨⟨b⟩⟩) = some (.bool (!decide (a = b))) := by
  have e : ((⟨⟨a⟩⟩ : ByteArray).toList == (⟨⟨b⟩⟩ : ByteArray).toList) = decide (a = b) := by
    rw [ByteArray.toList_eq, ByteArray.toList_eq]
    by_cases h : a = b
    · simp [h]
    · simp [h]
  unfold isStr2 at ht
  split at ht
  · rename_i hu
    have hn : nilEq (C.u t) (.string ⟨⟨a⟩⟩) (.string ⟨⟨b⟩⟩) = none := by rw [hu]; rfl
    constructor
    · unfold abin
      simp only [hn]
      simp only [lit, Bool.and_self, cond_true]
      unfold eqGuard binOp
      simp only [Op.stringOp, e]
      rfl
    · unfold abin
      simp only [hn]
      simp only [lit, Bool.and_self, cond_true]
      unfold eqGuard binOp
      simp only [Op.stringOp, e]
      rfl
  · cases ht

/-- Are two strings equal? -/
theorem ow_eqS {t u : TypeId} {x y : Operand} {a b : List UInt8} (k : OW C (put md .idle) all rest K N ((d, .bool (decide (a = b))) :: L) h Q) (ht : isStr2 C t = true := by rfl) (hx : lookO L x = some (.string ⟨⟨a⟩⟩) := by rfl) (hy : lookO L y = some (.string ⟨⟨b⟩⟩) := by rfl) (hg : On all L g = true := by rfl) (hd : Nat.blt d N = true := by rfl) : OW C md all (⟨some d, .binOp .eql t x y u, ty, pos, aft, g⟩ :: rest) K N L h Q :=
  ow_bin hx hy (abin_eqS ht).1 hg hd k
theorem ow_neS {t u : TypeId} {x y : Operand} {a b : List UInt8} (k : OW C (put md .idle) all rest K N ((d, .bool (!decide (a = b))) :: L) h Q) (ht : isStr2 C t = true := by rfl) (hx : lookO L x = some (.string ⟨⟨a⟩⟩) := by rfl) (hy : lookO L y = some (.string ⟨⟨b⟩⟩) := by rfl) (hg : On all L g = true := by rfl) (hd : Nat.blt d N = true := by rfl) : OW C md all (⟨some d, .binOp .neq t x y u, ty, pos, aft, g⟩ :: rest) K N L h Q :=
  ow_bin hx hy (abin_eqS ht).2 hg hd k

/-- The end of a function with a result in a cell and one more. -/
theorem end_cellA1 {o : Out} {rs : List ResultVar} {a t b k n t2 : Nat} {v2 : Value} {P : Value → H → Prop} {hh : H} {cs : List Value} (hr : rs = [.cell a t, .tmp t2]) (hn : hh.next ≤ h.next) (hl : h.read ⟨b, k, none⟩ n = some cs) (q : P (.tuple ⟨[.agg ⟨cs⟩, v2]⟩) h) (ha : look L a = some (.pointer (some ⟨b, k, none⟩)) := by rfl) (h2 : look L t2 = some v2 := by rfl) (ht : aggSize C t = some n := by rfl) (ho : (match o with | .exit _ => False | _ => True) := by exact trivial) : DN C o [] N L h (Ends C rs hh P) := by
  subst hr
  refine end_res (vs := [.agg ⟨cs⟩, v2]) hn ?_ q ho
  unfold aggSize at ht
  obtain ⟨i, hi, hb⟩ := Option.bind_eq_some_iff.1 ht
  cases hq : isAggD i.u with
  | false => rw [hq, cond_false] at hb; cases hb
  | true =>
    rw [hq, cond_true, Option.some.injEq] at hb
    simp only [resKs, resK, ha, h2, hi, loadV, hq, cond_true, hb, hl]
end
end Go.Mir

/- Reading the fields of a command. -/
namespace Go.Mir

/-- Fields that are not among these letters are nought. -/
def BareL (l : List UInt8) (c : PCmd) : Prop :=
  (105 ∉ l → c.i = 0) ∧ (106 ∉ l → c.j = 0) ∧ (107 ∉ l → c.key = 0) ∧ (121 ∉ l → c.by' = 0) ∧ (111 ∉ l → c.ops = []) ∧ (98 ∉ l → c.bytes = []) ∧ (112 ∉ l → c.patch = [])

theorem BareL.bare {c : PCmd} (h : BareL (fieldsOf c.kind) c) : c = bareC c := by
  obtain ⟨h1, h2, h3, h4, h5, h6, h7⟩ := h
  unfold bareC
  obtain ⟨k, i, j, y, b, o, x, p⟩ := c
  simp only at h1 h2 h3 h4 h5 h6 h7
  congr 1
  · split
    · rfl
    · exact h1 ‹_›
  · split
    · rfl
    · exact h2 ‹_›
  · split
    · rfl
    · exact h3 ‹_›
  · split
    · rfl
    · exact h4 ‹_›
  · split
    · rfl
    · exact h5 ‹_›
  · split
    · rfl
    · exact h6 ‹_›
  · split
    · rfl
    · exact h7 ‹_›

/-- So many fields are read. -/
def RFld (fs b : List UInt8) (i1 : Nat) (bad1 : Bool) (p ip : Nat) (badp : Bool) (c : PCmd) : Prop :=
  ip ≤ b.length ∧ BareL (fs.take p) c ∧ (bad1 = true → badp = true) ∧ (bad1 = false → (badp = false ∧ c.okR ∧ b.drop i1 = (fs.take p).flatMap (wField c) ++ b.drop ip) ∨ (badp = true ∧ ∀ y : PCmd, y.okR → ∀ rest, b.drop i1 ≠ fs.flatMap (wField y) ++ rest))

theorem RFld.start {fs b : List UInt8} {i1 : Nat} {bad1 : Bool} {k : Int} (hi : i1 ≤ b.length) (hk : u8ok k) : RFld fs b i1 bad1 0 i1 bad1 ⟨k, 0, 0, 0, 0, [], [], []⟩ := by
  refine ⟨hi, ⟨fun _ => rfl, fun _ => rfl, fun _ => rfl, fun _ => rfl, fun _ => rfl, fun _ => rfl, fun _ => rfl⟩, fun q => q, fun q => .inl ⟨q, ⟨hk, ?_, ?_, ?_, ?_, by simp, by simp⟩, by simp⟩⟩
  all_goals exact (by unfold i64ok; decide : i64ok 0)

theorem RFld.step {fs b : List UInt8} {i1 p ip i' : Nat} {bad1 badp bad' : Bool} {c c' : PCmd} {f : UInt8} (h : RFld fs b i1 bad1 p ip badp c) (hf : fs[p]? = some f) (hi : i' ≤ b.length) (hb : badp = true → bad' = true)
    (hs : badp = false → c.okR → (bad' = false ∧ c'.okR ∧ b.drop ip = wField c' f ++ b.drop i') ∨ (bad' = true ∧ ∀ y : PCmd, y.okR → ∀ rest, b.drop ip ≠ wField y f ++ rest))
    (hsame : ∀ g ∈ fs.take p, wField c' g = wField c g) (hbare : ∀ l, BareL l c → BareL (l ++ [f]) c') : RFld fs b i1 bad1 (p + 1) i' bad' c' := by
  have ht : fs.take (p + 1) = fs.take p ++ [f] := by rw [List.take_add_one, hf]; rfl
  refine ⟨hi, ht ▸ hbare _ h.2.1, fun q => hb (h.2.2.1 q), fun q => ?_⟩
  rcases h.2.2.2 q with ⟨h1, h2, h3⟩ | ⟨h1, h2⟩
  · rcases hs h1 h2 with ⟨g1, g2, g3⟩ | ⟨g1, g2⟩
    · refine .inl ⟨g1, g2, ?_⟩
      rw [ht, List.flatMap_append, List.append_assoc, h3, g3]
      congr 1
      · rw [List.flatMap_def, List.flatMap_def]
        congr 1
        exact List.map_congr_left fun g hg => (hsame g hg).symm
      · simp
    · refine .inr ⟨g1, fun y hy rest e => ?_⟩
      have e2 : fs = fs.take p ++ f :: fs.drop (p + 1) := by
        obtain ⟨hp, rfl⟩ := List.getElem?_eq_some_iff.1 hf
        rw [← List.drop_eq_getElem_cons hp, List.take_append_drop]
      rw [h3] at e
      have e3 : fs.flatMap (wField y) = (fs.take p).flatMap (wField y) ++ (wField y f ++ (fs.drop (p + 1)).flatMap (wField y)) := by
        conv => lhs; rw [e2]
        rw [List.flatMap_append, List.flatMap_cons]
      rw [e3, List.append_assoc, List.append_assoc] at e
      exact g2 y hy _ (wField_pc h2 hy _ _ _ e).1
  · exact .inr ⟨hb h1, h2⟩

theorem RFld.done {b : List UInt8} {i i1 iE : Nat} {bad bad1 badE : Bool} {k : Nat} {c : PCmd} (o : ROut (fun n => n ≤ 255 ∧ n < 2 ^ 64) form b i bad i1 bad1 k)
    (hk : c.kind = IntKind.u8.wrap (k : Int)) (h : RFld (fieldsOf c.kind) b i1 (if fieldsOf c.kind = [] then true else bad1) (fieldsOf c.kind).length iE badE c) : ROut (fun c => PCmd.okR c ∧ mayC c) wCmd b i bad iE badE c := by
  obtain ⟨h1, h2, h3, h4⟩ := h
  rw [List.take_length] at h2 h4
  have hE : bad1 = true → badE = true := fun q => h3 (by rw [q]; split <;> rfl)
  refine ⟨h1, fun q => hE (o.2.1 q), fun q => ?_⟩
  rcases o.2.2 q with ⟨a1, a2, a3⟩ | ⟨a1, a2⟩
  · have hkk : c.kind = (k : Int) := by rw [hk]; exact wrap_u8 (by omega)
    have hw : ∀ y : PCmd, y.okR → ∀ rest, b.drop i = wCmd y ++ rest → y.kind = c.kind ∧ b.drop i1 = (fieldsOf y.kind).flatMap (wField y) ++ rest := by
      intro y hy rest e
      unfold wCmd at e
      rw [a3, List.append_assoc] at e
      obtain ⟨e1, e2⟩ := form_pc _ _ _ _ trivial trivial e
      have h0 := hy.1.1
      exact ⟨by rw [hkk]; omega, e2⟩
    by_cases hq : fieldsOf c.kind = []
    · rw [if_pos hq] at h3
      refine .inr ⟨h3 rfl, fun y hy rest e => ?_⟩
      have := (hw y hy.1 rest e).1
      exact hy.2.1 (by rw [this]; exact hq)
    · rw [if_neg hq] at h4
      rcases h4 a1 with ⟨g1, g2, g3⟩ | ⟨g1, g2⟩
      · refine .inl ⟨g1, ⟨g2, hq, h2.bare⟩, ?_⟩
        unfold wCmd wU
        rw [a3, g3, List.append_assoc, hkk]
        rfl
      · refine .inr ⟨g1, fun y hy rest e => ?_⟩
        obtain ⟨e1, e2⟩ := hw y hy.1 rest e
        rw [e1] at e2
        exact g2 y hy.1 rest e2
  · refine .inr ⟨hE a1, fun y hy rest e => ?_⟩
    unfold wCmd wU at e
    rw [List.append_assoc] at e
    have h0 := hy.1.1
    unfold u8ok at h0
    exact a2 _ ⟨by omega, by omega⟩ _ e

def forms : List (List UInt8) := [[], [111], [98], [105, 98], [105, 106], [105, 106, 112], [105, 106, 107, 121], [105], [46]]
theorem fields_forms (k : Int) : fieldsOf k ∈ forms := by
  by_cases h1 : k = 1
  · subst h1; decide
  by_cases h2 : k = 2
  · subst h2; decide
  by_cases h3 : k = 3
  · subst h3; decide
  by_cases h4 : k = 4
  · subst h4; decide
  by_cases h5 : k = 5
  · subst h5; decide
  by_cases h6 : k = 6
  · subst h6; decide
  by_cases h7 : k = 7
  · subst h7; decide
  by_cases h8 : k = 8
  · subst h8; decide
  by_cases h9 : k = 9
  · subst h9; decide
  by_cases h10 : k = 10
  · subst h10; decide
  by_cases h11 : 11 ≤ k ∧ k ≤ 18
  · have : fieldsOf k = [46] := by
      unfold fieldsOf
      rw [if_neg h1, if_neg h2, if_neg h3, if_neg h4, if_neg h5, if_neg h6, if_neg h7, if_neg h8, if_neg h9, if_neg h10, if_pos h11]
    rw [this]; decide
  by_cases h19 : k = 19
  · subst h19; decide
  by_cases h20 : k = 20
  · subst h20; decide
  by_cases h21 : k = 21
  · subst h21; decide
  have : fieldsOf k = [] := by
    unfold fieldsOf
    rw [if_neg h1, if_neg h2, if_neg h3, if_neg h4, if_neg h5, if_neg h6, if_neg h7, if_neg h8, if_neg h9, if_neg h10, if_neg h11, if_neg h19, if_neg h20, if_neg h21]
  rw [this]; decide

theorem fields_letters {k : Int} {f : UInt8} (h : f ∈ fieldsOf k) : f = 105 ∨ f = 106 ∨ f = 107 ∨ f = 121 ∨ f = 111 ∨ f = 98 ∨ f = 112 ∨ f = 46 :=
  (by decide : ∀ l ∈ forms, ∀ f ∈ l, f = 105 ∨ f = 106 ∨ f = 107 ∨ f = 121 ∨ f = 111 ∨ f = 98 ∨ f = 112 ∨ f = 46) _ (fields_forms k) _ h

theorem fields_nodup (k : Int) : (fieldsOf k).Nodup := (by decide : ∀ l ∈ forms, l.Nodup) _ (fields_forms k)

theorem not_before {l : List UInt8} (h : l.Nodup) {p : Nat} {f : UInt8} (hf : l[p]? = some f) : ∀ g ∈ l.take p, g ≠ f := by
  intro g hg e
  subst e
  obtain ⟨hp, rfl⟩ := List.getElem?_eq_some_iff.1 hf
  have e2 : l = l.take p ++ l[p] :: l.drop (p + 1) := by rw [← List.drop_eq_getElem_cons hp, List.take_append_drop]
  generalize l[p] = z at *
  rw [e2, List.nodup_append] at h
  exact h.2.2 _ hg _ List.mem_cons_self rfl
end Go.Mir

/- Reading a script. -/
namespace Go.Mir

def okCm (c : PCmd) : Prop := c.okR ∧ mayC c
theorem wCmd_ne (c : PCmd) (l : List UInt8) : wCmd c ++ l ≠ [] := fun h => by
  have := (List.append_eq_nil_iff.1 h).1
  unfold wCmd at this
  exact form_ne _ (List.append_eq_nil_iff.1 this).1

theorem flat_pref {α : Type} {ok : α → Prop} {w : α → List UInt8} (pc : PC ok w) (hne : ∀ x, w x ≠ []) : ∀ (xs l : List α) (r : List UInt8), (∀ x ∈ xs, ok x) → (∀ x ∈ l, ok x) → xs.flatMap w ++ r = l.flatMap w → ∃ l', l = xs ++ l' ∧ r = l'.flatMap w
  | [], l, r, _, _, h => ⟨l, rfl, by simpa using h⟩
  | x :: xs, [], r, _, _, h => by
    simp only [List.flatMap_cons, List.flatMap_nil, List.append_assoc] at h
    exact absurd (List.append_eq_nil_iff.1 h).1 (hne x)
  | x :: xs, y :: l, r, hx, hy, h => by
    simp only [List.flatMap_cons, List.append_assoc] at h
    obtain ⟨rfl, h2⟩ := pc x y _ _ (hx x (by simp)) (hy y (by simp)) h
    obtain ⟨l', rfl, e⟩ := flat_pref pc hne xs l r (fun z hz => hx z (List.mem_cons_of_mem _ hz)) (fun z hz => hy z (List.mem_cons_of_mem _ hz)) h2
    exact ⟨l', rfl, e⟩

/-- The commands that are read so far. -/
def RAll (b : List UInt8) (i3 : Nat) (bad3 : Bool) (ip : Nat) (badp : Bool) (xs : List PCmd) : Prop :=
  ip ≤ b.length ∧ (bad3 = true → badp = true) ∧ (bad3 = false → (badp = false ∧ (∀ c ∈ xs, okCm c) ∧ b.drop i3 = xs.flatMap wCmd ++ b.drop ip) ∨ (badp = true ∧ ∀ l : List PCmd, (∀ c ∈ l, okCm c) → b.drop i3 ≠ l.flatMap wCmd))

theorem RAll.start {b : List UInt8} {i3 : Nat} {bad3 : Bool} (h : i3 ≤ b.length) : RAll b i3 bad3 i3 bad3 [] := ⟨h, fun q => q, fun q => .inl ⟨q, by simp, by simp⟩⟩

theorem RAll.step {b : List UInt8} {i3 ip i' : Nat} {bad3 bad' : Bool} {xs : List PCmd} {c : PCmd} (h : RAll b i3 bad3 ip false xs) (hlt : ip < b.length) (o : ROut okCm wCmd b ip false i' bad' c) : RAll b i3 bad3 i' bad' (xs ++ [c]) := by
  refine ⟨o.1, fun q => absurd (h.2.1 q) (by simp), fun q => ?_⟩
  rcases h.2.2 q with ⟨_, h1, h2⟩ | ⟨h1, _⟩
  · rcases o.2.2 rfl with ⟨g1, g2, g3⟩ | ⟨g1, g2⟩
    · refine .inl ⟨g1, fun z hz => ?_, by rw [h2, g3]; simp⟩
      rcases List.mem_append.1 hz with hz | hz
      · exact h1 z hz
      · rw [List.mem_singleton.1 hz]; exact g2
    · refine .inr ⟨g1, fun l hl e => ?_⟩
      rw [h2] at e
      obtain ⟨l', rfl, e2⟩ := flat_pref wCmd_pc (fun x q => wCmd_ne x [] (by rw [q]; rfl)) _ _ _ h1 hl e
      cases l' with
      | nil =>
        have := congrArg List.length e2
        simp at this; omega
      | cons d l' =>
        rw [List.flatMap_cons] at e2
        exact g2 d (hl d (by simp)) _ e2
  · cases h1

theorem RAll.more {b : List UInt8} {ip i' : Nat} {c : PCmd} (o : ROut okCm wCmd b ip false i' false c) : ip < i' := by
  rcases o.2.2 rfl with ⟨_, _, g3⟩ | ⟨g1, _⟩
  · have := congrArg List.length g3
    have h2 := List.length_pos_iff.2 (fun q => wCmd_ne c [] (by rw [q]; rfl) : wCmd c ≠ [])
    simp only [List.length_drop, List.length_append] at this
    have := o.1
    omega
  · cases g1

def okS (s : PScr) : Prop := s.okR ∧ mayS s

theorem read_good {b : List UInt8} {i3 ip : Nat} {bad3 : Bool} {ks : List PKey} {m u : Int} {xs : List PCmd}
    (o : ROut (fun z : List PKey × Int × Int => (∀ k ∈ z.1, k.okR) ∧ i64ok z.2.1 ∧ i64ok z.2.2) (fun z => wL wKey z.1 ++ (wI z.2.1 ++ wI z.2.2)) b 0 false i3 bad3 (ks, m, u)) (r : RAll b i3 bad3 ip false xs) (he : ip = b.length) : okS ⟨ks, m, u, xs⟩ ∧ b = wScr ⟨ks, m, u, xs⟩ := by
  have hb3 : bad3 = false := by
    cases h : bad3 with
    | false => rfl
    | true => have := r.2.1 h; cases this
  subst he
  rcases o.2.2 rfl with ⟨_, ⟨h1, h2, h3⟩, h4⟩ | ⟨h1, _⟩
  · rcases r.2.2 hb3 with ⟨_, g2, g3⟩ | ⟨g1, _⟩
    · refine ⟨⟨⟨h1, h2, h3, fun c hc => (g2 c hc).1⟩, fun c hc => (g2 c hc).2⟩, ?_⟩
      rw [List.drop_zero] at h4
      unfold wScr
      simp only at h4 ⊢
      rw [h4, g3]
      simp [List.append_assoc]
    · cases g1
  · rw [hb3] at h1; cases h1

theorem read_bad {b : List UInt8} {i3 ip : Nat} {bad3 : Bool} {ks : List PKey} {m u : Int} {xs : List PCmd}
    (o : ROut (fun z : List PKey × Int × Int => (∀ k ∈ z.1, k.okR) ∧ i64ok z.2.1 ∧ i64ok z.2.2) (fun z => wL wKey z.1 ++ (wI z.2.1 ++ wI z.2.2)) b 0 false i3 bad3 (ks, m, u)) (r : RAll b i3 bad3 ip true xs) : ∀ s : PScr, okS s → b ≠ wScr s := by
  rintro ⟨ks', m', u', cs⟩ ⟨⟨s1, s2, s3, s4⟩, s5⟩ e
  have e2 : b.drop 0 = (wL wKey ks' ++ (wI m' ++ wI u')) ++ cs.flatMap wCmd := by
    rw [List.drop_zero, e]; unfold wScr; simp [List.append_assoc]
  rcases o.2.2 rfl with ⟨hb3, h1, h4⟩ | ⟨_, h2⟩
  · rw [h4] at e2
    have pc : PC (fun z : List PKey × Int × Int => (∀ k ∈ z.1, k.okR) ∧ i64ok z.2.1 ∧ i64ok z.2.2) (fun z => wL wKey z.1 ++ (wI z.2.1 ++ wI z.2.2)) := by
      rintro ⟨a1, a2, a3⟩ ⟨b1, b2, b3⟩ x y ha hb q
      simp only [List.append_assoc] at q
      obtain ⟨q1, q⟩ := wL_pc wKey_pc _ _ _ _ ha.1 hb.1 q
      obtain ⟨q2, q⟩ := wI_pc _ _ _ _ trivial trivial q
      obtain ⟨q3, q⟩ := wI_pc _ _ _ _ trivial trivial q
      simp only at q1 q2 q3
      exact ⟨by rw [q1, q2, q3], q⟩
    have e3 := (pc (ks, m, u) (ks', m', u') _ _ h1 ⟨s1, s2, s3⟩ e2).2
    rcases r.2.2 hb3 with ⟨g1, _⟩ | ⟨_, g2⟩
    · cases g1
    · exact g2 cs (fun c hc => ⟨s4 c hc, s5 c hc⟩) e3
  · exact h2 (ks', m', u') ⟨s1, s2, s3⟩ _ e2
end Go.Mir

/- Rows of bytes, written one behind the other. -/
namespace Go.Mir

/-- An owned row of bytes. -/
abbrev BufB (v : Value) (l : List UInt8) : Asn := Buf 1 l.length v (bytesV l)

theorem St.back {h0 h1 h2 : H} {S S' : Nat → Prop} {As : List Asn} (st : St h1 S' h2 As) (g : Gr S h0 S' h1) (hl : ∀ a, S a → a < h0.next) : St h0 S h2 As where
  lt := hl
  nx := Nat.le_trans g.1 st.nx
  same := fun a ha => (st.same a (g.2 a ha).1).trans (g.2 a ha).2
  mine := by
    obtain ⟨K, hf, hn, hm⟩ := st.mine
    exact ⟨K, hf, hn, fun p hp => ⟨(hm p hp).1, (hm p hp).2.1, fun q => (hm p hp).2.2 (g.2 _ q).1⟩⟩

theorem rem128 {n : Nat} : intOp .rem .u64 (n : Int) 128 = some (.int .u64 ((n % 128 : Nat) : Int)) := by
  show (if (128 : Int) = 0 then none else some (Value.int .u64 ((n : Int).tmod 128))) = _
  rw [if_neg (by decide)]; rfl
theorem quo128 {n : Nat} (h : n < 2 ^ 64) : intOp .quo .u64 (n : Int) 128 = some (.int .u64 ((n / 128 : Nat) : Int)) := by
  show (if (128 : Int) = 0 then none else some (Value.int .u64 (IntKind.u64.wrap ((n : Int).tdiv 128)))) = _
  rw [if_neg (by decide)]
  have : ((n : Int).tdiv 128) = ((n / 128 : Nat) : Int) := rfl
  rw [this, wrap_u64 (by omega)]

theorem form_len : ∀ (k n : Nat), n < 128 ^ (k + 1) → (form n).length ≤ k + 1
  | 0, n, h => by rw [form_small (by simpa using h)]; simp
  | k + 1, n, h => by
    by_cases hn : n < 128
    · rw [form_small hn]; simp
    · rw [form_great hn, List.length_cons]
      have : n / 128 < 128 ^ (k + 1) := by
        rw [Nat.div_lt_iff_lt_mul (by decide), ← Nat.pow_succ]; exact h
      have := form_len k (n / 128) this
      omega
theorem form_len64 {n : Nat} (h : n < 2 ^ 64) : (form n).length ≤ 10 := form_len 9 n (by omega)

theorem byteV {n : Nat} (h : n < 256) : bytesV [UInt8.ofNat n] = [.int .u8 (n : Int)] := by
  simp [bytesV, UInt8.toNat_ofNat', Nat.mod_eq_of_lt h]

theorem takeN_some {α : Type} : ∀ {n : Nat} {l r : List α}, takeN n l = some r → n ≤ l.length ∧ r = l.take n
  | 0, l, r, h => by
    have h' : r = [] := by cases l <;> simpa [takeN] using h.symm
    exact ⟨Nat.zero_le _, by rw [h']; simp⟩
  | n + 1, [], r, h => by simp [takeN] at h
  | n + 1, a :: l, r, h => by
    simp only [takeN] at h
    split at h
    · rename_i t ht
      obtain ⟨h1, h2⟩ := takeN_some ht
      simp only [Option.some.injEq] at h
      exact ⟨by simp; omega, by rw [← h, h2]; simp⟩
    · cases h
theorem takeN_take {α : Type} : ∀ {n : Nat} {l : List α}, n ≤ l.length → takeN n l = some (l.take n)
  | 0, l, _ => by cases l <;> rfl
  | n + 1, [], h => by simp at h
  | n + 1, a :: l, h => by
    simp only [takeN, takeN_take (n := n) (l := l) (by simpa using h)]; simp

/-- A part of what is read. -/
theorem read_part {h : H} {b o n k m : Nat} {cs r : List Value} (hr : h.read ⟨b, o, none⟩ n = some cs) (hv : takeN m (dropN k cs) = some r) : h.read ⟨b, o + k, none⟩ m = some r := by
  unfold H.read at hr ⊢
  cases hc : h.cells? b with
  | none => simp [hc] at hr
  | some c =>
    simp only [hc] at hr ⊢
    obtain ⟨h1, rfl⟩ := takeN_some hr
    obtain ⟨h2, rfl⟩ := takeN_some hv
    rw [dropN_eq] at h1 h2 ⊢
    rw [dropN_eq]
    rw [dropN_eq] at h2
    simp only [List.length_drop, List.length_take] at h1 h2
    rw [takeN_take (by simp only [List.length_drop]; omega)]
    congr 1
    rw [List.drop_take, dropN_eq, List.drop_drop, List.take_take]
    congr 1
    omega

theorem flat_le {α : Type} {w : α → List UInt8} : ∀ {l : List α} {x : α}, x ∈ l → (w x).length ≤ (l.flatMap w).length
  | y :: l, x, h => by
    rw [List.flatMap_cons, List.length_append]
    rcases List.mem_cons.1 h with rfl | h
    · omega
    · have := flat_le (w := w) h; omega
theorem flat_take {α : Type} {w : α → List UInt8} {l : List α} {i : Nat} {x : α} (h : l[i]? = some x) : (l.take (i + 1)).flatMap w = (l.take i).flatMap w ++ w x := by
  rw [List.take_add_one, h, List.flatMap_append]; simp
theorem flat_take_le {α : Type} {w : α → List UInt8} {l : List α} {i : Nat} {x : α} (h : l[i]? = some x) : ((l.take i).flatMap w).length + (w x).length ≤ (l.flatMap w).length := by
  rw [← List.length_append, ← flat_take h]
  conv => rhs; rw [← List.take_append_drop (i + 1) l, List.flatMap_append, List.length_append]
  omega

section
variable {C : Ctx} {md : Option (List KD)} {all rest : List Oper} {K : List Fr} {N : Nat} {L : List (Nat × Value)} {h : H} {Q : Out → Env → H → Prop} {d : Nat} {ty : TypeId} {pos : String} {aft : Array Edge} {g : Option (Nat × Bool)} {h0 : H} {S : Nat → Prop} {As : List Asn}

/-- Bytes are put behind an owned row. -/
theorem st_appB {ts tx : TypeId} {xv xs : Operand} {v x : Value} {p l : List UInt8} (i : Nat) (hsrc : firstCells h 1 l.length x = some (bytesV l) ∧ lenOf x = some l.length) (hfit : p.length + l.length ≤ 2 ^ 40) (s : St h0 S h As)
    (k : ∀ v' h1, St h0 S h1 (BufB v' (p ++ l) :: eraseAt As i) → OW C (put md (.wrote h)) all rest K N ((d, v') :: L) h1 Q)
    (ht : appT C ts tx = some (1, 1) := by rfl) (hi : nth As i = some (BufB v p) := by rfl) (hv : lookO L xv = some v := by rfl) (hx : lookO L xs = some x := by rfl) (hg : On all L g = true := by rfl) (hd : Nat.blt d N = true := by rfl) :
    OW C md all (⟨some d, .call { callee := .builtin .append, args := ⟨[xv, xs]⟩, argTypes := ⟨[ts, tx]⟩ }, ty, pos, aft, g⟩ :: rest) K N L h Q :=
  st_append (w := 1) (y := 1) (m := l.length) (n := p.length) i hsrc (bytesV_one l) (bytesV_len l) (by omega) s (fun v' h1 st => by
    have e : BufB v' (p ++ l) = Buf 1 (p.length + l.length) v' (bytesV p ++ bytesV l) := by unfold BufB; rw [bytesV_append, List.length_append]
    exact k v' h1 (e ▸ st)) ht hi hv hx hg hd

theorem buf_src {v : Value} {l : List UInt8} {i : Nat} (s : St h0 S h As) (hi : nth As i = some (BufB v l)) : firstCells h 1 l.length v = some (bytesV l) ∧ lenOf v = some l.length := ⟨(Buf.cells s hi).1, (Buf.cells s hi).2.1⟩
theorem blk_src {b : Nat} {l : List UInt8} {i : Nat} {cs : List Value} (s : St h0 S h As) (hi : nth As i = some (blk b (.cells cs 0))) (hc : cs = bytesV l) (hl : 0 < l.length) (h40 : l.length ≤ LOOSE) : firstCells h 1 l.length (.slice (some ⟨b, 0, none⟩) l.length l.length) = some (bytesV l) ∧ lenOf (.slice (some ⟨b, 0, none⟩) l.length l.length) = some l.length := by
  refine ⟨?_, rfl⟩
  subst hc
  simp only [firstCells]
  rw [nbeq_f (by omega), cond_false, Nat.ble_eq_true_of_le h40, cond_true]
  exact readOf (s.get i hi) (by rw [← bytesV_len l]; exact takeN_all (bytesV l))

/-- A string's bytes, as an owned row. -/
theorem st_strB {s t : TypeId} {x : Operand} {l : List UInt8} (hl : l.length ≤ 2 ^ 40) (st : St h0 S h As) (k : ∀ v h1, St h0 S h1 (BufB v l :: As) → OW C (put md .idle) all rest K N ((d, v) :: L) h1 Q)
    (hs : isStr C s = true := by rfl) (ht : isByteSl C t = true := by rfl) (hx : lookO L x = some (.string ⟨⟨l⟩⟩) := by rfl) (hg : On all L g = true := by rfl) (hd : Nat.blt d N = true := by rfl) : OW C md all (⟨some d, .convert s t x, ty, pos, aft, g⟩ :: rest) K N L h Q := by
  unfold isByteSl at ht
  unfold isStr at hs
  split at ht
  · rename_i e hu
    split at ht
    · rename_i he
      split at hs
      · rename_i hus
        have hk : kindOf C (.convert s t x) = .calm := by unfold kindOf; simp only [hu, hus]
        have hr : readsMem C (.convert s t x) = false := by unfold readsMem; simp only [hus]
        have e2 : (.cells (strBytes ⟨⟨l⟩⟩) 1 : Blk) = .cells (bytesV l) 1 := rfl
        refine ow_make (v := .slice (some ⟨h.next, 0, none⟩) l.length LOOSE) (b := .cells (bytesV l) 1) hg hd hk hr (fun e' he' => ?_) (k _ _ ((st.new _).imp 0 rfl fun K q => ⟨bytesV_len l, .inr ⟨_, rfl, q⟩⟩))
        have hsz : Nat.ble (⟨⟨l⟩⟩ : ByteArray).size (2 ^ 40) = true := Nat.ble_eq_true_of_le hl
        simp only [calmF, cConvert, he'.eval hx, hu, hus, he, hsz, cond_true]
        rfl
      · cases hs
    · cases ht
  · cases ht
end
end Go.Mir

/- Longer words of a walk. -/
namespace Go.Mir

theorem add_nat {x y : Nat} (h : x + y < 2 ^ 62) : intOp .add .i64 (x : Int) (y : Int) = some (.int .i64 ((x + y : Nat) : Int)) := by
  simp only [intOp]
  rw [show (x : Int) + (y : Int) = ((x + y : Nat) : Int) by omega, wrap_i64 (by unfold i64ok; omega)]

section
variable {C : Ctx} {md : Option (List KD)} {all rest : List Oper} {K : List Fr} {N : Nat} {L : List (Nat × Value)} {h : H} {Q : Out → Env → H → Prop} {d : Nat} {ty : TypeId} {pos : String} {aft : Array Edge} {g : Option (Nat × Bool)}
theorem ow_indexX {t : TypeId} {x i : Operand} {b o n c s m : Nat} {kk : IntKind} (k : OW C (put md .idle) all rest K N ((d, .pointer (some ⟨b, o + m * s, none⟩)) :: L) h Q) (ht : elemSize C t = some s := by rfl) (hx : lookO L x = some (.slice (some ⟨b, o, none⟩) n c) := by rfl) (hi : lookO L i = some (.int kk (Int.ofNat m)) := by rfl) (hm : m < n := by omega) (hc : c ≤ LOOSE := by assumption) (hg : On all L g = true := by rfl) (hd : Nat.blt d N = true := by rfl) : OW C md all (⟨some d, .indexAddr t x i, ty, pos, aft, g⟩ :: rest) K N L h Q := ow_index hm hc k ht hx hi hg hd
theorem ow_loadX {t : TypeId} {x : Operand} {p : Addr} {v : Value} (k : OW C (put md (.read h L v)) all rest K N ((d, v) :: L) h Q) (ht : aggOf C t = some false := by rfl) (hx : lookO L x = some (.pointer (some p)) := by rfl) (hl : h.load p = some v := by first | assumption | exact (St.load (by assumption) (by assumption)).trans (by assumption)) (hg : On all L g = true := by rfl) (hd : Nat.blt d N = true := by rfl) : OW C md all (⟨some d, .load t x, ty, pos, aft, g⟩ :: rest) K N L h Q := ow_load hl k ht hx hg hd
theorem ow_loadAX {t : TypeId} {x : Operand} {p : Addr} {s : Nat} {cs : List Value} (k : OW C (put md (.read h L (.agg ⟨cs⟩))) all rest K N ((d, .agg ⟨cs⟩) :: L) h Q) (ht : aggSize C t = some s := by rfl) (hx : lookO L x = some (.pointer (some p)) := by rfl) (hl : h.read p s = some cs := by first | assumption | exact (St.read (by assumption) (by assumption)).trans (by assumption)) (hg : On all L g = true := by rfl) (hd : Nat.blt d N = true := by rfl) : OW C md all (⟨some d, .load t x, ty, pos, aft, g⟩ :: rest) K N L h Q := ow_loadA hl k ht hx hg hd
end

/-- All that is plain: loads of one's own too, comparisons that what is known decides, the ends of regions. -/
theorem go {P R : Prop} (k : R) (h : Boxed R → P := by
 intro k; (repeat (first
  | refine ow_move ?_ | refine ow_assign ?_ | refine ow_field ?_ | refine wk_seq ?_ | refine wk_region ?_ | refine ow_nil ?_ | refine dn_seq ?_ | refine dn_block ?_ | refine ow_extract ?_ | refine ow_nilCheck ?_ | refine ow_len ?_ | refine ow_lenS ?_ | refine ow_conv ?_ | refine ow_func ?_ | refine ow_not ?_ | refine ow_pickT ?_ | refine ow_pickF ?_ | refine ow_off ?_ | refine wk_block ?_ | refine wk_skip ?_ | refine wk_true ?_ | refine wk_false ?_ | refine wk_exit ?_ | refine dx_seq ?_ | refine dx_loop ?_ | refine dx_here ?_ | refine dx_on ?_ | refine wk_ret ?_ | refine dr_seq ?_ | refine dr_block ?_ | refine dr_loop ?_ | refine wk_scope ?_
  | refine st_load (i := 0) (by assumption) ?_ | refine st_load (i := 1) (by assumption) ?_ | refine st_load (i := 2) (by assumption) ?_ | refine st_load (i := 3) (by assumption) ?_ | refine st_load (i := 4) (by assumption) ?_ | refine st_load (i := 5) (by assumption) ?_
  | refine st_loadA (i := 0) (by assumption) ?_ | refine st_loadA (i := 1) (by assumption) ?_ | refine st_loadA (i := 2) (by assumption) ?_ | refine st_loadA (i := 3) (by assumption) ?_ | refine st_loadA (i := 4) (by assumption) ?_ | refine st_loadA (i := 5) (by assumption) ?_
  | refine ow_indexX ?_ | refine ow_loadX ?_ | refine ow_loadAX ?_
  | refine ow_build ?_
  | refine ow_cmp (hv := lss_t (by omega)) ?_ | refine ow_cmp (hv := lss_f (by omega)) ?_ | refine ow_cmp (hv := leq_t (by omega)) ?_ | refine ow_cmp (hv := leq_f (by omega)) ?_ | refine ow_cmp (hv := gtr_t (by omega)) ?_ | refine ow_cmp (hv := gtr_f (by omega)) ?_ | refine ow_cmp (hv := geq_t (by omega)) ?_ | refine ow_cmp (hv := geq_f (by omega)) ?_ | refine ow_cmp (hv := eql_t (by omega)) ?_ | refine ow_cmp (hv := eql_f (by omega)) ?_ | refine ow_cmp (hv := neq_t (by omega)) ?_ | refine ow_cmp (hv := neq_f (by omega)) ?_
  | refine ow_eq (v := .bool true) ?_ | refine ow_eq (v := .bool false) ?_
  | refine ow_int (hv := add_one (by omega)) ?_ | refine ow_int (hv := add_nat (by omega)) ?_
  | (refine ow_end ?_ ?_; focus (refine reads_quiet ?_; (repeat (first | exact trivial | refine ⟨rfl, rfl, ?_⟩ | refine ⟨rfl, ?_⟩)); done)))); exact k.out) : P := h ⟨k⟩

/-- A store to one's own: the place is found. -/
theorem st_put {C : Ctx} {md : Option (List KD)} {all rest : List Oper} {K : List Fr} {N : Nat} {L : List (Nat × Value)} {h : H} {Q : Out → Env → H → Prop} {ty : TypeId} {pos : String} {aft : Array Edge} {g : Option (Nat × Bool)} {h0 : H} {S : Nat → Prop} {As : List Asn} {dd : Option Nat} {t : TypeId} {p x : Operand} {b o i n : Nat} {cs cs' : List Value} {z : Nat} {v : Value} {vs : List Value} (s : St h0 S h As) (k : ∀ h1, St h0 S h1 (setL As i (blk b (.cells cs' z))) → OW C (put md (.wrote h)) all rest K N (putL dd undef L) h1 Q) (ht : C.size t = some n := by rfl) (hp : lookO L p = some (.pointer (some ⟨b, o, none⟩)) := by rfl) (hx : lookO L x = some v := by rfl) (hvs : v.cells.toList = vs := by rfl) (hn : vs.length = n := by rfl) (ho : allB oneCell vs = true := by rfl) (hi : nth As i = some (blk b (.cells cs z)) := by (first | exact (rfl : nth _ 0 = _) | exact (rfl : nth _ 1 = _) | exact (rfl : nth _ 2 = _) | exact (rfl : nth _ 3 = _) | exact (rfl : nth _ 4 = _) | exact (rfl : nth _ 5 = _))) (hw : overAt o vs cs = some cs' := by rfl) (hg : On all L g = true := by rfl) (hd : dstOk N dd = true := by rfl) : OW C md all (⟨dd, .store t p x, ty, pos, aft, g⟩ :: rest) K N L h Q :=
  st_store s k ht hp hx hvs hn ho hi hw hg hd
end Go.Mir
namespace Go.Mir
/-- The end of a region whose order is open: each read is looked at again. -/
theorem goE {C : Ctx} {acc : List KD} {md : Option (List KD)} {all : List Oper} {K : List Fr} {N : Nat} {L : List (Nat × Value)} {h : H} {Q : Out → Env → H → Prop} (k : DN C .normal K N L h Q) (hm : md = some acc := by rfl) (hr : ReadsK C N all acc.reverse h := by
 refine reads_gen rfl ?_
 repeat' (first
  | exact trivial
  | refine ⟨rfl, ?_, ?_⟩
  | exact AllW.bnd rfl (.inl rfl) rfl
  | refine AllW.skip rfl ?_
  | refine AllW.go rfl (.inl rfl) ?_
  | exact Or.inl rfl
  | exact AllW.bnd rfl (at_load rfl rfl ((St.load (by assumption) (by assumption)).trans (by assumption))) rfl
  | refine AllW.go rfl (at_load rfl rfl ((St.load (by assumption) (by assumption)).trans (by assumption))) ?_
  | exact at_load rfl rfl ((St.load (by assumption) (by assumption)).trans (by assumption))
  | exact AllW.bnd rfl (at_loadA rfl rfl ((St.read (by assumption) (by assumption)).trans (by assumption))) rfl
  | refine AllW.go rfl (at_loadA rfl rfl ((St.read (by assumption) (by assumption)).trans (by assumption))) ?_
  | exact at_loadA rfl rfl ((St.read (by assumption) (by assumption)).trans (by assumption))
  | exact AllW.bnd rfl (at_load rfl rfl (loadOf (St.get (by assumption) 0 rfl) rfl)) rfl
  | exact AllW.bnd rfl (at_load rfl rfl (loadOf (St.get (by assumption) 1 rfl) rfl)) rfl
  | exact AllW.bnd rfl (at_load rfl rfl (loadOf (St.get (by assumption) 2 rfl) rfl)) rfl
  | exact AllW.bnd rfl (at_load rfl rfl (loadOf (St.get (by assumption) 3 rfl) rfl)) rfl
  | exact AllW.bnd rfl (at_load rfl rfl (loadOf (St.get (by assumption) 4 rfl) rfl)) rfl
  | refine AllW.go rfl (at_load rfl rfl (loadOf (St.get (by assumption) 4 rfl) rfl)) ?_
  | exact at_load rfl rfl (loadOf (St.get (by assumption) 4 rfl) rfl)
  | exact AllW.bnd rfl (at_load rfl rfl (loadOf (St.get (by assumption) 5 rfl) rfl)) rfl
  | refine AllW.go rfl (at_load rfl rfl (loadOf (St.get (by assumption) 5 rfl) rfl)) ?_
  | exact at_load rfl rfl (loadOf (St.get (by assumption) 5 rfl) rfl)
  | exact AllW.bnd rfl (at_load rfl rfl (loadOf (St.get (by assumption) 6 rfl) rfl)) rfl
  | refine AllW.go rfl (at_load rfl rfl (loadOf (St.get (by assumption) 6 rfl) rfl)) ?_
  | exact at_load rfl rfl (loadOf (St.get (by assumption) 6 rfl) rfl)
  | exact AllW.bnd rfl (at_loadA rfl rfl (readOf (St.get (by assumption) 0 rfl) rfl)) rfl
  | exact AllW.bnd rfl (at_loadA rfl rfl (readOf (St.get (by assumption) 1 rfl) rfl)) rfl
  | exact AllW.bnd rfl (at_loadA rfl rfl (readOf (St.get (by assumption) 2 rfl) rfl)) rfl
  | exact AllW.bnd rfl (at_loadA rfl rfl (readOf (St.get (by assumption) 3 rfl) rfl)) rfl
  | exact AllW.bnd rfl (at_loadA rfl rfl (readOf (St.get (by assumption) 4 rfl) rfl)) rfl
  | refine AllW.go rfl (at_loadA rfl rfl (readOf (St.get (by assumption) 4 rfl) rfl)) ?_
  | exact at_loadA rfl rfl (readOf (St.get (by assumption) 4 rfl) rfl)
  | exact AllW.bnd rfl (at_loadA rfl rfl (readOf (St.get (by assumption) 5 rfl) rfl)) rfl
  | refine AllW.go rfl (at_loadA rfl rfl (readOf (St.get (by assumption) 5 rfl) rfl)) ?_
  | exact at_loadA rfl rfl (readOf (St.get (by assumption) 5 rfl) rfl)
  | exact AllW.bnd rfl (at_loadA rfl rfl (readOf (St.get (by assumption) 6 rfl) rfl)) rfl
  | refine AllW.go rfl (at_loadA rfl rfl (readOf (St.get (by assumption) 6 rfl) rfl)) ?_
  | exact at_loadA rfl rfl (readOf (St.get (by assumption) 6 rfl) rfl)
  | refine AllW.go rfl (at_load rfl rfl (loadOf (St.get (by assumption) 0 rfl) rfl)) ?_
  | refine AllW.go rfl (at_load rfl rfl (loadOf (St.get (by assumption) 1 rfl) rfl)) ?_
  | refine AllW.go rfl (at_load rfl rfl (loadOf (St.get (by assumption) 2 rfl) rfl)) ?_
  | refine AllW.go rfl (at_load rfl rfl (loadOf (St.get (by assumption) 3 rfl) rfl)) ?_
  | refine AllW.go rfl (at_loadA rfl rfl (readOf (St.get (by assumption) 0 rfl) rfl)) ?_
  | refine AllW.go rfl (at_loadA rfl rfl (readOf (St.get (by assumption) 1 rfl) rfl)) ?_
  | refine AllW.go rfl (at_loadA rfl rfl (readOf (St.get (by assumption) 2 rfl) rfl)) ?_
  | refine AllW.go rfl (at_loadA rfl rfl (readOf (St.get (by assumption) 3 rfl) rfl)) ?_
  | exact at_load rfl rfl (loadOf (St.get (by assumption) 0 rfl) rfl)
  | exact at_load rfl rfl (loadOf (St.get (by assumption) 1 rfl) rfl)
  | exact at_load rfl rfl (loadOf (St.get (by assumption) 2 rfl) rfl)
  | exact at_load rfl rfl (loadOf (St.get (by assumption) 3 rfl) rfl)
  | exact at_loadA rfl rfl (readOf (St.get (by assumption) 0 rfl) rfl)
  | exact at_loadA rfl rfl (readOf (St.get (by assumption) 1 rfl) rfl)
  | exact at_loadA rfl rfl (readOf (St.get (by assumption) 2 rfl) rfl)
  | exact at_loadA rfl rfl (readOf (St.get (by assumption) 3 rfl) rfl))) : OW C md all [] K N L h Q :=
  ow_end hr k hm
end Go.Mir

/- Slices whose cap is known, cut behind. -/
namespace Go.Mir
section
variable {α : Type} {h : H} {S : Nat → Prop} {w : Nat} {R : α → List Value → Prop} {xs : List α}

theorem SlK.to {h' : H} {S' : Nat → Prop} {R' : α → List Value → Prop} {v : Value} (q : SlK h S w R v xs) (hs : ∀ a, S a → S' a ∧ h'.get a = h.get a) (hr : ∀ x cs, R x cs → R' x cs) : SlK h' S' w R' v xs := ⟨q.1.to hs hr, q.2⟩
theorem SlK.gr {h' : H} {S' : Nat → Prop} {v : Value} (q : SlK h S w R v xs) (g : Gr S h S' h') : SlK h' S' w R v xs := q.to g.2 fun _ _ q => q

theorem Bs.ofK {v : Value} {bs : List UInt8} (q : SlK h S 1 RByte v bs) : Bs h S v bs := by
  obtain ⟨q1, a, n, c, rfl, h1, h2⟩ := q
  obtain ⟨_, _, _, e, h3, _⟩ := q1.inv
  simp only [Value.slice.injEq] at e
  obtain ⟨rfl, rfl, rfl⟩ := e
  subst h3
  exact ⟨q1, a, c, rfl, h1, .inl h2⟩

theorem SlK.take {a : Option Addr} {n c m : Nat} (q : SlK h S w R (.slice a n c) xs) (hm : m ≤ n) : SlK h S w R (.slice a m c) (xs.take m) := by
  obtain ⟨⟨a', n', c', e, h1, h2, h3, h4⟩, a2, n2, c2, e2, h5, h6⟩ := q
  simp only [Value.slice.injEq] at e e2
  obtain ⟨rfl, rfl, rfl⟩ := e
  obtain ⟨rfl, rfl, rfl⟩ := e2
  refine ⟨⟨_, _, _, rfl, by rw [List.length_take]; omega, h2, by omega, ?_⟩, _, _, _, rfl, by omega, h6⟩
  cases a with
  | none => simp only at h4 ⊢; omega
  | some a =>
    simp only at h4 ⊢
    rcases h4 with h4 | ⟨b, o, rfl, e2, e3⟩
    · exact .inl (by omega)
    · refine .inr ⟨b, o, rfl, e2, fun i x hx => e3 i x ?_⟩
      rw [List.getElem?_take] at hx
      split at hx
      · exact hx
      · cases hx
end
section
variable {C : Ctx} {md : Option (List KD)} {all rest : List Oper} {K : List Fr} {N : Nat} {L : List (Nat × Value)} {h : H} {Q : Out → Env → H → Prop} {d : Nat} {ty : TypeId} {pos : String} {aft : Array Edge} {g : Option (Nat × Bool)} {h0 : H} {S : Nat → Prop} {As : List Asn}

theorem nble_loose {c : Nat} (h : c < LOOSE) : Nat.ble LOOSE c = false := nble_f h

/-- A slice cut behind, whose cap is known. -/
theorem ow_cut {t : TypeId} {x : Operand} {hi : Option Operand} {a : Option Addr} {n c m w : Nat} (hc : n ≤ c) (hlt : c < LOOSE) (hm : m ≤ n) (hw : 1 ≤ w) (k : OW C (put md (.read h L (.slice a m c))) all rest K N ((d, .slice a m c) :: L) h Q)
    (ht : elemSize C t = some w := by rfl) (hx : lookO L x = some (.slice a n c) := by rfl) (hhi : optK L n hi = some m := by rfl) (hg : On all L g = true := by rfl) (hd : Nat.blt d N = true := by rfl) : OW C md all (⟨some d, .slice t x none hi none, ty, pos, aft, g⟩ :: rest) K N L h Q := by
  refine ow_read hg hd rfl rfl (fun e he => ?_) k
  unfold elemSize at ht
  split at ht
  · rename_i el hu
    simp only [calmF, cSlice, hu, he.eval hx, ht, H.capOf, nble_loose hlt, cond_false, show optNat e.eval c none = some c from rfl, optK_eq he hhi, show optNat e.eval 0 none = some 0 from rfl, Option.isSome_none, Nat.ble_eq_true_of_le (Nat.le_refl c), Nat.ble_eq_true_of_le (show m ≤ c by omega), Nat.ble_eq_true_of_le (Nat.zero_le m), Nat.ble_eq_true_of_le hw, Option.isNone_none, Bool.true_or, Bool.and_self, cond_true, sliceV, Nat.sub_zero, Nat.zero_mul]
    cases a with
    | none => simp [pv]
    | some a =>
      have : a.add 0 = a := by unfold Addr.add; simp
      simp [pv, this]
  · cases ht
end
end Go.Mir

/- Slices of any kind as rows; a slice behind a row that grows. -/
namespace Go.Mir

theorem takeN_add {α : Type} {c a b : List α} {o m k : Nat} (h1 : takeN m (dropN o c) = some a) (h2 : takeN k (dropN (o + m) c) = some b) : takeN (m + k) (dropN o c) = some (a ++ b) := by
  obtain ⟨l1, e1⟩ := takeN_some h1
  obtain ⟨l2, e2⟩ := takeN_some h2
  rw [dropN_eq] at l1 l2 e1 e2 ⊢
  rw [List.length_drop] at l1 l2
  rw [takeN_eq, if_pos (by rw [List.length_drop]; omega), e1, e2, ← List.drop_drop, List.take_add]

/-- Cells of a slice, all of them. -/
theorem sl_rows {α : Type} {h : H} {S : Nat → Prop} {w : Nat} {R : α → List Value → Prop} {v : Value} {xs : List α} (hone : ∀ x cs, R x cs → allB oneCell cs = true) (q : Sl h S w R v xs) :
    ∃ ys, firstCells h w xs.length v = some ys ∧ Go.Mir.lenOf v = some xs.length ∧ allB oneCell ys = true ∧ Rows w R ys xs := by
  obtain ⟨a, n, c, rfl, hn, h1, h2, h3⟩ := q
  subst hn
  have nil : xs = [] → firstCells h w xs.length (.slice a xs.length c) = some [] := fun e => by subst e; cases a <;> rfl
  have nilR : xs = [] → Rows w R [] xs := fun e => by subst e; exact Rows.nil
  cases a with
  | none =>
    have : xs = [] := List.eq_nil_of_length_eq_zero h3.1
    exact ⟨[], nil this, rfl, rfl, nilR this⟩
  | some a =>
    rcases h3 with h3 | ⟨b, o, rfl, _, hr⟩
    · have : xs = [] := List.eq_nil_of_length_eq_zero h3
      exact ⟨[], nil this, rfl, rfl, nilR this⟩
    · by_cases h0 : xs.length = 0
      · have : xs = [] := List.eq_nil_of_length_eq_zero h0
        exact ⟨[], nil this, rfl, rfl, nilR this⟩
      · cases hc : h.cells? b with
        | none =>
          obtain ⟨cs, _, _, q⟩ := hr 0 _ (List.getElem?_eq_getElem (by omega))
          unfold H.read at q; simp [hc] at q
        | some c0 =>
          have key : ∀ (l : List α) (o : Nat), (∀ i x, l[i]? = some x → ∃ cs, cs.length = w ∧ R x cs ∧ takeN w (dropN (o + i * w) c0) = some cs) → l ≠ [] → ∃ ys, takeN (l.length * w) (dropN o c0) = some ys ∧ allB oneCell ys = true ∧ Rows w R ys l := by
            intro l
            induction l with
            | nil => intro _ _ q; exact absurd rfl q
            | cons x l ih =>
              intro o f _
              obtain ⟨cs, q1, q2, q3⟩ := f 0 x rfl
              rw [Nat.zero_mul, Nat.add_zero] at q3
              have one := hone x cs q2
              by_cases hl : l = []
              · subst hl
                refine ⟨cs, by simpa using q3, one, ?_⟩
                have := (Rows.nil (w := w) (R := R)).snoc (x := x) q1 q2
                simpa using this
              · obtain ⟨ys, z1, z2, z3⟩ := ih (o + w) (fun i y hy => by
                  obtain ⟨cs', p1, p2, p3⟩ := f (i + 1) y hy
                  exact ⟨cs', p1, p2, by rw [← p3]; congr 2; rw [Nat.add_mul]; omega⟩) hl
                refine ⟨cs ++ ys, ?_, ?_, ?_⟩
                · have := takeN_add q3 z1
                  rw [List.length_cons, Nat.add_mul, Nat.one_mul, Nat.add_comm]; exact this
                · have app : ∀ a b : List Value, allB oneCell a = true → allB oneCell b = true → allB oneCell (a ++ b) = true := by
                    intro a b
                    induction a with
                    | nil => intro _ q; exact q
                    | cons v a ih =>
                      intro p q
                      simp only [List.cons_append, allB] at p ⊢
                      cases hv : oneCell v with
                      | false => rw [hv] at p; cases p
                      | true => rw [hv] at p; exact ih p q
                  exact app _ _ one z2
                · refine ⟨by rw [List.length_append, q1, z3.1, List.length_cons, Nat.add_mul]; omega, fun i y hy => ?_⟩
                  cases i with
                  | zero =>
                    simp only [List.getElem?_cons_zero, Option.some.injEq] at hy
                    subst hy
                    refine ⟨cs, q1, q2, ?_⟩
                    rw [Nat.zero_mul]
                    show takeN w (cs ++ ys) = some cs
                    have := takeN_append w cs ys cs (by rw [← q1]; exact takeN_all cs)
                    exact this
                  | succ i =>
                    simp only [List.getElem?_cons_succ] at hy
                    obtain ⟨c', p1, p2, p3⟩ := z3.2 i y hy
                    refine ⟨c', p1, p2, ?_⟩
                    rw [← p3, dropN_eq, dropN_eq]
                    congr 1
                    rw [show (i + 1) * w = cs.length + i * w by rw [Nat.add_mul]; omega, List.drop_append]
                    simp
          have hxs : xs ≠ [] := fun e => h0 (by rw [e]; rfl)
          obtain ⟨ys, z1, z2, z3⟩ := key xs o (fun i x hx => by
            obtain ⟨cs, p1, p2, p3⟩ := hr i x hx
            unfold H.read at p3
            simp only [hc] at p3
            exact ⟨cs, p1, p2, p3⟩) hxs
          refine ⟨ys, ?_, rfl, z2, z3⟩
          simp only [firstCells]
          rw [nbeq_f h0, cond_false, Nat.ble_eq_true_of_le h1, cond_true]
          unfold H.read
          simp only [hc]
          exact z1
end Go.Mir

/- How much scripts have. -/
namespace Go.Mir
def nAttr (a : PAttr) : Nat := 1 + a.v.s.size
def nChg (a : PChg) : Nat := 1 + a.v.s.size
def nOp (o : POp) : Nat := 1 + o.runes.length + (o.set.map nAttr).sum + (o.patch.map nChg).sum
def nCmd (c : PCmd) : Nat := (c.ops.map nOp).sum + c.bytes.length + (c.patch.map nChg).sum
def nScr (s : PScr) : Nat := s.keys.length + s.cmds.length + (s.cmds.map nCmd).sum
end Go.Mir

/- How long the forms of scripts are; one script alone has a form. -/
namespace Go.Mir
theorem flat_inj {α : Type} {ok : α → Prop} {w : α → List UInt8} (h : PC ok w) (hne : ∀ x, w x ≠ []) : ∀ (l m : List α), (∀ x ∈ l, ok x) → (∀ x ∈ m, ok x) → l.flatMap w = m.flatMap w → l = m
  | [], [], _, _, _ => rfl
  | [], y :: m, _, _, e => by
    simp only [List.flatMap_nil, List.flatMap_cons] at e
    exact absurd (List.append_eq_nil_iff.1 e.symm).1 (hne y)
  | x :: l, [], _, _, e => by
    simp only [List.flatMap_nil, List.flatMap_cons] at e
    exact absurd (List.append_eq_nil_iff.1 e).1 (hne x)
  | x :: l, y :: m, hx, hy, e => by
    simp only [List.flatMap_cons] at e
    obtain ⟨e1, e2⟩ := h x y _ _ (hx x (by simp)) (hy y (by simp)) e
    rw [e1, flat_inj h hne l m (fun z hz => hx z (List.mem_cons_of_mem _ hz)) (fun z hz => hy z (List.mem_cons_of_mem _ hz)) e2]
theorem wScr_inj {s t : PScr} (hs : okS s) (ht : okS t) (e : wScr s = wScr t) : s = t := by
  unfold wScr at e
  obtain ⟨a1, e⟩ := wL_pc wKey_pc _ _ _ _ hs.1.1 ht.1.1 e
  obtain ⟨a2, e⟩ := wI_pc _ _ _ _ trivial trivial e
  obtain ⟨a3, e⟩ := wI_pc _ _ _ _ trivial trivial e
  have a4 := flat_inj wCmd_pc (fun c q => wCmd_ne c [] (by rw [q]; rfl)) _ _ (fun x hx => ⟨hs.1.2.2.2 x hx, hs.2 x hx⟩) (fun x hx => ⟨ht.1.2.2.2 x hx, ht.2 x hx⟩) e
  obtain ⟨_, _, _, _⟩ := s
  obtain ⟨_, _, _, _⟩ := t
  simp only at a1 a2 a3 a4
  rw [a1, a2, a3, a4]

/-- The form is not longer than so. -/
theorem form_le (n : Nat) (h : n < 2 ^ 64) : (form n).length ≤ 10 := form_len64 h
theorem sum_flat {α : Type} {w : α → List UInt8} {f : α → Nat} {c : Nat} : ∀ l : List α, (∀ x ∈ l, (w x).length ≤ c * f x) → (l.flatMap w).length ≤ c * (l.map f).sum
  | [], _ => by simp
  | x :: l, h => by
    have h1 := h x (by simp)
    have h2 := sum_flat l fun y hy => h y (List.mem_cons_of_mem _ hy)
    simp only [List.flatMap_cons, List.length_append, List.map_cons, List.sum_cons, Nat.mul_add]
    omega
theorem wI_le {n : Int} (h : i64ok n) : (wI n).length ≤ 10 := form_le _ (zig_lt h)
theorem wU8_le {n : Int} (h : u8ok n) : (wU n).length ≤ 10 := form_le _ (by unfold u8ok at h; omega)
theorem wU64_le {n : Int} (h : u64ok n) : (wU n).length ≤ 10 := form_le _ (by unfold u64ok at h; omega)
theorem wF_le (b : Bool) : (wF b).length ≤ 10 := form_le _ (by cases b <;> decide)
theorem wVal_le {v : PVal} (h : v.okR) (hs : v.s.size < 2 ^ 64) : (wVal v).length ≤ 40 + v.s.size := by
  unfold wVal wB
  have h1 := wU8_le h.1
  have h2 := wI_le h.2.1
  have h3 := wU64_le h.2.2
  have h4 := form_le v.s.data.toList.length (by exact hs)
  have h5 : v.s.data.toList.length = v.s.size := rfl
  simp only [List.length_append]
  omega

theorem sum_le_of {α : Type} {f g : α → Nat} : ∀ l : List α, (∀ x ∈ l, f x ≤ g x) → (l.map f).sum ≤ (l.map g).sum
  | [], _ => Nat.le_refl _
  | x :: l, h => by
    have h1 := h x (by simp)
    have h2 := sum_le_of l fun y hy => h y (List.mem_cons_of_mem _ hy)
    simp only [List.map_cons, List.sum_cons]; omega
theorem mem_sum {α : Type} {f : α → Nat} {l : List α} {x : α} (h : x ∈ l) : f x ≤ (l.map f).sum := by
  induction l with
  | nil => cases h
  | cons y l ih =>
    simp only [List.map_cons, List.sum_cons]
    rcases List.mem_cons.1 h with rfl | h
    · omega
    · have := ih h; omega
theorem wAttr_le {a : PAttr} (h : a.okR) (hs : nAttr a < 2 ^ 64) : (wAttr a).length ≤ 60 * nAttr a := by
  unfold wAttr
  unfold nAttr at hs ⊢
  have h1 := wI_le h.1
  have h2 := wVal_le h.2 (by omega)
  simp only [List.length_append]
  omega
theorem wChg_le {a : PChg} (h : a.okR) (hs : nChg a < 2 ^ 64) : (wChg a).length ≤ 60 * nChg a := by
  unfold wChg
  unfold nChg at hs ⊢
  have h1 := wI_le h.1
  have h2 := wVal_le h.2 (by omega)
  have h3 := wF_le a.gone
  simp only [List.length_append]
  omega
theorem wL_le {α : Type} {w : α → List UInt8} {f : α → Nat} {c : Nat} {l : List α} (hl : l.length < 2 ^ 64) (h : ∀ x ∈ l, (w x).length ≤ c * f x) : (wL w l).length ≤ 10 + c * (l.map f).sum := by
  unfold wL
  have h1 := form_le l.length hl
  have h2 := sum_flat (f := f) (c := c) l h
  simp only [List.length_append]
  omega
theorem len_le_sum {α : Type} {f : α → Nat} (h : ∀ x, 1 ≤ f x) (l : List α) : l.length ≤ (l.map f).sum := by
  have := sum_le_of (f := fun _ => 1) (g := f) l fun x _ => h x
  rw [show (l.map fun _ => 1).sum = l.length by induction l with | nil => rfl | cons a l ih => simp only [List.map_cons, List.sum_cons, List.length_cons]; have := ih (by have := sum_le_of (f := fun _ => 1) (g := f) l fun x _ => h x; exact this); omega] at this
  exact this
theorem wOp_le {o : POp} (h : o.okR) (hs : nOp o < 2 ^ 40) : (wOp o).length ≤ 100 * nOp o := by
  have hs0 := hs
  unfold nOp at hs
  have l1 := len_le_sum (f := nAttr) (fun x => by unfold nAttr; omega) o.set
  have l2 := len_le_sum (f := nChg) (fun x => by unfold nChg; omega) o.patch
  have h1 := wU8_le h.1
  have h2 := wI_le h.2.1
  have h3 := wL_le (w := wI) (f := fun _ => 1) (c := 10) (l := o.runes) (by omega) fun x hx => by have := wI_le (n := x) (by have := h.2.2.1 x hx; unfold i32ok at this; unfold i64ok; omega); omega
  have h4 := wL_le (w := wAttr) (f := nAttr) (c := 60) (l := o.set) (by omega) fun x hx => wAttr_le (h.2.2.2.1 x hx) (by have := mem_sum (f := nAttr) hx; omega)
  have h5 := wL_le (w := wChg) (f := nChg) (c := 60) (l := o.patch) (by omega) fun x hx => wChg_le (h.2.2.2.2 x hx) (by have := mem_sum (f := nChg) hx; omega)
  have h6 : (o.runes.map fun _ => 1).sum = o.runes.length := by induction o.runes with | nil => rfl | cons a l ih => simp only [List.map_cons, List.sum_cons, ih, List.length_cons]; omega
  unfold wOp nOp
  simp only [List.length_append]
  omega
theorem fields_few {k : Int} : (fieldsOf k).length ≤ 4 := by
  have h : ∀ l ∈ forms, l.length ≤ 4 := by decide
  exact h _ (fields_forms k)
theorem wField_le {c : PCmd} (h : c.okR) (hs : nCmd c < 2 ^ 40) (f : UInt8) : (wField c f).length ≤ 20 + 100 * nCmd c := by
  have hs0 := hs
  unfold nCmd at hs
  have l1 := len_le_sum (f := nOp) (fun x => by unfold nOp; omega) c.ops
  have l2 := len_le_sum (f := nChg) (fun x => by unfold nChg; omega) c.patch
  have h1 := wI_le h.2.1
  have h2 := wI_le h.2.2.1
  have h3 := wI_le h.2.2.2.1
  have h4 := wI_le h.2.2.2.2.1
  have h5 := wL_le (w := wOp) (f := nOp) (c := 100) (l := c.ops) (by omega) fun x hx => wOp_le (h.2.2.2.2.2.1 x hx) (by have := mem_sum (f := nOp) hx; omega)
  have h6 := wL_le (w := wChg) (f := nChg) (c := 60) (l := c.patch) (by omega) fun x hx => wChg_le (h.2.2.2.2.2.2 x hx) (by have := mem_sum (f := nChg) hx; omega)
  have h7 := form_le c.bytes.length (by omega)
  unfold wField wB nCmd
  repeat' split
  all_goals (try simp only [List.length_append, List.length_nil])
  all_goals omega
theorem wCmd_le {c : PCmd} (h : c.okR) (hs : nCmd c < 2 ^ 40) : (wCmd c).length ≤ 410 * (1 + nCmd c) := by
  have h1 := wU8_le h.1
  have h2 := sum_flat (w := wField c) (f := fun _ => 1) (c := 20 + 100 * nCmd c) (fieldsOf c.kind) fun x _ => by have := wField_le h hs x; omega
  have h3 := fields_few (k := c.kind)
  have h4 : ((fieldsOf c.kind).map fun _ => 1).sum = (fieldsOf c.kind).length := by induction fieldsOf c.kind with | nil => rfl | cons a l ih => simp only [List.map_cons, List.sum_cons, ih, List.length_cons]; omega
  rw [h4] at h2
  have h5 := Nat.mul_le_mul_left (20 + 100 * nCmd c) h3
  unfold wCmd
  simp only [List.length_append]
  omega
theorem wScr_le {s : PScr} (h : s.okR) (hs : nScr s < 2 ^ 20) : (wScr s).length ≤ 30 + 410 * nScr s := by
  unfold nScr at hs ⊢
  have h1 := wL_le (w := wKey) (f := fun _ => 1) (c := 60) (l := s.keys) (by omega) fun k hk => by
    have hk := h.1 k hk
    unfold wKey
    have a1 := wI_le hk.1
    have a2 := wU8_le hk.2.1
    have a3 := wI_le hk.2.2
    have a4 := wF_le k.block
    have a5 := wF_le k.aft
    have a6 := wF_le k.bef
    simp only [List.length_append]
    omega
  have h2 := wI_le h.2.1
  have h3 := wI_le h.2.2.1
  have h4 := sum_flat (w := wCmd) (f := fun c => 1 + nCmd c) (c := 410) s.cmds fun c hc => wCmd_le (h.2.2.2 c hc) (by have := mem_sum (f := nCmd) hc; omega)
  have h5 : (s.cmds.map fun c => 1 + nCmd c).sum = s.cmds.length + (s.cmds.map nCmd).sum := by induction s.cmds with | nil => rfl | cons a l ih => simp only [List.map_cons, List.sum_cons, ih, List.length_cons]; omega
  have h6 : (s.keys.map fun _ => 1).sum = s.keys.length := by induction s.keys with | nil => rfl | cons a l ih => simp only [List.map_cons, List.sum_cons, ih, List.length_cons]; omega
  unfold wScr
  simp only [List.length_append]
  omega

/-- The first commands. -/
def firstK (s : PScr) (k : Nat) : PScr := { s with cmds := s.cmds.take k }
theorem firstK_ok {s : PScr} {k : Nat} (h : okS s) : okS (firstK s k) := ⟨⟨h.1.1, h.1.2.1, h.1.2.2.1, fun c hc => h.1.2.2.2 c (List.mem_of_mem_take hc)⟩, fun c hc => h.2 c (List.mem_of_mem_take hc)⟩
theorem firstK_pre {s : PScr} {k : Nat} : ∃ r, wScr s = wScr (firstK s k) ++ r := by
  refine ⟨(s.cmds.drop k).flatMap wCmd, ?_⟩
  unfold wScr firstK
  simp only [List.append_assoc]
  rw [← List.flatMap_append, List.take_append_drop]

end Go.Mir

