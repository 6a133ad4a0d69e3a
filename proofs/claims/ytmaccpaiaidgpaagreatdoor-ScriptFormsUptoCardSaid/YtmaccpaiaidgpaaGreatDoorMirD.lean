/- Laws of the evaluator: more time changes nothing; tables; a quicker form; calls that are known. -/
import Derived.Test.YtmaccpaiaidgpaaGreatDoorMirA
import Derived.Test.YtmaccpaiaidgpaaGreatDoorMirC
/- More time changes nothing. -/
namespace Go.Mir

structure R.Le (r r' : R) : Prop where
  code : ∀ c e h x, r.code c e h = some x → r'.code c e h = some x
  call : ∀ g a h x, r.call g a h = some x → r'.call g a h = some x
  yield : ∀ l a h x, r.yield l a h = some x → r'.yield l a h = some x

section
variable {C : Ctx} {r r' : R} (le : R.Le r r')
 include le

theorem callVal_le {f : Value} {a : List Value} {h : H} {x : Value × H} (e : callVal r f a h = some x) : callVal r' f a h = some x := by
  unfold callVal at e ⊢
  split at e
  · exact le.call _ _ _ _ e
  · exact le.yield _ _ _ _ e
  · cases e

theorem oper_le {h : H} {ρ : Operand → Value} {o : Oper} {x : Value × H} (e : oper C r h ρ o = some x) : oper C r' h ρ o = some x := by
  have e0 : ∀ y, oper0 C r h ρ o = some y → oper0 C r' h ρ o = some y := by
    intro y hy
    unfold oper0 at hy ⊢
    cases hk : kindOf C o.op with
    | calm => rw [hk] at hy; exact hy
    | loud => rw [hk] at hy; exact hy
    | call =>
      rw [hk] at hy
      simp only at hy ⊢
      split at hy
      · exact callVal_le le hy
      · cases hy
  unfold oper at e ⊢
  cases ho : oper0 C r h ρ o with
  | none => rw [ho] at e; cases e
  | some y => rw [ho] at e; rw [e0 y ho]; exact e

theorem opsRun_le (ops : List Oper) : ∀ (rest : List Oper) (e : Env) (h : H) (x : Env × H), opsRun C r ops rest e h = some x → opsRun C r' ops rest e h = some x
  | [], e, h, x, q => q
  | o :: rest, e, h, x, q => by
    simp only [opsRun] at q ⊢
    cases hw : wanted o ops e with
    | false => rw [hw, cond_false] at q; rw [cond_false]; exact opsRun_le ops rest _ _ _ q
    | true =>
      rw [hw, cond_true] at q
      rw [cond_true]
      split at q
      · rename_i v h1 ho
        rw [oper_le le ho]; exact opsRun_le ops rest _ _ _ q
      · cases q

theorem opsTrace_le (ops : List Oper) : ∀ (rest : List Oper) (e : Env) (h : H) (x : Env × H × List Did), opsTrace C r ops rest e h = some x → opsTrace C r' ops rest e h = some x
  | [], e, h, x, q => q
  | o :: rest, e, h, x, q => by
    simp only [opsTrace] at q ⊢
    cases hw : wanted o ops e with
    | false =>
      rw [hw, cond_false] at q
      rw [cond_false]
      split at q
      · rename_i e1 h1 d1 ht
        rw [opsTrace_le ops rest _ _ _ ht]; exact q
      · cases q
    | true =>
      rw [hw, cond_true] at q
      rw [cond_true]
      split at q
      · rename_i v h1 ho
        rw [oper_le le ho]
        simp only at q ⊢
        split at q
        · rename_i e1 h2 d1 ht
          rw [opsTrace_le ops rest _ _ _ ht]; exact q
        · cases q
      · cases q

theorem regionRun_le {ops : List Oper} {d : Bool} {e : Env} {h : H} {x : Env × H} (q : regionRun C r ops d e h = some x) : regionRun C r' ops d e h = some x := by
  unfold regionRun at q ⊢
  cases d with
  | false => exact opsRun_le le ops _ _ _ _ q
  | true =>
    rw [cond_true] at q ⊢
    split at q
    · rename_i e1 h1 d1 ht
      rw [opsTrace_le le ops _ _ _ _ ht]; exact q
    · cases q

theorem rangeRun_le {f : Operand} {ps : List Tmp} {a b : Code} {e : Env} {h : H} {x : Option Code × H} (q : rangeRun r f ps a b e h = some x) : rangeRun r' f ps a b e h = some x := by
  unfold rangeRun at q ⊢
  split at q
  · rename_i v h2 hc
    rw [callVal_le le hc]; exact q
  · cases q

theorem codeRun_le : ∀ (c : Code) (e : Env) (h : H) (x : Out × Env × H), codeRun C r c e h = some x → codeRun C r' c e h = some x
  | .skip, e, h, x, q => by simpa only [codeRun] using q
  | .label _, e, h, x, q => by simpa only [codeRun] using q
  | .region id ops d, e, h, x, q => by
    simp only [codeRun] at q ⊢
    split at q
    · rename_i e1 h1 hr
      rw [regionRun_le le hr]; exact q
    · cases q
  | .seq a b, e, h, x, q => by
    simp only [codeRun] at q ⊢
    cases ha : codeRun C r a e h with
    | none => rw [ha] at q; cases q
    | some y =>
      rw [codeRun_le a e h y ha]
      rw [ha] at q
      obtain ⟨o, e1, h1⟩ := y
      cases o with
      | normal => exact codeRun_le b _ _ _ q
      | _ => exact q
  | .cond c a b, e, h, x, q => by
    simp only [codeRun] at q ⊢
    split at q
    · rename_i t ht
      cases t with
      | true => exact codeRun_le a e h x q
      | false => exact codeRun_le b e h x q
    · cases q
  | .block id b, e, h, x, q => by
    simp only [codeRun] at q ⊢
    cases hb : codeRun C r b e h with
    | none => rw [hb] at q; cases q
    | some y => rw [codeRun_le b e h y hb]; rw [hb] at q; exact q
  | .loop b, e, h, x, q => by
    simp only [codeRun] at q ⊢
    cases hb : codeRun C r b e h with
    | none => rw [hb] at q; cases q
    | some y =>
      rw [codeRun_le b e h y hb]
      rw [hb] at q
      obtain ⟨o, e1, h1⟩ := y
      cases o with
      | normal => exact le.code _ _ _ _ q
      | _ => exact q
  | .scope b, e, h, x, q => by
    simp only [codeRun] at q ⊢
    exact codeRun_le b e h x q
  | .exit _, e, h, x, q => by simpa only [codeRun] using q
  | .ret, e, h, x, q => by simpa only [codeRun] using q
  | .rangeFunc f ps a b, e, h, x, q => by
    simp only [codeRun] at q ⊢
    cases hb : rangeRun r f ps.toList a b e h with
    | none => rw [hb] at q; cases q
    | some y => rw [rangeRun_le le hb]; rw [hb] at q; exact q
  | .goto _, e, h, x, q => by simp [codeRun] at q
  | .refuse _, e, h, x, q => by simp [codeRun] at q

theorem callRun_le {g : FuncId} {a : List Value} {h : H} {x : Value × H} (q : callRun C r g a h = some x) : callRun C r' g a h = some x := by
  unfold callRun at q ⊢
  cases hf : C.fn.get g with
  | none => rw [hf] at q; exact q
  | some fn =>
    rw [hf] at q
    simp only at q ⊢
    cases hb : fn.body with
    | none => rw [hb] at q; cases q
    | some c =>
      rw [hb] at q
      simp only at q ⊢
      cases hc : codeRun C r c (Env.fill ⟨max fn.ntmps a.length, .nil⟩ 0 a) h with
      | none => rw [hc] at q; cases q
      | some y => rw [codeRun_le le c _ _ y hc]; rw [hc] at q; exact q

theorem yieldRun_le {l : Nat} {a : List Value} {h : H} {x : Value × H} (q : yieldRun C r l a h = some x) : yieldRun C r' l a h = some x := by
  unfold yieldRun at q ⊢
  split at q
  · rename_i y hy
    cases hl : Nat.beq a.length y.params.length with
    | false => rw [hl] at q; cases q
    | true =>
      rw [hl, cond_true] at q
      rw [cond_true]
      split at q
      · rename_i e1 h1 hc
        rw [codeRun_le le _ _ _ _ hc]
        simp only at q ⊢
        split at q
        · rename_i x1 hx1
          split at q
          · split at q
            · rename_i o e2 h2 hc2
              rw [codeRun_le le _ _ _ _ hc2]; exact q
            · cases q
          · cases q
        · cases q
      · cases q
  · cases q
end

theorem ev_step (C : Ctx) : ∀ n, R.Le (ev C n) (ev C (n + 1))
  | 0 => ⟨fun _ _ _ _ q => (by cases q), fun _ _ _ _ q => (by cases q), fun _ _ _ _ q => (by cases q)⟩
  | n + 1 => ⟨fun _ _ _ _ q => codeRun_le (ev_step C n) _ _ _ _ q, fun _ _ _ _ q => callRun_le (ev_step C n) q, fun _ _ _ _ q => yieldRun_le (ev_step C n) q⟩

theorem R.Le.refl (r : R) : R.Le r r := ⟨fun _ _ _ _ q => q, fun _ _ _ _ q => q, fun _ _ _ _ q => q⟩
theorem R.Le.trans {a b c : R} (p : R.Le a b) (q : R.Le b c) : R.Le a c := ⟨fun _ _ _ _ x => q.code _ _ _ _ (p.code _ _ _ _ x), fun _ _ _ _ x => q.call _ _ _ _ (p.call _ _ _ _ x), fun _ _ _ _ x => q.yield _ _ _ _ (p.yield _ _ _ _ x)⟩

theorem ev_le (C : Ctx) (n : Nat) : ∀ k, R.Le (ev C n) (ev C (n + k))
  | 0 => R.Le.refl _
  | k + 1 => (ev_le C n k).trans (ev_step C (n + k))

theorem ev_mono (C : Ctx) {n m : Nat} (h : n ≤ m) : R.Le (ev C n) (ev C m) := by
  have := ev_le C n (m - n)
  rwa [Nat.add_sub_cancel' h] at this
end Go.Mir

/- Tables: what holds of each of their entries. -/
namespace Go.Mir

/-- Of each entry (the first stands for the index i, the steps between are s). -/
def AllT {α : Type} (p : Nat → α → Prop) : Nat → Nat → T α → Prop
  | _, _, .nil => True
  | i, s, .node v l r => (∀ a, v = some a → p i a) ∧ AllT p (i + s) (2 * s) l ∧ AllT p (i + 2 * s) (2 * s) r

theorem AllT.nil {α : Type} {p : Nat → α → Prop} {i s : Nat} : AllT p i s .nil := trivial
theorem AllT.some {α : Type} {p : Nat → α → Prop} {i s : Nat} {a : α} {l r : T α} (h : p i a) (hl : AllT p (i + s) (2 * s) l) (hr : AllT p (i + 2 * s) (2 * s) r) : AllT p i s (.node (some a) l r) :=
  ⟨fun b e => by cases e; exact h, hl, hr⟩
theorem AllT.none {α : Type} {p : Nat → α → Prop} {i s : Nat} {l r : T α} (hl : AllT p (i + s) (2 * s) l) (hr : AllT p (i + 2 * s) (2 * s) r) : AllT p i s (.node none l r) :=
  ⟨fun b e => (by cases e), hl, hr⟩

theorem AllT.get {α : Type} {p : Nat → α → Prop} : ∀ (t : T α) (i s k : Nat) (a : α), AllT p i s t → t.get k = .some a → p (i + s * k) a
  | .nil, _, _, _, _, _, h => by simp [T.get_nil] at h
  | .node v l r, i, s, 0, a, h, e => by
    have : v = .some a := by simpa [T.get_node] using e
    simpa using h.1 a this
  | .node v l r, i, s, m + 1, a, h, e => by
    rw [T.get_node] at e; simp only at e
    cases hb : Nat.beq (m % 2) 0 with
    | true =>
      rw [hb, cond_true] at e
      have := AllT.get l (i + s) (2 * s) (m / 2) a h.2.1 e
      have hm := Nat.eq_of_beq_eq_true hb
      have e2 : i + s * (m + 1) = i + s + 2 * s * (m / 2) := by
        have : m = 2 * (m / 2) := by omega
        calc i + s * (m + 1) = i + s * (2 * (m / 2) + 1) := by rw [← this]
          _ = i + s + 2 * s * (m / 2) := by rw [Nat.mul_add, Nat.mul_one, ← Nat.mul_assoc, Nat.mul_comm s 2]; omega
      rw [e2]; exact this
    | false =>
      rw [hb, cond_false] at e
      have := AllT.get r (i + 2 * s) (2 * s) (m / 2) a h.2.2 e
      have hm : m % 2 = 1 := by
        have : m % 2 ≠ 0 := fun hh => by rw [hh] at hb; cases hb
        omega
      have e2 : i + s * (m + 1) = i + 2 * s + 2 * s * (m / 2) := by
        have : m = 2 * (m / 2) + 1 := by omega
        calc i + s * (m + 1) = i + s * (2 * (m / 2) + 1 + 1) := by rw [← this]
          _ = i + 2 * s + 2 * s * (m / 2) := by rw [Nat.mul_add, Nat.mul_add, Nat.mul_one, ← Nat.mul_assoc, Nat.mul_comm s 2]; omega
      rw [e2]; exact this

def allTB {α : Type} (p : α → Bool) : T α → Bool
  | .nil => true
  | .node v l r => (match v with | some a => p a | none => true) && (allTB p l && allTB p r)

theorem allTB_get {α : Type} {p : α → Bool} : ∀ (t : T α) (k : Nat) (a : α), allTB p t = true → t.get k = some a → p a = true
  | .nil, _, _, _, h => by simp [T.get_nil] at h
  | .node v l r, 0, a, h, e => by
    have : v = some a := by simpa [T.get_node] using e
    subst this
    simp only [allTB, Bool.and_eq_true] at h
    exact h.1
  | .node v l r, m + 1, a, h, e => by
    simp only [allTB, Bool.and_eq_true] at h
    rw [T.get_node] at e; simp only at e
    cases hb : Nat.beq (m % 2) 0 with
    | true => rw [hb, cond_true] at e; exact allTB_get l _ a h.2.1 e
    | false => rw [hb, cond_false] at e; exact allTB_get r _ a h.2.2 e

def TyAt (P : Program) (t : Nat) (i : TInfo) : Prop := P.info? t = some i.info ∧ P.underlying t = some i.u
def FnAt (P : Program) (g : Nat) (f : Func) : Prop := P.funcs[g]? = some f
def ExtAt (P : Program) (g : Nat) : Ext → Prop
  | .bits => ∀ (w : World) b, (callFunc g #[.float .f64 b]).run P w = .ok (.value (.int .u64 b)) w
  | .frombits => ∀ (w : World) n, (callFunc g #[.int .u64 n]).run P w = .ok (.value (.float .f64 n.toNat)) w
  | .orc v rom => Gives P g v rom

def litZ (i : TInfo) : Bool := match i.info.zero with | some z => lit z | none => true
noncomputable def okF (C : Ctx) (f : Func) : Bool := !(f.name == "runtime.NumGoroutine") && (match f.body with | some c => okC C c | none => true)

theorem ctxOk {C : Ctx} (h0 : 0 < C.ng) (h1 : AllT (TyAt C.P) 0 1 C.ty) (h2 : AllT (FnAt C.P) 0 1 C.fn) (h3 : AllT (ExtAt C.P) 0 1 C.ext) (h4 : allTB litZ C.ty = true) (h5 : allTB (okF C) C.fn = true) (h6 : C.P.follows .mixedOrders = true) : CtxOk C where
  ty := fun t i e => by have := h1.get _ _ _ _ _ e; simpa [TyAt] using this
  fn := fun g f e => by
    have a := h2.get _ _ _ _ _ e
    have b := allTB_get _ _ _ h5 e
    simp only [okF, Bool.and_eq_true, Bool.not_eq_true'] at b
    refine ⟨by simpa [FnAt] using a, b.1, fun c hc => ?_⟩
    have := b.2
    rw [hc] at this; exact this
  zl := fun t i z e hz => by
    have := allTB_get _ _ _ h4 e
    unfold litZ at this
    rw [hz] at this; exact this
  mixed := h6
  bits := fun g e w b => by have := h3.get _ _ _ _ _ e; simp only [ExtAt, Nat.zero_add, Nat.one_mul] at this; exact this w b
  frombits := fun g e w n => by have := h3.get _ _ _ _ _ e; simp only [ExtAt, Nat.zero_add, Nat.one_mul] at this; exact this w n
  orc := fun g v rom e => ⟨h0, by have := h3.get _ _ _ _ _ e; simp only [ExtAt, Nat.zero_add, Nat.one_mul] at this; exact this⟩
end Go.Mir

/- The same evaluator, with less to copy at each step: each kind of operation, and of code, has an arm that is closed. -/
namespace Go.Mir

noncomputable def outC (h : H) : Option (Value × Option Blk) → Option (Value × H)
  | some (v, none) => some (v, h)
  | some (v, some b) => some (v, h.new b)
  | none => none

def bothSlices : Option TypeDesc → Option TypeDesc → Bool
  | some (.slice _), some (.slice _) => true
  | _, _ => false

noncomputable def builtinF (b : Builtin) (args : Array Operand) (ats : Array TypeId) (C : Ctx) (h : H) (ρ : Operand → Value) : Option (Value × H) :=
  match b with
  | .append => append C h ats.toList (args.toList.map ρ)
  | .copy => lCopy C h ρ args ats
  | .clear => lClear C h ρ args ats
  | .delete => lDelete C h ρ args ats
  | b => outC h (cBuiltin C ρ b args ats)

noncomputable def callF0 (c : Call) (C : Ctx) (r : R) (h : H) (ρ : Operand → Value) : Option (Value × H) :=
  match c.callee with
  | .builtin b => builtinF b c.args c.argTypes C h ρ
  | .value f => callVal r (ρ f) (c.args.toList.map ρ) h
  | .invoke _ _ => none

def makeFuncF (f : Fn) (first captured : Array Operand) (h : H) (ρ : Operand → Value) : Option (Value × H) :=
  match f with
  | .func f => some (.func (.func f) ⟨first.toList.map ρ⟩ ⟨captured.toList.map ρ⟩, h)
  | _ => none

def pickF (c : Value) (a b : Value) (h : H) : Option (Value × H) := match c with | .bool t => some (bif t then a else b, h) | _ => none
def pvF (h : H) : Option Value → Option (Value × H)
  | some v => some (v, h)
  | none => none

noncomputable def oper0F (op : Op) : Ctx → R → H → (Operand → Value) → Option (Value × H) :=
  Op.rec (motive := fun _ => Ctx → R → H → (Operand → Value) → Option (Value × H))
    (fun x _ _ h ρ => some (ρ x, h))
    (fun x _ _ h ρ => some (ρ x, h))
    (fun c a b _ _ h ρ => pickF (ρ c) (ρ a) (ρ b) h)
    (fun t C _ h ρ => outC h (cAlloc C h ρ t))
    (fun _ x _ _ h ρ => some (.pointer (some ⟨h.next, 0, none⟩), h.new (.cells (ρ x).cells.toList 0)))
    (fun t parts C _ h ρ => outC h (cBuild C ρ t parts))
    (fun t len parts C _ h ρ => outC h (cBuildSlice C h ρ t len parts))
    (fun _ _ _ _ _ _ _ _ => none)
    (fun t a C _ h ρ => outC h (cLoad C h ρ t a))
    (fun t a x C _ h ρ => lStore C h ρ t a x)
    (fun _ _ _ _ _ => none)
    (fun _ _ _ _ _ => none)
    (fun x _ _ h ρ => pvF h (notNil (ρ x)))
    (fun op t x y _ C _ h ρ => pvF h (abin C op t x y (ρ x) (ρ y)))
    (fun op _ x C _ h ρ => outC h (cUnOp C ρ op x))
    (fun s d x C _ h ρ => bif bothSlices (C.u s) (C.u d) then lConvert C h ρ s d x else outC h (cConvert C h ρ s d x))
    (fun _ _ _ _ _ _ => none)
    (fun _ _ _ _ _ _ => none)
    (fun f first captured _ _ h ρ => makeFuncF f first captured h ρ)
    (fun _ r _ _ h _ => match r with | none => some (.map (some h.next), h.new (.map [] 0)) | some _ => none)
    (fun _ _ _ _ _ _ => none)
    (fun t l c C _ h ρ => outC h (cMakeSlice C h ρ t l c))
    (fun t x lo hi mx C _ h ρ => outC h (cSlice C h ρ t x lo hi mx))
    (fun t x f C _ h ρ => outC h (cFieldAddr C ρ t x f))
    (fun t x f C _ h ρ => outC h (cField C ρ t x f))
    (fun t x i C _ h ρ => outC h (cIndexAddr C ρ t x i))
    (fun t x i C _ h ρ => outC h (cIndex C ρ t x i))
    (fun t x k ok C _ h ρ => outC h (cLookup C h ρ t x k ok))
    (fun t m k x C _ h ρ => lMapUpdate C h ρ t m k x)
    (fun _ _ _ _ _ _ _ => none)
    (fun _ _ _ _ _ _ _ _ => none)
    (fun t x C _ h ρ => outC h (cRange C h ρ t x))
    (fun it s _ _ h ρ => bif s then lNext h ρ it else none)
    (fun _ _ _ _ _ => none)
    (fun _ _ _ _ _ _ _ _ => none)
    (fun t i _ _ h ρ => outC h (cExtract ρ t i))
    (fun c C r h ρ => callF0 c C r h ρ)
    (fun _ _ _ _ _ => none)
    (fun _ _ _ _ _ => none)
    (fun _ _ _ _ _ => none)
    (fun _ _ _ _ _ _ => none)
    (fun _ _ _ _ _ _ _ => none)
    (fun _ _ _ _ _ _ => none)
    op

theorem oper0F_eq (C : Ctx) (r : R) (h : H) (ρ : Operand → Value) (o : Oper) : oper0F o.op C r h ρ = oper0 C r h ρ o := by
  unfold oper0
  have hcalm : ∀ x : Option (Value × Option Blk), (match x with | some (v, none) => some (v, h) | some (v, some b) => some (v, h.new b) | none => none) = outC h x := fun x => by
    rcases x with _ | ⟨v, _ | b⟩ <;> rfl
  have hpv : ∀ x : Option Value, outC h (pv x) = pvF h x := fun x => by cases x <;> rfl
  cases hop : o.op with
  | convert s d x =>
    simp only [oper0F, kindOf, calmF, loudF, hop]
    cases hs : C.u s with
    | none => simp only [bothSlices, cond_false]; exact (hcalm _).symm
    | some us =>
      cases hd : C.u d with
      | none => simp only [bothSlices, cond_false]; cases us <;> exact (hcalm _).symm
      | some ud => cases us <;> cases ud <;> first | rfl | (simp only [bothSlices, cond_false]; exact (hcalm _).symm)
  | pick c a b =>
    simp only [oper0F, kindOf, calmF, hop, pickF]
    cases ρ c <;> rfl
  | nilCheck x =>
    simp only [oper0F, kindOf, calmF, hop]
    exact (hpv _).symm.trans (hcalm _).symm
  | binOp op t x y z =>
    simp only [oper0F, kindOf, calmF, hop]
    exact (hpv _).symm.trans (hcalm _).symm
  | makeFunc f a b => simp only [oper0F, kindOf, calmF, hop, makeFuncF]; cases f <;> rfl
  | makeMap t r => simp only [oper0F, kindOf, calmF, hop]; cases r <;> rfl
  | next it s => simp only [oper0F, kindOf, loudF, hop]; cases s <;> rfl
  | call c =>
    obtain ⟨callee, args, ats⟩ := c
    simp only [oper0F, kindOf, calmF, loudF, hop, callF0]
    cases callee with
    | builtin b => cases b <;> first | rfl | exact (hcalm _).symm
    | _ => rfl
  | _ => simp only [oper0F, kindOf, calmF, loudF, hop] <;> first | rfl | exact (hcalm _).symm
end Go.Mir

/- The quicker evaluator, and that it is the same. -/
namespace Go.Mir

noncomputable def opsStep (ih : Ctx → R → List Oper → Env → H → Option (Env × H)) (C : Ctx) (r : R) (ops : List Oper) (d : Option Nat) (e : Env) (n : Nat) : Option (Value × H) → Option (Env × H)
  | some (v, h') => bif Nat.ble n h'.next then ih C r ops (e.put d v) h' else none
  | none => none

noncomputable def opsF (rest : List Oper) : Ctx → R → List Oper → Env → H → Option (Env × H) :=
  List.rec (motive := fun _ => Ctx → R → List Oper → Env → H → Option (Env × H))
    (fun _ _ _ e h => some (e, h))
    (fun o _ ih C r ops e h => bif wanted o ops e then opsStep ih C r ops o.dst e h.next (oper0F o.op C r h e.eval) else ih C r ops (e.put o.dst undef) h)
    rest

theorem opsF_eq (C : Ctx) (r : R) (ops : List Oper) : ∀ (rest : List Oper) (e : Env) (h : H), opsF rest C r ops e h = opsRun C r ops rest e h
  | [], e, h => rfl
  | o :: rest, e, h => by
    have h1 : opsF (o :: rest) C r ops e h = bif wanted o ops e then opsStep (opsF rest) C r ops o.dst e h.next (oper0F o.op C r h e.eval) else opsF rest C r ops (e.put o.dst undef) h := rfl
    rw [h1, opsRun, oper0F_eq]
    cases wanted o ops e with
    | false => simp only [cond_false]; exact opsF_eq C r ops rest _ _
    | true =>
      simp only [cond_true, oper]
      cases oper0 C r h e.eval o with
      | none => rfl
      | some p =>
        obtain ⟨v, h'⟩ := p
        simp only [opsStep]
        cases Nat.ble h.next h'.next with
        | false => rfl
        | true => simp only [cond_true]; exact opsF_eq C r ops rest _ _

noncomputable def regionF (C : Ctx) (r : R) (ops : List Oper) (draw : Bool) (e : Env) (h : H) : Option (Env × H) :=
  bif draw then regionRun C r ops true e h else opsF ops C r ops e h

theorem regionF_eq (C : Ctx) (r : R) (ops : List Oper) (draw : Bool) (e : Env) (h : H) : regionF C r ops draw e h = regionRun C r ops draw e h := by
  cases draw with
  | true => rfl
  | false => exact opsF_eq C r ops ops e h

def normalF : Option (Env × H) → Option (Out × Env × H)
  | some (e, h) => some (.normal, e, h)
  | none => none

def seqF (ihb : Ctx → R → Env → H → Option (Out × Env × H)) (C : Ctx) (r : R) : Option (Out × Env × H) → Option (Out × Env × H)
  | some (.normal, e, h) => ihb C r e h
  | x => x

def condF (iha ihb : Ctx → R → Env → H → Option (Out × Env × H)) (C : Ctx) (r : R) (e : Env) (h : H) : Value → Option (Out × Env × H)
  | .bool t => bif t then iha C r e h else ihb C r e h
  | _ => none

def blockF (id : Nat) : Option (Out × Env × H) → Option (Out × Env × H)
  | some (.exit i, e, h) => bif Nat.beq i id then some (.normal, e, h) else some (.exit i, e, h)
  | x => x

def loopF (b : Code) (r : R) : Option (Out × Env × H) → Option (Out × Env × H)
  | some (.normal, e, h) => r.code (.loop b) e h
  | x => x

def rangeF (e : Env) : Option (Option Code × H) → Option (Out × Env × H)
  | some (none, h) => some (.normal, e, h)
  | some (some .ret, h) => some (.ret, e, h)
  | some (some (.exit id), h) => some (.exit id, e, h)
  | _ => none

noncomputable def codeF (c : Code) : Ctx → R → Env → H → Option (Out × Env × H) :=
  Code.rec (motive := fun _ => Ctx → R → Env → H → Option (Out × Env × H))
    (fun _ _ e h => some (.normal, e, h))
    (fun _ ops draw C r e h => normalF (regionF C r ops.toList draw e h))
    (fun _ _ iha ihb C r e h => seqF ihb C r (iha C r e h))
    (fun c _ _ iha ihb C r e h => condF iha ihb C r e h (e.eval c))
    (fun id _ ih C r e h => blockF id (ih C r e h))
    (fun b ih C r e h => loopF b r (ih C r e h))
    (fun f ps a b _ _ _ r e h => rangeF e (rangeRun r f ps.toList a b e h))
    (fun id _ _ e h => some (.exit id, e, h))
    (fun _ ih C r e h => ih C r e h)
    (fun _ _ _ e h => some (.normal, e, h))
    (fun _ _ _ _ _ => none)
    (fun _ _ e h => some (.ret, e, h))
    (fun _ _ _ _ _ => none)
    c

theorem codeF_eq (C : Ctx) (r : R) : ∀ (c : Code) (e : Env) (h : H), codeF c C r e h = codeRun C r c e h
  | .skip, e, h => by rw [codeRun]; rfl
  | .label _, e, h => by rw [codeRun]; rfl
  | .region id ops d, e, h => by
    have : codeF (.region id ops d) C r e h = normalF (regionF C r ops.toList d e h) := rfl
    rw [this, codeRun, regionF_eq]
    rcases regionRun C r ops.toList d e h with _ | ⟨e1, h1⟩ <;> rfl
  | .seq a b, e, h => by
    have : codeF (.seq a b) C r e h = seqF (codeF b) C r (codeF a C r e h) := rfl
    rw [this, codeRun, codeF_eq C r a]
    rcases codeRun C r a e h with _ | ⟨o, e1, h1⟩
    · rfl
    · cases o <;> first | rfl | exact codeF_eq C r b e1 h1
  | .cond c a b, e, h => by
    have : codeF (.cond c a b) C r e h = condF (codeF a) (codeF b) C r e h (e.eval c) := rfl
    rw [this, codeRun]
    cases e.eval c with
    | bool t => cases t <;> simp only [condF, cond_true, cond_false, codeF_eq C r a, codeF_eq C r b]
    | _ => rfl
  | .block id b, e, h => by
    have : codeF (.block id b) C r e h = blockF id (codeF b C r e h) := rfl
    rw [this, codeRun, codeF_eq C r b]
    rcases codeRun C r b e h with _ | ⟨o, e1, h1⟩
    · rfl
    · cases o <;> rfl
  | .loop b, e, h => by
    have : codeF (.loop b) C r e h = loopF b r (codeF b C r e h) := rfl
    rw [this, codeRun, codeF_eq C r b]
    rcases codeRun C r b e h with _ | ⟨o, e1, h1⟩
    · rfl
    · cases o <;> rfl
  | .rangeFunc f ps a b, e, h => by
    have : codeF (.rangeFunc f ps a b) C r e h = rangeF e (rangeRun r f ps.toList a b e h) := rfl
    rw [this, codeRun]
    rcases rangeRun r f ps.toList a b e h with _ | ⟨_ | c, h1⟩
    · rfl
    · rfl
    · cases c <;> rfl
  | .exit id, e, h => by rw [codeRun]; rfl
  | .scope b, e, h => by
    have : codeF (.scope b) C r e h = codeF b C r e h := rfl
    rw [this, codeRun, codeF_eq C r b]
  | .goto _, e, h => by simp only [codeRun]; rfl
  | .ret, e, h => by rw [codeRun]; rfl
  | .refuse _, e, h => by simp only [codeRun]; rfl

noncomputable def backF (C : Ctx) (fn : Func) : Option (Out × Env × H) → Option (Value × H)
  | some (.normal, e, h') | some (.ret, e, h') => (match resultsOf C h' e fn.results.toList with | some vs => some (oneOf vs, h') | none => none)
  | _ => none

noncomputable def extF (C : Ctx) (g : FuncId) (args : List Value) (h : H) : Option (Value × H) :=
  match C.ext.get g, args with
  | some .bits, [.float .f64 b] => some (.int .u64 b, h)
  | some .frombits, [.int .u64 n] => some (.float .f64 n.toNat, h)
  | some (.orc v rom), [] => bif romIs h rom then some (v, h) else none
  | _, _ => none

noncomputable def bodyF (C : Ctx) (r : R) (fn : Func) (args : List Value) (h : H) : Option Code → Option (Value × H)
  | some c => backF C fn (codeF c C r (Env.fill ⟨max fn.ntmps args.length, .nil⟩ 0 args) h)
  | none => none

noncomputable def callF (C : Ctx) (r : R) (g : FuncId) (args : List Value) (h : H) : Option (Value × H) :=
  match C.fn.get g with
  | some fn => bodyF C r fn args h fn.body
  | none => extF C g args h

theorem callF_eq (C : Ctx) (r : R) (g : FuncId) (args : List Value) (h : H) : callF C r g args h = callRun C r g args h := by
  unfold callF callRun
  cases C.fn.get g with
  | none => rfl
  | some fn =>
    simp only
    cases fn.body with
    | none => rfl
    | some c =>
      simp only [bodyF, codeF_eq]
      rcases codeRun C r c (Env.fill ⟨max fn.ntmps args.length, .nil⟩ 0 args) h with _ | ⟨o, e1, h1⟩
      · rfl
      · cases o <;> rfl

noncomputable def evF (C : Ctx) (n : Nat) : R :=
  Nat.rec (motive := fun _ => R) R.none (fun _ r => { code := fun c e h => codeF c C r e h, call := callF C r, yield := yieldRun C r }) n

theorem evF_eq (C : Ctx) : ∀ n, evF C n = ev C n
  | 0 => rfl
  | n + 1 => by
    have : evF C (n + 1) = { code := fun c e h => codeF c C (evF C n) e h, call := callF C (evF C n), yield := yieldRun C (evF C n) } := rfl
    rw [this, ev, evF_eq C n]
    congr
    · funext c e h; exact codeF_eq C _ c e h
    · funext g a h; exact callF_eq C _ g a h
end Go.Mir

/- A call without arguments, of a function that reads no global: what it gives, and that all memory stays. -/
namespace Go.Mir

def jGlob (n : Nat) : J := fun a => if a < n then some ⟨a, 0, 0, 0, 0⟩ else none

theorem rel_glob (C : Ctx) (w : World) : Rel C (jGlob C.ng) ⟨C.ng, .nil⟩ w where
  blk := fun a i b _ h => by simp [H.get, T.get_nil] at h
  inj := fun a a' i i' b b' _ _ h => by simp [H.get, T.get_nil] at h
  lt := fun a b h => by simp [H.get, T.get_nil] at h
  glob := fun g hg => ⟨⟨g, 0, 0, 0, 0⟩, by simp [jGlob, hg], rfl, rfl⟩
  rom := fun a i c _ h => by simp [H.get, T.get_nil] at h

theorem call_alone {C : Ctx} (hc : CtxOk C) {n : Nat} {g : FuncId} {fn : Func} {c : Code} (hg : C.fn.get g = some fn) (hb : fn.body = some c) {v : Value} {h' : H} (e : (ev C n).call g [] ⟨C.ng, .nil⟩ = some (v, h')) (hv : lit v = true) (w : World) :
    Calls C.P g #[] w fun x w' => x = .returned v ∧ w.heap.size ≤ w'.heap.size ∧ (∀ b, b < w.heap.size → w'.heap[b]? = w.heap[b]?) ∧ w'.os = w.os ∧ w'.output = w.output ∧ w'.tape = w.tape := by
  have := ev_call hc hg hb e (rel_glob C w) (by simp) (fun a h1 _ => by have h2 : C.ng ≤ a := h1; simp only [jGlob]; rw [if_neg (by omega)])
  refine Calls.mono this fun x w' ⟨j', e1, ad, _, _⟩ => ?_
  refine ⟨by rw [e1, (lit_ren j' v hv).1], ad.sz, fun b hb => ad.keep b hb ?_, ad.os, ad.out, ad.tape⟩
  rintro ⟨a, i, y, _, h2, _⟩
  simp [H.get, T.get_nil] at h2

/-- As much, of a function that reads the global 0 (of literal cells). -/
def jZero (n k x : Nat) : J := fun a => if a = 0 then some ⟨0, 0, k, 0, x⟩ else if a < n then some ⟨a, 0, 0, 0, 0⟩ else none

theorem rel_zero (C : Ctx) {w : World} {cs : List Value} {c' : Array Value} {el : TypeId} {fz : Nat × Nat} (hw : w.heap[0]? = some (.cells c' el fz)) (hk : ∀ (k : Nat) (v : Value), cs[k]? = some v → c'[k]? = some v) (hl : ∀ v ∈ cs, lit v = true) (hn : 0 < C.ng) : Rel C (jZero C.ng cs.length c'.size) (H.set ⟨C.ng, .nil⟩ 0 (.rom cs)) w where
  blk := fun a i b h1 h2 => by
    rw [H.get_set] at h2
    by_cases e : 0 = a
    · subst e
      rw [if_pos rfl] at h2; cases h2
      simp only [jZero, if_pos] at h1; cases h1
      refine ⟨c', el, fz, hw, rfl, by simp, ?_, fun k v hv => ?_⟩
      · simp only
        cases hz : cs.length with
        | zero => omega
        | succ n =>
          have h3 := hk n (cs[n]'(by omega)) (List.getElem?_eq_getElem _)
          have := (Array.getElem?_eq_some_iff.1 h3).1
          omega
      · have := lit_ren (jZero C.ng cs.length c'.size) v (hl v (List.mem_of_getElem? hv))
        exact ⟨by rw [this.1]; simpa using hk k v hv, this.2⟩
    · rw [if_neg e] at h2; simp [H.get, T.get_nil] at h2
  inj := fun a a' i i' b b' _ _ h3 _ h5 => by
    rw [H.get_set] at h3
    by_cases e : 0 = a
    · rw [if_pos e] at h3; cases h3; cases h5
    · rw [if_neg e] at h3; simp [H.get, T.get_nil] at h3
  lt := fun a b h => by
    rw [H.get_set] at h
    by_cases e : 0 = a
    · subst e; exact hn
    · rw [if_neg e] at h; simp [H.get, T.get_nil] at h
  glob := fun g hg => by
    by_cases e : g = 0
    · subst e; exact ⟨⟨0, 0, cs.length, 0, c'.size⟩, by simp [jZero], rfl, rfl⟩
    · exact ⟨⟨g, 0, 0, 0, 0⟩, by simp [jZero, hg, e], rfl, rfl⟩
  rom := fun a i c _ _ => by
    rintro ⟨a', i', y, _, h2, h3, _⟩
    rw [H.get_set] at h2
    by_cases e : 0 = a'
    · rw [if_pos e] at h2; cases h2; cases h3
    · rw [if_neg e] at h2; simp [H.get, T.get_nil] at h2

theorem call_zero {C : Ctx} (hc : CtxOk C) {n : Nat} {g : FuncId} {fn : Func} {c : Code} (hg : C.fn.get g = some fn) (hb : fn.body = some c) {v : Value} {h' : H} {cs : List Value} (e : (ev C n).call g [] (H.set ⟨C.ng, .nil⟩ 0 (.rom cs)) = some (v, h')) (hv : lit v = true)
    {w : World} {c' : Array Value} {el : TypeId} {fz : Nat × Nat} (hw : w.heap[0]? = some (.cells c' el fz)) (hk : ∀ (k : Nat) (v : Value), cs[k]? = some v → c'[k]? = some v) (hl : ∀ v ∈ cs, lit v = true) (hn : 0 < C.ng) :
    Calls C.P g #[] w fun x w' => x = .returned v ∧ w.heap.size ≤ w'.heap.size ∧ (∀ b, b < w.heap.size → w'.heap[b]? = w.heap[b]?) ∧ w'.os = w.os ∧ w'.output = w.output ∧ w'.tape = w.tape := by
  have := ev_call hc hg hb e (rel_zero C hw hk hl hn) (by simp) (fun a h1 _ => by
    have h2 : C.ng ≤ a := h1
    simp only [jZero]; rw [if_neg (by omega), if_neg (by omega)])
  refine Calls.mono this fun x w' ⟨j', e1, ad, _, _⟩ => ?_
  refine ⟨by rw [e1, (lit_ren j' v hv).1], ad.sz, fun b hb => ad.keep b hb ?_, ad.os, ad.out, ad.tape⟩
  rintro ⟨a, i, y, _, h2, h3, _⟩
  rw [H.get_set] at h2
  by_cases e : 0 = a
  · rw [if_pos e] at h2; cases h2; cases h3
  · rw [if_neg e] at h2; simp [H.get, T.get_nil] at h2

theorem run_enter {C : Ctx} (hc : CtxOk C) {g : FuncId} {fn : Func} {c : Code} (hg : C.fn.get g = some fn) (hb : fn.body = some c) (args : Array Value) (w : World) : (callFunc g args).run C.P w = .ok (.enter g args) w := by
  obtain ⟨f1, f2, _⟩ := hc.fn g fn hg
  simp only [callFunc, Sem.run_bind, run_program, Result.andThen_ok, f1, f2, hb, Option.isNone_some, Bool.false_eq_true, if_false, Sem.run_pure]

theorem gives_alone {C : Ctx} (hc : CtxOk C) {n : Nat} {g : FuncId} {fn : Func} {c : Code} (hg : C.fn.get g = some fn) (hb : fn.body = some c) {v : Value} {h' : H} (e : (ev C n).call g [] ⟨C.ng, .nil⟩ = some (v, h')) (hv : lit v = true) : Gives C.P g v [] :=
  ⟨hv, by simp, fun w _ => ⟨run_enter hc hg hb _ w, call_alone hc hg hb e hv w⟩⟩

theorem gives_zero {C : Ctx} (hc : CtxOk C) {n : Nat} {g : FuncId} {fn : Func} {c : Code} (hg : C.fn.get g = some fn) (hb : fn.body = some c) {v : Value} {h' : H} {a : Value} {cs : List Value} (e : (ev C n).call g [] (H.set ⟨C.ng, .nil⟩ 0 (.rom (a :: cs))) = some (v, h')) (hv : lit v = true) (hl : ∀ v ∈ a :: cs, lit v = true) (hn : 0 < C.ng) : Gives C.P g v (a :: cs) :=
  ⟨hv, hl, fun w hw => ⟨run_enter hc hg hb _ w, by
    rcases hw with hw | ⟨c', el, fz, h1, h2⟩
    · cases hw
    · exact call_zero hc hg hb e hv h1 h2 hl hn⟩⟩
end Go.Mir

