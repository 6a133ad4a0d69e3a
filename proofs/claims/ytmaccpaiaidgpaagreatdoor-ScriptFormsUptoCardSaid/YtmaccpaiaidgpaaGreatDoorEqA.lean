/- Scripts compared. -/
import Derived.Test.YtmaccpaiaidgpaaGreatDoorScrA
import Derived.Laws.StructEq
import Derived.Test.YtmaccpaiaidgpaaGreatDoorWrA
import Derived.Test.YtmaccpaiaidgpaaGreatDoorTabsP
import Derived.Test.YtmaccpaiaidgpaaGreatDoorReadB
/- Structs are compared. -/
namespace Go.Mir

section
variable {P : Program}
theorem pr_bind {α β : Type} (s : Sem α) (f : α → Sem β) : pureRun P (s >>= f) = (pureRun P s).bind fun a => pureRun P (f a) := by
  show pureRun P (Sem.bind s f) = _
  induction s with
  | pure a => rfl
  | program k ih => simp only [Sem.bind, pureRun]; exact ih P
  | _ => rfl
theorem pr_pure {α : Type} (a : α) : pureRun P (pure a : Sem α) = some a := rfl
theorem pr_program : pureRun P program = some P := rfl
theorem pr_underlying {t : TypeId} {d : TypeDesc} (h : P.underlying t = some d) : pureRun P (underlying t) = some d := by
  unfold underlying
  rw [pr_bind, pr_program]
  simp only [Option.bind_some, h]
  rfl
theorem pr_ite {α : Type} {c : Prop} [Decidable c] (a b : Sem α) : pureRun P (if c then a else b) = if c then pureRun P a else pureRun P b := by split <;> rfl

theorem pr_struct (d : Nat) (t : TypeId) (xs ys : Array Value) (ht : P.underlying t = some (.struct (P.fieldsOf t))) (hp : P.stoodInHeld t = false) :
    pureRun P (Op.equalIn (d + 1) t (.agg xs) (.agg ys)) = pureRun P (Op.eqFields d xs ys (P.fieldsOf t).toList) := by
  simp only [Op.equalIn, pr_bind, pr_underlying ht, Option.bind_some, pr_program, hp, Bool.false_eq_true, if_false]
  rw [← Array.forIn_toList]
  generalize (P.fieldsOf t).toList = fs
  clear ht
  induction fs with
  | nil => simp [Op.eqFields, pr_pure]
  | cons f fs ih =>
    simp only [List.forIn_cons, Op.eqFields, pr_bind, pr_ite]
    split
    · generalize pureRun P (part f.type xs f.offset) = r1
      cases r1 with
      | some a =>
        simp only [Option.bind_some]
        generalize pureRun P (part f.type ys f.offset) = r2
        cases r2 with
        | some b =>
          simp only [Option.bind_some]
          generalize pureRun P (Op.equalIn d f.type a b) = r3
          cases r3 with
          | some r =>
            cases r
            · simp only [Option.bind_some, Bool.not_false, if_true, pr_pure]
            · simp only [Option.bind_some, Bool.not_true, Bool.false_eq_true, if_false, pr_pure]
              exact ih
          | none => simp
        | none => simp
      | none => simp
    · simp only [pr_pure, Option.bind_some]
      exact ih

theorem pr_eq_int {d : Nat} {t : TypeId} {k k' : IntKind} {a b : Int} (h : P.underlying t = some (.int k')) : pureRun P (Op.equalIn (d + 1) t (.int k a) (.int k b)) = some (a == b) := by
  simp only [Op.equalIn, pr_bind, pr_underlying h, Option.bind_some, if_true]; rfl
theorem pr_eq_bool {d : Nat} {t : TypeId} {a b : Bool} (h : P.underlying t = some .bool) : pureRun P (Op.equalIn (d + 1) t (.bool a) (.bool b)) = some (a == b) := by
  simp only [Op.equalIn, pr_bind, pr_underlying h, Option.bind_some]; rfl
theorem pr_eq_string {d : Nat} {t : TypeId} {a b : ByteArray} (h : P.underlying t = some .string) : pureRun P (Op.equalIn (d + 1) t (.string a) (.string b)) = some (a == b) := by
  simp only [Op.equalIn, pr_bind, pr_underlying h, Option.bind_some]; rfl

/-- Fields, one after the other. -/
inductive FE (P : Program) (d : Nat) (xs ys : Array Value) : List Field → Bool → Prop
  | nil : FE P d xs ys [] true
  | cons {f : Field} {fs : List Field} {a b : Value} {r q : Bool} (hn : f.name ≠ "_") (ha : pureRun P (part f.type xs f.offset) = some a) (hb : pureRun P (part f.type ys f.offset) = some b) (e : pureRun P (Op.equalIn d f.type a b) = some r) (h : FE P d xs ys fs q) : FE P d xs ys (f :: fs) (r && q)

theorem FE.run {d : Nat} {xs ys : Array Value} {fs : List Field} {q : Bool} (h : FE P d xs ys fs q) : pureRun P (Op.eqFields d xs ys fs) = some q := by
  induction h with
  | nil => rfl
  | cons hn ha hb e _ ih =>
    rename_i r q _
    simp only [Op.eqFields, pr_ite, if_pos hn, pr_bind, ha, hb, e, Option.bind_some, ih]
    cases r <;> rfl

theorem pr_isAgg {t : TypeId} {d : TypeDesc} (h : P.underlying t = some d) : pureRun P (isAgg t) = some (isAggD d) := by
  unfold isAgg
  rw [pr_bind, pr_underlying h]
  cases d <;> rfl
theorem pr_part1 {t : TypeId} {d : TypeDesc} {cs : Array Value} {off : Nat} {v : Value} (h : P.underlying t = some d) (ha : isAggD d = false) (hv : cs[off]? = some v) : pureRun P (part t cs off) = some v := by
  unfold part
  rw [pr_bind, pr_isAgg h, ha]
  simp only [Option.bind_some, Bool.false_eq_true, if_false, hv]
  rfl
theorem pr_partA {t : TypeId} {d : TypeDesc} {cs : Array Value} {off n : Nat} (h : P.underlying t = some d) (ha : isAggD d = true) (hn : pureRun P (sizeOf t) = some n) : pureRun P (part t cs off) = some (.agg (cs.extract off (off + n))) := by
  unfold part
  rw [pr_bind, pr_isAgg h, ha]
  simp only [Option.bind_some, if_true, pr_bind, hn]
  rfl
end

section
variable {C : Ctx}
theorem abin_agg {t : TypeId} {x y : Operand} {xs ys : Array Value} {r : Bool} (hn : nilEq (C.u t) (.agg xs) (.agg ys) = none) (l1 : lit (.agg xs) = true) (l2 : lit (.agg ys) = true) (hg : C.P.eqGuardType C.P.depth t = false)
    (e : pureRun C.P (Op.equalIn 10000 t (.agg xs) (.agg ys)) = some r) : abin C .neq t x y (.agg xs) (.agg ys) = some (.bool (!r)) ∧ abin C .eql t x y (.agg xs) (.agg ys) = some (.bool r) := by
  constructor
  · unfold abin
    simp only [hn, l1, l2, Bool.and_self, cond_true]
    have h1 : pureRun C.P (eqGuard .neq t x y (.agg xs) (.agg ys)) = some () := by
      unfold eqGuard
      simp only [pr_bind, pr_program, Option.bind_some, hg, pr_ite, pr_pure, Bool.not_true, Bool.false_eq_true, if_false, Bool.not_false, if_true]
    have h2 : pureRun C.P (binOp .neq t (.agg xs) (.agg ys)) = some (.bool (!r)) := by
      unfold binOp
      simp only [Op.equal, Op.maxDepth, pr_bind, e, Option.bind_some]
      rfl
    rw [pr_bind, h1, Option.bind_some, h2]
    rfl
  · unfold abin
    simp only [hn, l1, l2, Bool.and_self, cond_true]
    have h1 : pureRun C.P (eqGuard .eql t x y (.agg xs) (.agg ys)) = some () := by
      unfold eqGuard
      simp only [pr_bind, pr_program, Option.bind_some, hg, pr_ite, pr_pure, Bool.not_true, Bool.false_eq_true, if_false, Bool.not_false, if_true]
    have h2 : pureRun C.P (binOp .eql t (.agg xs) (.agg ys)) = some (.bool r) := by
      unfold binOp
      simp only [Op.equal, Op.maxDepth, pr_bind, e, Option.bind_some]
      rfl
    rw [pr_bind, h1, Option.bind_some, h2]
    rfl
end
end Go.Mir

/- Keys, attributes, changes are compared. -/
namespace Go.Proofs.YtmaccpaiaidgpaaGreatDoor
open Go Go.Mir
set_option maxRecDepth 10000

theorem u_of {t : TypeId} {d : TypeDesc} (h : cxo.u t = some d) : cxo.P.underlying t = some d := by
  unfold Ctx.u at h
  obtain ⟨i, hi, rfl⟩ := Option.map_eq_some_iff.1 h
  exact (cxoOk.ty t i hi).2

theorem agg_eq {d : Nat} {t : TypeId} {fs : Array Field} {xs ys : Array Value} {r : Bool} (hu : cxo.u t = some (.struct fs)) (hp : cxo.P.stoodInHeld t = false) (h : FE cxo.P d xs ys fs.toList r) : pureRun cxo.P (Op.equalIn (d + 1) t (.agg xs) (.agg ys)) = some r := by
  have e : cxo.P.fieldsOf t = fs := by unfold Program.fieldsOf; rw [u_of hu]
  rw [pr_struct d t xs ys (by rw [e]; exact u_of hu) hp, e]
  exact h.run

def eqKey (a b : PKey) : Bool := a.id == b.id && (a.block == b.block && (a.kind == b.kind && (a.aft == b.aft && (a.bef == b.bef && (a.group == b.group && true)))))
def eqVal (a b : PVal) : Bool := a.kind == b.kind && (a.n == b.n && (a.f == b.f && (a.s == b.s && true)))
def eqAttr (a b : PAttr) : Bool := a.key == b.key && (eqVal a.v b.v && true)
def eqChg (a b : PChg) : Bool := a.key == b.key && (a.gone == b.gone && (eqVal a.v b.v && true))

theorem key_eq (a b : PKey) : pureRun cxo.P (Op.equalIn 10000 74 (.agg ⟨a.cells⟩) (.agg ⟨b.cells⟩)) = some (eqKey a b) := by
  refine agg_eq (d := 9999) rfl (by kernel_rfl) ?_
  unfold eqKey
  refine .cons (by decide) (pr_part1 (u_of rfl) rfl rfl) (pr_part1 (u_of rfl) rfl rfl) (pr_eq_int (d := 9998) (u_of rfl)) ?_
  refine .cons (by decide) (pr_part1 (u_of rfl) rfl rfl) (pr_part1 (u_of rfl) rfl rfl) (pr_eq_bool (d := 9998) (u_of rfl)) ?_
  refine .cons (by decide) (pr_part1 (u_of rfl) rfl rfl) (pr_part1 (u_of rfl) rfl rfl) (pr_eq_int (d := 9998) (u_of rfl)) ?_
  refine .cons (by decide) (pr_part1 (u_of rfl) rfl rfl) (pr_part1 (u_of rfl) rfl rfl) (pr_eq_bool (d := 9998) (u_of rfl)) ?_
  refine .cons (by decide) (pr_part1 (u_of rfl) rfl rfl) (pr_part1 (u_of rfl) rfl rfl) (pr_eq_bool (d := 9998) (u_of rfl)) ?_
  refine .cons (by decide) (pr_part1 (u_of rfl) rfl rfl) (pr_part1 (u_of rfl) rfl rfl) (pr_eq_int (d := 9998) (u_of rfl)) ?_
  exact .nil

theorem val_eq (a b : PVal) : pureRun cxo.P (Op.equalIn 9999 68 (.agg ⟨a.cells⟩) (.agg ⟨b.cells⟩)) = some (eqVal a b) := by
  refine agg_eq (d := 9998) rfl (by kernel_rfl) ?_
  unfold eqVal
  refine .cons (by decide) (pr_part1 (u_of rfl) rfl rfl) (pr_part1 (u_of rfl) rfl rfl) (pr_eq_int (d := 9997) (u_of rfl)) ?_
  refine .cons (by decide) (pr_part1 (u_of rfl) rfl rfl) (pr_part1 (u_of rfl) rfl rfl) (pr_eq_int (d := 9997) (u_of rfl)) ?_
  refine .cons (by decide) (pr_part1 (u_of rfl) rfl rfl) (pr_part1 (u_of rfl) rfl rfl) (pr_eq_int (d := 9997) (u_of rfl)) ?_
  refine .cons (by decide) (pr_part1 (u_of rfl) rfl rfl) (pr_part1 (u_of rfl) rfl rfl) (pr_eq_string (d := 9997) (u_of rfl)) ?_
  exact .nil

theorem size68 : pureRun cxo.P (sizeOf 68) = some 4 := by kernel_rfl

theorem attr_eq (a b : PAttr) : pureRun cxo.P (Op.equalIn 10000 137 (.agg ⟨a.cells⟩) (.agg ⟨b.cells⟩)) = some (eqAttr a b) := by
  refine agg_eq (d := 9999) rfl (by kernel_rfl) ?_
  unfold eqAttr
  refine .cons (by decide) (pr_part1 (u_of rfl) rfl rfl) (pr_part1 (u_of rfl) rfl rfl) (pr_eq_int (d := 9998) (u_of rfl)) ?_
  refine .cons (by decide) (pr_partA (u_of rfl) rfl size68) (pr_partA (u_of rfl) rfl size68) (val_eq a.v b.v) ?_
  exact .nil

theorem chg_eq (a b : PChg) : pureRun cxo.P (Op.equalIn 10000 70 (.agg ⟨a.cells⟩) (.agg ⟨b.cells⟩)) = some (eqChg a b) := by
  refine agg_eq (d := 9999) rfl (by kernel_rfl) ?_
  unfold eqChg
  refine .cons (by decide) (pr_part1 (u_of rfl) rfl rfl) (pr_part1 (u_of rfl) rfl rfl) (pr_eq_int (d := 9998) (u_of rfl)) ?_
  refine .cons (by decide) (pr_part1 (u_of rfl) rfl rfl) (pr_part1 (u_of rfl) rfl rfl) (pr_eq_bool (d := 9998) (u_of rfl)) ?_
  refine .cons (by decide) (pr_partA (u_of rfl) rfl size68) (pr_partA (u_of rfl) rfl size68) (val_eq a.v b.v) ?_
  exact .nil
end Go.Proofs.YtmaccpaiaidgpaaGreatDoor
namespace Go.Proofs.YtmaccpaiaidgpaaGreatDoor
open Go Go.Mir
theorem eqKey_iff (a b : PKey) : eqKey a b = true ↔ a = b := by
  obtain ⟨_, _, _, _, _, _⟩ := a
  obtain ⟨_, _, _, _, _, _⟩ := b
  simp [eqKey]
theorem beqB (a b : ByteArray) : (a == b) = true ↔ a = b := by
  rw [beq_toListBytes, ByteArray.toList_eq, ByteArray.toList_eq]
  obtain ⟨⟨x⟩⟩ := a
  obtain ⟨⟨y⟩⟩ := b
  simp
theorem eqVal_iff (a b : PVal) : eqVal a b = true ↔ a = b := by
  obtain ⟨_, _, _, _⟩ := a
  obtain ⟨_, _, _, _⟩ := b
  simp [eqVal, beqB]
theorem eqAttr_iff (a b : PAttr) : eqAttr a b = true ↔ a = b := by
  obtain ⟨_, _⟩ := a
  obtain ⟨_, _⟩ := b
  simp [eqAttr, eqVal_iff]
theorem eqChg_iff (a b : PChg) : eqChg a b = true ↔ a = b := by
  obtain ⟨_, _, _⟩ := a
  obtain ⟨_, _, _⟩ := b
  simp [eqChg, eqVal_iff]

theorem neq_key {x y : Operand} (a b : PKey) : abin cxo .neq 74 x y (.agg ⟨a.cells⟩) (.agg ⟨b.cells⟩) = some (.bool (!eqKey a b)) := (abin_agg rfl rfl rfl (by kernel_rfl) (key_eq a b)).1
theorem neq_attr {x y : Operand} (a b : PAttr) : abin cxo .neq 137 x y (.agg ⟨a.cells⟩) (.agg ⟨b.cells⟩) = some (.bool (!eqAttr a b)) := (abin_agg rfl rfl rfl (by kernel_rfl) (attr_eq a b)).1
theorem neq_chg {x y : Operand} (a b : PChg) : abin cxo .neq 70 x y (.agg ⟨a.cells⟩) (.agg ⟨b.cells⟩) = some (.bool (!eqChg a b)) := (abin_agg rfl rfl rfl (by kernel_rfl) (chg_eq a b)).1
end Go.Proofs.YtmaccpaiaidgpaaGreatDoor

/- slices.Equal. -/
namespace Go.Proofs.YtmaccpaiaidgpaaGreatDoor
open Go Go.Mir
set_option maxRecDepth 10000

theorem eqInt_iff (a b : Int) : (a == b) = true ↔ a = b := by simp
section
variable {h : H} {S : Nat → Prop}

set_option maxHeartbeats 2000000 in
theorem seq_key {va vb : Value} {xs ys : List PKey} (qa : Sl h S 6 (LKey h S) va xs) (qb : Sl h S 6 (LKey h S) vb ys) : Cal cxo 89 [va, vb] h (fun r h' => h = h' ∧ ∃ b, r = .bool b ∧ (b = true ↔ xs = ys)) := by
  have qa0 := qa
  have qb0 := qb
  obtain ⟨a, n, c, rfl, hn, hcc, h62, _⟩ := qa
  obtain ⟨a2, n2, c2, rfl, hn2, hcc2, h622, _⟩ := qb
  subst hn
  subst hn2
  refine cal_intro (C := cxo) rfl rfl rfl rfl ?_
  (refine goM ?_)
  by_cases hlen : xs.length = ys.length
  · refine ow_cmp (hv := neq_f (by omega)) ?_
    (refine goM ?_)
    refine WK.weak (L' := [(0, .slice a xs.length c), (1, .slice a2 ys.length c2), (12, .int .i64 (xs.length : Int)), (13, .int .i64 ((0 : Nat) : Int))]) ?_ ⟨rfl, rfl, rfl, rfl, trivial⟩
    refine wk_inv (ι := Nat) (fun z => [(0, .slice a xs.length c), (1, .slice a2 ys.length c2), (12, .int .i64 (xs.length : Int)), (13, .int .i64 (z : Int))]) (fun _ => h) (fun z => z ≤ xs.length ∧ xs.take z = ys.take z) (fun z => xs.length - z) ?_ 0 ⟨Nat.zero_le _, by simp⟩
    rintro i ⟨hi, he⟩ ih
    (refine goM ?_)
    by_cases hlt : i < xs.length
    · refine ow_cmp (hv := lss_t (by omega)) ?_
      (refine goM ?_)
      obtain ⟨b, o, y, ycs, rfl, hS, hcap, hyi, hyl, hR, hrd⟩ := qa0.at hlt
      obtain ⟨b2, o2, z, zcs, rfl, hS2, hcap2, hzi, hzl, hR2, hrd2⟩ := qb0.at (show i < ys.length by omega)
      obtain rfl := hR
      obtain rfl := hR2
      refine ow_index hlt hcap ?_
      refine ow_loadA hrd ?_
      (refine goM ?_)
      refine ow_index (show i < ys.length by omega) hcap2 ?_
      refine ow_loadA hrd2 ?_
      refine ow_bin rfl rfl (neq_key y z) rfl rfl ?_
      refine ow_end ?_ ?_; focus (refine reads_quiet ?_; repeat (first | exact trivial | refine ⟨rfl, rfl, ?_⟩ | refine ⟨rfl, ?_⟩))
      have hnext : xs.take (i + 1) = ys.take (i + 1) ↔ y = z := by
        rw [List.take_add_one, List.take_add_one, hyi, hzi, he]
        simp
      have hall : xs = ys → y = z := fun e => by subst e; rw [hyi] at hzi; exact Option.some.inj hzi
      obtain ⟨e, hee⟩ : ∃ e, e = eqKey y z := ⟨_, rfl⟩
      rw [← hee]
      cases e with
      | true =>
        have hyz : y = z := (eqKey_iff y z).1 hee.symm
        (refine goM ?_)
        refine ow_int (hv := add_one (by omega)) ?_
        (refine goM ?_)
        refine dn_loop ?_
        exact (ih (i + 1) ⟨hlt, hnext.2 hyz⟩ (by omega)).weak ⟨rfl, rfl, rfl, rfl, trivial⟩
      | false =>
        (refine goM ?_)
        exact end_res (Nat.le_refl _) rfl ⟨rfl, false, rfl, by simp; exact fun q => by have := (eqKey_iff y z).2 (hall q); rw [← hee] at this; cases this⟩
    · refine ow_cmp (hv := lss_f (by omega)) ?_
      (refine goM ?_)
      have hi2 : i = xs.length := by omega
      refine end_res (Nat.le_refl _) rfl ⟨rfl, true, rfl, by simp; rw [hi2, List.take_length, hlen, List.take_length] at he; exact he⟩
  · refine ow_cmp (hv := neq_t (by omega)) ?_
    (refine goM ?_)
    exact end_res (Nat.le_refl _) rfl ⟨rfl, false, rfl, by simp; exact fun e => hlen (by rw [e])⟩

set_option maxHeartbeats 2000000 in
theorem seq_chg {va vb : Value} {xs ys : List PChg} (qa : Sl h S 6 (LChg h S) va xs) (qb : Sl h S 6 (LChg h S) vb ys) : Cal cxo 162 [va, vb] h (fun r h' => h = h' ∧ ∃ b, r = .bool b ∧ (b = true ↔ xs = ys)) := by
  have qa0 := qa
  have qb0 := qb
  obtain ⟨a, n, c, rfl, hn, hcc, h62, _⟩ := qa
  obtain ⟨a2, n2, c2, rfl, hn2, hcc2, h622, _⟩ := qb
  subst hn
  subst hn2
  refine cal_intro (C := cxo) rfl rfl rfl rfl ?_
  (refine goM ?_)
  by_cases hlen : xs.length = ys.length
  · refine ow_cmp (hv := neq_f (by omega)) ?_
    (refine goM ?_)
    refine WK.weak (L' := [(0, .slice a xs.length c), (1, .slice a2 ys.length c2), (12, .int .i64 (xs.length : Int)), (13, .int .i64 ((0 : Nat) : Int))]) ?_ ⟨rfl, rfl, rfl, rfl, trivial⟩
    refine wk_inv (ι := Nat) (fun z => [(0, .slice a xs.length c), (1, .slice a2 ys.length c2), (12, .int .i64 (xs.length : Int)), (13, .int .i64 (z : Int))]) (fun _ => h) (fun z => z ≤ xs.length ∧ xs.take z = ys.take z) (fun z => xs.length - z) ?_ 0 ⟨Nat.zero_le _, by simp⟩
    rintro i ⟨hi, he⟩ ih
    (refine goM ?_)
    by_cases hlt : i < xs.length
    · refine ow_cmp (hv := lss_t (by omega)) ?_
      (refine goM ?_)
      obtain ⟨b, o, y, ycs, rfl, hS, hcap, hyi, hyl, hR, hrd⟩ := qa0.at hlt
      obtain ⟨b2, o2, z, zcs, rfl, hS2, hcap2, hzi, hzl, hR2, hrd2⟩ := qb0.at (show i < ys.length by omega)
      obtain rfl := hR
      obtain rfl := hR2
      refine ow_index hlt hcap ?_
      refine ow_loadA hrd ?_
      (refine goM ?_)
      refine ow_index (show i < ys.length by omega) hcap2 ?_
      refine ow_loadA hrd2 ?_
      refine ow_bin rfl rfl (neq_chg y z) rfl rfl ?_
      refine ow_end ?_ ?_; focus (refine reads_quiet ?_; repeat (first | exact trivial | refine ⟨rfl, rfl, ?_⟩ | refine ⟨rfl, ?_⟩))
      have hnext : xs.take (i + 1) = ys.take (i + 1) ↔ y = z := by
        rw [List.take_add_one, List.take_add_one, hyi, hzi, he]
        simp
      have hall : xs = ys → y = z := fun e => by subst e; rw [hyi] at hzi; exact Option.some.inj hzi
      obtain ⟨e, hee⟩ : ∃ e, e = eqChg y z := ⟨_, rfl⟩
      rw [← hee]
      cases e with
      | true =>
        have hyz : y = z := (eqChg_iff y z).1 hee.symm
        (refine goM ?_)
        refine ow_int (hv := add_one (by omega)) ?_
        (refine goM ?_)
        refine dn_loop ?_
        exact (ih (i + 1) ⟨hlt, hnext.2 hyz⟩ (by omega)).weak ⟨rfl, rfl, rfl, rfl, trivial⟩
      | false =>
        (refine goM ?_)
        exact end_res (Nat.le_refl _) rfl ⟨rfl, false, rfl, by simp; exact fun q => by have := (eqChg_iff y z).2 (hall q); rw [← hee] at this; cases this⟩
    · refine ow_cmp (hv := lss_f (by omega)) ?_
      (refine goM ?_)
      have hi2 : i = xs.length := by omega
      refine end_res (Nat.le_refl _) rfl ⟨rfl, true, rfl, by simp; rw [hi2, List.take_length, hlen, List.take_length] at he; exact he⟩
  · refine ow_cmp (hv := neq_t (by omega)) ?_
    (refine goM ?_)
    exact end_res (Nat.le_refl _) rfl ⟨rfl, false, rfl, by simp; exact fun e => hlen (by rw [e])⟩

set_option maxHeartbeats 2000000 in
theorem seq_attr {va vb : Value} {xs ys : List PAttr} (qa : Sl h S 5 (LAttr h S) va xs) (qb : Sl h S 5 (LAttr h S) vb ys) : Cal cxo 259 [va, vb] h (fun r h' => h = h' ∧ ∃ b, r = .bool b ∧ (b = true ↔ xs = ys)) := by
  have qa0 := qa
  have qb0 := qb
  obtain ⟨a, n, c, rfl, hn, hcc, h62, _⟩ := qa
  obtain ⟨a2, n2, c2, rfl, hn2, hcc2, h622, _⟩ := qb
  subst hn
  subst hn2
  refine cal_intro (C := cxo) rfl rfl rfl rfl ?_
  (refine goM ?_)
  by_cases hlen : xs.length = ys.length
  · refine ow_cmp (hv := neq_f (by omega)) ?_
    (refine goM ?_)
    refine WK.weak (L' := [(0, .slice a xs.length c), (1, .slice a2 ys.length c2), (12, .int .i64 (xs.length : Int)), (13, .int .i64 ((0 : Nat) : Int))]) ?_ ⟨rfl, rfl, rfl, rfl, trivial⟩
    refine wk_inv (ι := Nat) (fun z => [(0, .slice a xs.length c), (1, .slice a2 ys.length c2), (12, .int .i64 (xs.length : Int)), (13, .int .i64 (z : Int))]) (fun _ => h) (fun z => z ≤ xs.length ∧ xs.take z = ys.take z) (fun z => xs.length - z) ?_ 0 ⟨Nat.zero_le _, by simp⟩
    rintro i ⟨hi, he⟩ ih
    (refine goM ?_)
    by_cases hlt : i < xs.length
    · refine ow_cmp (hv := lss_t (by omega)) ?_
      (refine goM ?_)
      obtain ⟨b, o, y, ycs, rfl, hS, hcap, hyi, hyl, hR, hrd⟩ := qa0.at hlt
      obtain ⟨b2, o2, z, zcs, rfl, hS2, hcap2, hzi, hzl, hR2, hrd2⟩ := qb0.at (show i < ys.length by omega)
      obtain rfl := hR
      obtain rfl := hR2
      refine ow_index hlt hcap ?_
      refine ow_loadA hrd ?_
      (refine goM ?_)
      refine ow_index (show i < ys.length by omega) hcap2 ?_
      refine ow_loadA hrd2 ?_
      refine ow_bin rfl rfl (neq_attr y z) rfl rfl ?_
      refine ow_end ?_ ?_; focus (refine reads_quiet ?_; repeat (first | exact trivial | refine ⟨rfl, rfl, ?_⟩ | refine ⟨rfl, ?_⟩))
      have hnext : xs.take (i + 1) = ys.take (i + 1) ↔ y = z := by
        rw [List.take_add_one, List.take_add_one, hyi, hzi, he]
        simp
      have hall : xs = ys → y = z := fun e => by subst e; rw [hyi] at hzi; exact Option.some.inj hzi
      obtain ⟨e, hee⟩ : ∃ e, e = eqAttr y z := ⟨_, rfl⟩
      rw [← hee]
      cases e with
      | true =>
        have hyz : y = z := (eqAttr_iff y z).1 hee.symm
        (refine goM ?_)
        refine ow_int (hv := add_one (by omega)) ?_
        (refine goM ?_)
        refine dn_loop ?_
        exact (ih (i + 1) ⟨hlt, hnext.2 hyz⟩ (by omega)).weak ⟨rfl, rfl, rfl, rfl, trivial⟩
      | false =>
        (refine goM ?_)
        exact end_res (Nat.le_refl _) rfl ⟨rfl, false, rfl, by simp; exact fun q => by have := (eqAttr_iff y z).2 (hall q); rw [← hee] at this; cases this⟩
    · refine ow_cmp (hv := lss_f (by omega)) ?_
      (refine goM ?_)
      have hi2 : i = xs.length := by omega
      refine end_res (Nat.le_refl _) rfl ⟨rfl, true, rfl, by simp; rw [hi2, List.take_length, hlen, List.take_length] at he; exact he⟩
  · refine ow_cmp (hv := neq_t (by omega)) ?_
    (refine goM ?_)
    exact end_res (Nat.le_refl _) rfl ⟨rfl, false, rfl, by simp; exact fun e => hlen (by rw [e])⟩

set_option maxHeartbeats 2000000 in
theorem seq_rune {va vb : Value} {xs ys : List Int} (qa : Sl h S 1 (LRune h S) va xs) (qb : Sl h S 1 (LRune h S) vb ys) : Cal cxo 258 [va, vb] h (fun r h' => h = h' ∧ ∃ b, r = .bool b ∧ (b = true ↔ xs = ys)) := by
  have qa0 := qa
  have qb0 := qb
  obtain ⟨a, n, c, rfl, hn, hcc, h62, _⟩ := qa
  obtain ⟨a2, n2, c2, rfl, hn2, hcc2, h622, _⟩ := qb
  subst hn
  subst hn2
  refine cal_intro (C := cxo) rfl rfl rfl rfl ?_
  (refine goM ?_)
  by_cases hlen : xs.length = ys.length
  · refine ow_cmp (hv := neq_f (by omega)) ?_
    (refine goM ?_)
    refine WK.weak (L' := [(0, .slice a xs.length c), (1, .slice a2 ys.length c2), (12, .int .i64 (xs.length : Int)), (13, .int .i64 ((0 : Nat) : Int))]) ?_ ⟨rfl, rfl, rfl, rfl, trivial⟩
    refine wk_inv (ι := Nat) (fun z => [(0, .slice a xs.length c), (1, .slice a2 ys.length c2), (12, .int .i64 (xs.length : Int)), (13, .int .i64 (z : Int))]) (fun _ => h) (fun z => z ≤ xs.length ∧ xs.take z = ys.take z) (fun z => xs.length - z) ?_ 0 ⟨Nat.zero_le _, by simp⟩
    rintro i ⟨hi, he⟩ ih
    (refine goM ?_)
    by_cases hlt : i < xs.length
    · refine ow_cmp (hv := lss_t (by omega)) ?_
      (refine goM ?_)
      obtain ⟨b, o, y, ycs, rfl, hS, hcap, hyi, hyl, hR, hrd⟩ := qa0.at hlt
      obtain ⟨b2, o2, z, zcs, rfl, hS2, hcap2, hzi, hzl, hR2, hrd2⟩ := qb0.at (show i < ys.length by omega)
      obtain rfl := hR
      obtain rfl := hR2
      refine ow_index hlt hcap ?_
      refine ow_load (v := .int .i32 y) (read_load hrd (k := 0) (by decide)) ?_
      (refine goM ?_)
      refine ow_index (show i < ys.length by omega) hcap2 ?_
      refine ow_load (v := .int .i32 z) (read_load hrd2 (k := 0) (by decide)) ?_
      refine ow_cmp (v := .bool (!(y == z))) (hv := by simp only [intOp]; rfl) ?_
      refine ow_end ?_ ?_; focus (refine reads_quiet ?_; repeat (first | exact trivial | refine ⟨rfl, rfl, ?_⟩ | refine ⟨rfl, ?_⟩))
      have hnext : xs.take (i + 1) = ys.take (i + 1) ↔ y = z := by
        rw [List.take_add_one, List.take_add_one, hyi, hzi, he]
        simp
      have hall : xs = ys → y = z := fun e => by subst e; rw [hyi] at hzi; exact Option.some.inj hzi
      obtain ⟨e, hee⟩ : ∃ e, e = (y == z) := ⟨_, rfl⟩
      rw [← hee]
      cases e with
      | true =>
        have hyz : y = z := (eqInt_iff y z).1 hee.symm
        (refine goM ?_)
        refine ow_int (hv := add_one (by omega)) ?_
        (refine goM ?_)
        refine dn_loop ?_
        exact (ih (i + 1) ⟨hlt, hnext.2 hyz⟩ (by omega)).weak ⟨rfl, rfl, rfl, rfl, trivial⟩
      | false =>
        (refine goM ?_)
        exact end_res (Nat.le_refl _) rfl ⟨rfl, false, rfl, by simp; exact fun q => by have := (eqInt_iff y z).2 (hall q); rw [← hee] at this; cases this⟩
    · refine ow_cmp (hv := lss_f (by omega)) ?_
      (refine goM ?_)
      have hi2 : i = xs.length := by omega
      refine end_res (Nat.le_refl _) rfl ⟨rfl, true, rfl, by simp; rw [hi2, List.take_length, hlen, List.take_length] at he; exact he⟩
  · refine ow_cmp (hv := neq_t (by omega)) ?_
    (refine goM ?_)
    exact end_res (Nat.le_refl _) rfl ⟨rfl, false, rfl, by simp; exact fun e => hlen (by rw [e])⟩
end
end Go.Proofs.YtmaccpaiaidgpaaGreatDoor

/- Ops are compared. -/
namespace Go.Proofs.YtmaccpaiaidgpaaGreatDoor
open Go Go.Mir
set_option maxRecDepth 10000
section
variable {h0 h : H} {S : Nat → Prop} {As : List Asn}

theorem beq_ev {va vb : Value} {l1 l2 : List UInt8} (qa : Byt h va l1) (qb : Byt h vb l2) : Cal cxo 161 [va, vb] h (fun r h' => h = h' ∧ r = .bool (decide (l1 = l2))) := by
  refine cal_intro (C := cxo) rfl rfl rfl rfl ?_
  (refine goM ?_)
  refine ow_strB qa ?_
  (refine goM ?_)
  refine ow_strB qb ?_
  refine ow_eqS ?_
  (refine goM ?_)
  exact end_res (Nat.le_refl _) rfl ⟨rfl, rfl⟩


set_option maxHeartbeats 4000000 in
theorem eqop_ev {x y : POp} {cs1 cs2 : List Value} (qx : Go.Mir.ROp h S x cs1) (qy : Go.Mir.ROp h S y cs2) (st : St h0 S h As) : Cal cxo 160 [.agg ⟨cs1⟩, .agg ⟨cs2⟩] h (fun r h' => ∃ b, r = .bool b ∧ (b = true ↔ x = y) ∧ St h0 S h' As) := by
  have stA := st
  have st := st.rebase
  obtain ⟨xr, xs, xp, rfl, x1, x2, x3⟩ := qx
  obtain ⟨yr, ys, yp, rfl, y1, y2, y3⟩ := qy
  have x1k := x1
  have x2k := x2
  have x3k := x3
  have y1k := y1
  have y2k := y2
  have y3k := y3
  obtain ⟨_, _, _, rfl, _⟩ := x1
  obtain ⟨_, _, _, rfl, _⟩ := x2
  obtain ⟨_, _, _, rfl, _⟩ := x3
  obtain ⟨_, _, _, rfl, _⟩ := y1
  obtain ⟨_, _, _, rfl, _⟩ := y2
  obtain ⟨_, _, _, rfl, _⟩ := y3
  refine cal_intro (C := cxo) rfl rfl rfl rfl ?_
  (refine goM ?_)
  refine st_box st ?_; intro b1 h1 st
  refine st_box st ?_; intro b2 h2 st
  (refine goM ?_)
  refine st_load (i := 1) st ?_
  (refine goM ?_)
  refine st_load (i := 0) st ?_
  by_cases hk : x.kind = y.kind
  · refine ow_cmp (hv := eql_t hk) ?_
    (refine goM ?_)
    refine st_load (i := 1) st ?_
    (refine goM ?_)
    refine st_load (i := 0) st ?_
    by_cases hn : x.n = y.n
    · refine ow_cmp (hv := eql_t hn) ?_
      (refine goM ?_)
      refine st_load (i := 1) st ?_
      (refine goM ?_)
      refine st_load (i := 0) st ?_
      refine ow_call (seq_rune (x1k.gr st.gr) (y1k.gr st.gr)) ?_; rintro _ _ ⟨rfl, e1, rfl, i1⟩
      cases e1 with
      | false =>
        have hno : x ≠ y := fun q => by have := i1.2 (by rw [q]); cases this
        (refine goM ?_)
        exact end_res st.nx rfl ⟨false, rfl, by simp; exact fun q => hno q, stA.over ((st.drop 0 rfl).drop 0 rfl)⟩
      | true =>
        (refine goM ?_)
        refine st_load (i := 1) st ?_
        (refine goM ?_)
        refine st_load (i := 0) st ?_
        refine ow_call (seq_attr (x2k.gr st.gr) (y2k.gr st.gr)) ?_; rintro _ _ ⟨rfl, e2, rfl, i2⟩
        cases e2 with
        | false =>
          have hno : x ≠ y := fun q => by have := i2.2 (by rw [q]); cases this
          (refine goM ?_)
          exact end_res st.nx rfl ⟨false, rfl, by simp; exact fun q => hno q, stA.over ((st.drop 0 rfl).drop 0 rfl)⟩
        | true =>
          (refine goM ?_)
          refine st_load (i := 1) st ?_
          (refine goM ?_)
          refine st_load (i := 0) st ?_
          refine ow_call (seq_chg (x3k.gr st.gr) (y3k.gr st.gr)) ?_; rintro _ _ ⟨rfl, e3, rfl, i3⟩
          cases e3 with
          | false =>
            have hno : x ≠ y := fun q => by have := i3.2 (by rw [q]); cases this
            (refine goM ?_)
            exact end_res st.nx rfl ⟨false, rfl, by simp; exact fun q => hno q, stA.over ((st.drop 0 rfl).drop 0 rfl)⟩
          | true =>
            (refine goM ?_)
            refine end_res st.nx rfl ⟨true, rfl, ?_, stA.over ((st.drop 0 rfl).drop 0 rfl)⟩
            have j1 := i1.1 rfl
            have j2 := i2.1 rfl
            have j3 := i3.1 rfl
            obtain ⟨a1, a2, a3, a4, a5⟩ := x
            obtain ⟨c1, c2, c3, c4, c5⟩ := y
            simp only at hk hn j1 j2 j3
            simp [hk, hn, j1, j2, j3]
    · refine ow_cmp (hv := eql_f hn) ?_
      have hno : x ≠ y := fun q => hn (by rw [q])
      (refine goM ?_)
      exact end_res st.nx rfl ⟨false, rfl, by simp; exact fun q => hno q, stA.over ((st.drop 0 rfl).drop 0 rfl)⟩
  · refine ow_cmp (hv := eql_f hk) ?_
    have hno : x ≠ y := fun q => hk (by rw [q])
    (refine goM ?_)
    exact end_res st.nx rfl ⟨false, rfl, by simp; exact fun q => hno q, stA.over ((st.drop 0 rfl).drop 0 rfl)⟩
end
end Go.Proofs.YtmaccpaiaidgpaaGreatDoor

/- slices.EqualFunc. -/
namespace Go.Proofs.YtmaccpaiaidgpaaGreatDoor
open Go Go.Mir
set_option maxRecDepth 10000
section
variable {h0 h : H} {S : Nat → Prop} {As : List Asn}

set_option maxHeartbeats 4000000 in
theorem eqf_op {va vb : Value} {xs ys : List POp} (qa : Sl h S 5 (Go.Mir.ROp h S) va xs) (qb : Sl h S 5 (Go.Mir.ROp h S) vb ys) (st : St h0 S h As) : Cal cxo 159 [va, vb, .func (.func 160) ⟨[]⟩ ⟨[]⟩] h (fun r h' => ∃ b, r = .bool b ∧ (b = true ↔ xs = ys) ∧ St h0 S h' As) := by
  have stA := st
  have st := st.rebase
  have qa0 := qa
  have qb0 := qb
  obtain ⟨a, n, c, rfl, hn, hcc, h62, _⟩ := qa
  obtain ⟨a2, n2, c2, rfl, hn2, hcc2, h622, _⟩ := qb
  subst hn
  subst hn2
  refine cal_intro (C := cxo) rfl rfl rfl rfl ?_
  (refine goM ?_)
  by_cases hlen : xs.length = ys.length
  · refine ow_cmp (hv := neq_f (by omega)) ?_
    (refine goM ?_)
    refine WK.weak (L' := [(1, .slice a2 ys.length c2), (2, .func (.func 160) ⟨[]⟩ ⟨[]⟩), (15, .slice a xs.length c), (16, .int .i64 (xs.length : Int)), (17, .int .i64 ((0 : Nat) : Int))]) ?_ ⟨rfl, rfl, rfl, rfl, rfl, trivial⟩
    refine wk_inv (ι := Nat × H) (fun z => [(1, .slice a2 ys.length c2), (2, .func (.func 160) ⟨[]⟩ ⟨[]⟩), (15, .slice a xs.length c), (16, .int .i64 (xs.length : Int)), (17, .int .i64 (z.1 : Int))]) (fun z => z.2) (fun z => z.1 ≤ xs.length ∧ xs.take z.1 = ys.take z.1 ∧ St h S z.2 As) (fun z => xs.length - z.1) ?_ (0, h) ⟨Nat.zero_le _, by simp, st⟩
    clear st
    rintro ⟨i, h2⟩ ⟨hi, he, st⟩ ih
    simp only at hi he st ih ⊢
    (refine goM ?_)
    by_cases hlt : i < xs.length
    · refine ow_cmp (hv := lss_t (by omega)) ?_
      (refine goM ?_)
      obtain ⟨b, o, y, ycs, rfl, hS, hcap, hyi, hyl, hR, hrd⟩ := qa0.at hlt
      obtain ⟨b2, o2, z, zcs, rfl, hS2, hcap2, hzi, hzl, hR2, hrd2⟩ := qb0.at (show i < ys.length by omega)
      rw [← st.read hS] at hrd
      refine ow_index hlt hcap ?_
      refine ow_loadA hrd ?_
      have hRk := hR
      obtain ⟨r1, s1, p1, rfl, g1, g2, g3⟩ := hR
      obtain ⟨_, _, _, rfl, _⟩ := g1
      obtain ⟨_, _, _, rfl, _⟩ := g2
      obtain ⟨_, _, _, rfl, _⟩ := g3
      refine st_alloc st ?_; intro b3 h3 st
      (refine goM ?_)
      refine st_store (i := 0) st ?_; intro h4 st
      (refine goM ?_)
      rw [← st.read hS2] at hrd2
      refine ow_index (show i < ys.length by omega) hcap2 ?_
      refine ow_loadA hrd2 ?_
      have hR2k := hR2
      obtain ⟨r1, s1, p1, rfl, g1, g2, g3⟩ := hR2
      obtain ⟨_, _, _, rfl, _⟩ := g1
      obtain ⟨_, _, _, rfl, _⟩ := g2
      obtain ⟨_, _, _, rfl, _⟩ := g3
      refine st_alloc st ?_; intro b4 h5 st
      refine st_store (i := 0) st ?_; intro h6 st
      (refine goM ?_)
      refine st_loadA (i := 1) st ?_
      refine st_loadA (i := 0) st ?_
      refine ow_callV (eqop_ev (hRk.gr st.gr) (hR2k.gr st.gr) st) ?_; rintro _ h7 ⟨e, rfl, hee, st⟩
      have hnext : xs.take (i + 1) = ys.take (i + 1) ↔ y = z := by
        rw [List.take_add_one, List.take_add_one, hyi, hzi, he]
        simp
      have hall : xs = ys → y = z := fun e => by subst e; rw [hyi] at hzi; exact Option.some.inj hzi
      have st := (st.drop 0 rfl).drop 0 rfl
      cases e with
      | true =>
        have hyz : y = z := hee.1 rfl
        (refine goM ?_)
        refine ow_int (hv := add_one (by omega)) ?_
        (refine goM ?_)
        refine dn_loop ?_
        exact (ih (i + 1, h7) ⟨hlt, hnext.2 hyz, st⟩ (by simp only; omega)).weak ⟨rfl, rfl, rfl, rfl, rfl, trivial⟩
      | false =>
        (refine goM ?_)
        exact end_res st.nx rfl ⟨false, rfl, (by simp; exact fun q => (by have := hee.2 (hall q); cases this)), stA.over st⟩
    · refine ow_cmp (hv := lss_f (by omega)) ?_
      (refine goM ?_)
      have hi2 : i = xs.length := by omega
      refine end_res st.nx rfl ⟨true, rfl, by simp; rw [hi2, List.take_length, hlen, List.take_length] at he; exact he, stA.over st⟩
  · refine ow_cmp (hv := neq_t (by omega)) ?_
    (refine goM ?_)
    exact end_res st.nx rfl ⟨false, rfl, by simp; exact fun e => hlen (by rw [e]), stA.over st⟩
end
end Go.Proofs.YtmaccpaiaidgpaaGreatDoor

/- Commands are compared. -/
namespace Go.Proofs.YtmaccpaiaidgpaaGreatDoor
open Go Go.Mir
set_option maxRecDepth 10000
section
variable {h0 h : H} {S : Nat → Prop} {As : List Asn}


set_option maxHeartbeats 8000000 in
theorem eqcmd_ev {x y : PCmd} {cs1 cs2 : List Value} (qx : RCmd h S x cs1) (qy : RCmd h S y cs2) (st : St h0 S h As) : Cal cxo 87 [.agg ⟨cs1⟩, .agg ⟨cs2⟩] h (fun r h' => ∃ b, r = .bool b ∧ (b = true ↔ x = y) ∧ St h0 S h' As) := by
  have stA := st
  have st := st.rebase
  obtain ⟨xo, xb, xp, rfl, x1, x2, x3⟩ := qx
  obtain ⟨yo, yb, yp, rfl, y1, y2, y3⟩ := qy
  have x1k := x1
  have x2k := x2
  have x3k := x3
  have y1k := y1
  have y2k := y2
  have y3k := y3
  obtain ⟨_, _, _, rfl, _⟩ := x1
  obtain ⟨_, _, _, rfl, _⟩ := x2
  obtain ⟨_, _, _, rfl, _⟩ := x3
  obtain ⟨_, _, _, rfl, _⟩ := y1
  obtain ⟨_, _, _, rfl, _⟩ := y2
  obtain ⟨_, _, _, rfl, _⟩ := y3
  refine cal_intro (C := cxo) rfl rfl rfl rfl ?_
  (refine goM ?_)
  refine st_box st ?_; intro b1 h1 st
  refine st_box st ?_; intro b2 h2 st
  (refine goM ?_)
  refine st_load (i := 1) st ?_
  (refine goM ?_)
  refine st_load (i := 0) st ?_
  by_cases f0 : x.kind = y.kind
  · refine ow_cmp (hv := eql_t f0) ?_
    (refine goM ?_)
    refine st_load (i := 1) st ?_
    (refine goM ?_)
    refine st_load (i := 0) st ?_
    by_cases f1 : x.i = y.i
    · refine ow_cmp (hv := eql_t f1) ?_
      (refine goM ?_)
      refine st_load (i := 1) st ?_
      (refine goM ?_)
      refine st_load (i := 0) st ?_
      by_cases f2 : x.j = y.j
      · refine ow_cmp (hv := eql_t f2) ?_
        (refine goM ?_)
        refine st_load (i := 1) st ?_
        (refine goM ?_)
        refine st_load (i := 0) st ?_
        by_cases f3 : x.key = y.key
        · refine ow_cmp (hv := eql_t f3) ?_
          (refine goM ?_)
          refine st_load (i := 1) st ?_
          (refine goM ?_)
          refine st_load (i := 0) st ?_
          by_cases f4 : x.by' = y.by'
          · refine ow_cmp (hv := eql_t f4) ?_
            (refine goM ?_)
            refine st_load (i := 1) st ?_
            (refine goM ?_)
            refine st_load (i := 0) st ?_
            refine ow_call (eqf_op (slOp_gr x1k st.gr) (slOp_gr y1k st.gr) st) ?_; rintro _ h8 ⟨e5, rfl, i5, st⟩
            cases e5 with
            | false =>
              have hno : x ≠ y := fun q => by have := i5.2 (by rw [q]); cases this
              (refine goM ?_)
              exact end_res st.nx rfl ⟨false, rfl, by simp; exact fun q => hno q, stA.over ((st.drop 0 rfl).drop 0 rfl)⟩
            | true =>
              (refine goM ?_)
              refine st_load (i := 1) st ?_
              (refine goM ?_)
              refine st_load (i := 0) st ?_
              refine ow_call (beq_ev (Byt.sl (x2k.gr st.gr)) (Byt.sl (y2k.gr st.gr))) ?_; rintro _ _ ⟨rfl, rfl⟩
              obtain ⟨e6, he6⟩ : ∃ e, e = decide (x.bytes = y.bytes) := ⟨_, rfl⟩
              rw [← he6]
              cases e6 with
              | false =>
                have hno : x ≠ y := fun q => (by rw [q] at he6; simp at he6)
                (refine goM ?_)
                exact end_res st.nx rfl ⟨false, rfl, by simp; exact fun q => hno q, stA.over ((st.drop 0 rfl).drop 0 rfl)⟩
              | true =>
                (refine goM ?_)
                refine st_load (i := 1) st ?_
                (refine goM ?_)
                refine st_load (i := 0) st ?_
                refine ow_call (seq_chg (x3k.gr st.gr) (y3k.gr st.gr)) ?_; rintro _ _ ⟨rfl, e7, rfl, i7⟩
                cases e7 with
                | false =>
                  have hno : x ≠ y := fun q => by have := i7.2 (by rw [q]); cases this
                  (refine goM ?_)
                  exact end_res st.nx rfl ⟨false, rfl, by simp; exact fun q => hno q, stA.over ((st.drop 0 rfl).drop 0 rfl)⟩
                | true =>
                  (refine goM ?_)
                  refine end_res st.nx rfl ⟨true, rfl, ?_, stA.over ((st.drop 0 rfl).drop 0 rfl)⟩
                  have j5 := i5.1 rfl
                  have j6 := of_decide_eq_true he6.symm
                  have j7 := i7.1 rfl
                  obtain ⟨a1, a2, a3, a4, a5, a6, a7, a8⟩ := x
                  obtain ⟨c1, c2, c3, c4, c5, c6, c7, c8⟩ := y
                  simp only at f0 f1 f2 f3 f4 j5 j6 j7
                  simp [f0, f1, f2, f3, f4, j5, j6, j7]
          · refine ow_cmp (hv := eql_f f4) ?_
            have hno : x ≠ y := fun q => f4 (by rw [q])
            (refine goM ?_)
            exact end_res st.nx rfl ⟨false, rfl, by simp; exact fun q => hno q, stA.over ((st.drop 0 rfl).drop 0 rfl)⟩
        · refine ow_cmp (hv := eql_f f3) ?_
          have hno : x ≠ y := fun q => f3 (by rw [q])
          (refine goM ?_)
          exact end_res st.nx rfl ⟨false, rfl, by simp; exact fun q => hno q, stA.over ((st.drop 0 rfl).drop 0 rfl)⟩
      · refine ow_cmp (hv := eql_f f2) ?_
        have hno : x ≠ y := fun q => f2 (by rw [q])
        (refine goM ?_)
        exact end_res st.nx rfl ⟨false, rfl, by simp; exact fun q => hno q, stA.over ((st.drop 0 rfl).drop 0 rfl)⟩
    · refine ow_cmp (hv := eql_f f1) ?_
      have hno : x ≠ y := fun q => f1 (by rw [q])
      (refine goM ?_)
      exact end_res st.nx rfl ⟨false, rfl, by simp; exact fun q => hno q, stA.over ((st.drop 0 rfl).drop 0 rfl)⟩
  · refine ow_cmp (hv := eql_f f0) ?_
    have hno : x ≠ y := fun q => f0 (by rw [q])
    (refine goM ?_)
    exact end_res st.nx rfl ⟨false, rfl, by simp; exact fun q => hno q, stA.over ((st.drop 0 rfl).drop 0 rfl)⟩
end
end Go.Proofs.YtmaccpaiaidgpaaGreatDoor

/- slices.EqualFunc. -/
namespace Go.Proofs.YtmaccpaiaidgpaaGreatDoor
open Go Go.Mir
set_option maxRecDepth 10000
section
variable {h0 h : H} {S : Nat → Prop} {As : List Asn}

set_option maxHeartbeats 4000000 in
theorem eqf_cmd {va vb : Value} {xs ys : List PCmd} (qa : Sl h S 8 (RCmd h S) va xs) (qb : Sl h S 8 (RCmd h S) vb ys) (st : St h0 S h As) : Cal cxo 90 [va, vb, .func (.func 87) ⟨[]⟩ ⟨[]⟩] h (fun r h' => ∃ b, r = .bool b ∧ (b = true ↔ xs = ys) ∧ St h0 S h' As) := by
  have stA := st
  have st := st.rebase
  have qa0 := qa
  have qb0 := qb
  obtain ⟨a, n, c, rfl, hn, hcc, h62, _⟩ := qa
  obtain ⟨a2, n2, c2, rfl, hn2, hcc2, h622, _⟩ := qb
  subst hn
  subst hn2
  refine cal_intro (C := cxo) rfl rfl rfl rfl ?_
  (refine goM ?_)
  by_cases hlen : xs.length = ys.length
  · refine ow_cmp (hv := neq_f (by omega)) ?_
    (refine goM ?_)
    refine WK.weak (L' := [(1, .slice a2 ys.length c2), (2, .func (.func 87) ⟨[]⟩ ⟨[]⟩), (15, .slice a xs.length c), (16, .int .i64 (xs.length : Int)), (17, .int .i64 ((0 : Nat) : Int))]) ?_ ⟨rfl, rfl, rfl, rfl, rfl, trivial⟩
    refine wk_inv (ι := Nat × H) (fun z => [(1, .slice a2 ys.length c2), (2, .func (.func 87) ⟨[]⟩ ⟨[]⟩), (15, .slice a xs.length c), (16, .int .i64 (xs.length : Int)), (17, .int .i64 (z.1 : Int))]) (fun z => z.2) (fun z => z.1 ≤ xs.length ∧ xs.take z.1 = ys.take z.1 ∧ St h S z.2 As) (fun z => xs.length - z.1) ?_ (0, h) ⟨Nat.zero_le _, by simp, st⟩
    clear st
    rintro ⟨i, h2⟩ ⟨hi, he, st⟩ ih
    simp only at hi he st ih ⊢
    (refine goM ?_)
    by_cases hlt : i < xs.length
    · refine ow_cmp (hv := lss_t (by omega)) ?_
      (refine goM ?_)
      obtain ⟨b, o, y, ycs, rfl, hS, hcap, hyi, hyl, hR, hrd⟩ := qa0.at hlt
      obtain ⟨b2, o2, z, zcs, rfl, hS2, hcap2, hzi, hzl, hR2, hrd2⟩ := qb0.at (show i < ys.length by omega)
      rw [← st.read hS] at hrd
      refine ow_index hlt hcap ?_
      refine ow_loadA hrd ?_
      have hRk := hR
      obtain ⟨r1, s1, p1, rfl, g1, g2, g3⟩ := hR
      obtain ⟨_, _, _, rfl, _⟩ := g1
      obtain ⟨_, _, _, rfl, _⟩ := g2
      obtain ⟨_, _, _, rfl, _⟩ := g3
      refine st_alloc st ?_; intro b3 h3 st
      (refine goM ?_)
      refine st_store (i := 0) st ?_; intro h4 st
      (refine goM ?_)
      rw [← st.read hS2] at hrd2
      refine ow_index (show i < ys.length by omega) hcap2 ?_
      refine ow_loadA hrd2 ?_
      have hR2k := hR2
      obtain ⟨r1, s1, p1, rfl, g1, g2, g3⟩ := hR2
      obtain ⟨_, _, _, rfl, _⟩ := g1
      obtain ⟨_, _, _, rfl, _⟩ := g2
      obtain ⟨_, _, _, rfl, _⟩ := g3
      refine st_alloc st ?_; intro b4 h5 st
      refine st_store (i := 0) st ?_; intro h6 st
      (refine goM ?_)
      refine st_loadA (i := 1) st ?_
      refine st_loadA (i := 0) st ?_
      refine ow_callV (eqcmd_ev (hRk.gr st.gr) (hR2k.gr st.gr) st) ?_; rintro _ h7 ⟨e, rfl, hee, st⟩
      have hnext : xs.take (i + 1) = ys.take (i + 1) ↔ y = z := by
        rw [List.take_add_one, List.take_add_one, hyi, hzi, he]
        simp
      have hall : xs = ys → y = z := fun e => by subst e; rw [hyi] at hzi; exact Option.some.inj hzi
      have st := (st.drop 0 rfl).drop 0 rfl
      cases e with
      | true =>
        have hyz : y = z := hee.1 rfl
        (refine goM ?_)
        refine ow_int (hv := add_one (by omega)) ?_
        (refine goM ?_)
        refine dn_loop ?_
        exact (ih (i + 1, h7) ⟨hlt, hnext.2 hyz, st⟩ (by simp only; omega)).weak ⟨rfl, rfl, rfl, rfl, rfl, trivial⟩
      | false =>
        (refine goM ?_)
        exact end_res st.nx rfl ⟨false, rfl, (by simp; exact fun q => (by have := hee.2 (hall q); cases this)), stA.over st⟩
    · refine ow_cmp (hv := lss_f (by omega)) ?_
      (refine goM ?_)
      have hi2 : i = xs.length := by omega
      refine end_res st.nx rfl ⟨true, rfl, by simp; rw [hi2, List.take_length, hlen, List.take_length] at he; exact he, stA.over st⟩
  · refine ow_cmp (hv := neq_t (by omega)) ?_
    (refine goM ?_)
    exact end_res st.nx rfl ⟨false, rfl, by simp; exact fun e => hlen (by rw [e]), stA.over st⟩

set_option maxHeartbeats 4000000 in
/-- script.Same. -/
theorem same_ev {x y : PScr} {cs1 cs2 : List Value} (qx : RScr h S x cs1) (qy : RScr h S y cs2) (st : St h0 S h As) : Cal cxo 31 [.agg ⟨cs1⟩, .agg ⟨cs2⟩] h (fun r h' => ∃ b, r = .bool b ∧ (b = true ↔ x = y) ∧ St h0 S h' As) := by
  have stA := st
  have st := st.rebase
  obtain ⟨xk, xc, rfl, x1, x2⟩ := qx
  obtain ⟨yk, yc, rfl, y1, y2⟩ := qy
  have x1k := x1
  have x2k := x2
  have y1k := y1
  have y2k := y2
  obtain ⟨_, _, _, rfl, _⟩ := x1
  obtain ⟨_, _, _, rfl, _⟩ := x2
  obtain ⟨_, _, _, rfl, _⟩ := y1
  obtain ⟨_, _, _, rfl, _⟩ := y2
  refine cal_intro (C := cxo) rfl rfl rfl rfl ?_
  (refine goM ?_)
  refine st_box st ?_; intro b1 h1 st
  refine st_box st ?_; intro b2 h2 st
  (refine goM ?_)
  refine st_load (i := 1) st ?_
  (refine goM ?_)
  refine st_load (i := 0) st ?_
  refine ow_call (seq_key (x1k.gr st.gr) (y1k.gr st.gr)) ?_; rintro _ _ ⟨rfl, e1, rfl, i1⟩
  cases e1 with
  | false =>
    have hno : x ≠ y := fun q => by have := i1.2 (by rw [q]); cases this
    (refine goM ?_)
    exact end_res st.nx rfl ⟨false, rfl, by simp; exact fun q => hno q, stA.over ((st.drop 0 rfl).drop 0 rfl)⟩
  | true =>
    (refine goM ?_)
    refine st_load (i := 1) st ?_
    (refine goM ?_)
    refine st_load (i := 0) st ?_
    by_cases hk : x.maxLen = y.maxLen
    · refine ow_cmp (hv := eql_t hk) ?_
      (refine goM ?_)
      refine st_load (i := 1) st ?_
      (refine goM ?_)
      refine st_load (i := 0) st ?_
      by_cases hn : x.maxUndo = y.maxUndo
      · refine ow_cmp (hv := eql_t hn) ?_
        (refine goM ?_)
        refine st_load (i := 1) st ?_
        (refine goM ?_)
        refine st_load (i := 0) st ?_
        refine ow_call (eqf_cmd (slCmd_gr x2k st.gr) (slCmd_gr y2k st.gr) st) ?_; rintro _ h3 ⟨e2, rfl, i2, st⟩
        (refine goM ?_)
        refine end_res st.nx rfl ⟨e2, by cases e2 <;> rfl, ?_, stA.over ((st.drop 0 rfl).drop 0 rfl)⟩
        have j1 := i1.1 rfl
        rw [i2]
        obtain ⟨a1, a2, a3, a4⟩ := x
        obtain ⟨c1, c2, c3, c4⟩ := y
        simp only at hk hn j1
        simp [hk, hn, j1]
      · refine ow_cmp (hv := eql_f hn) ?_
        have hno : x ≠ y := fun q => hn (by rw [q])
        (refine goM ?_)
        exact end_res st.nx rfl ⟨false, rfl, by simp; exact fun q => hno q, stA.over ((st.drop 0 rfl).drop 0 rfl)⟩
    · refine ow_cmp (hv := eql_f hk) ?_
      have hno : x ≠ y := fun q => hk (by rw [q])
      (refine goM ?_)
      exact end_res st.nx rfl ⟨false, rfl, by simp; exact fun q => hno q, stA.over ((st.drop 0 rfl).drop 0 rfl)⟩
end
end Go.Proofs.YtmaccpaiaidgpaaGreatDoor

