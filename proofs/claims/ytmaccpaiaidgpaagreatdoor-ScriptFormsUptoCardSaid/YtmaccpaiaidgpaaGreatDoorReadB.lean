/- The reader: commands; script.Read. -/
import Derived.Test.YtmaccpaiaidgpaaGreatDoorReadA
import Derived.Test.YtmaccpaiaidgpaaGreatDoorScrA
/- Reading a command. -/
namespace Go.Proofs.YtmaccpaiaidgpaaGreatDoor
open Go Go.Mir
set_option maxRecDepth 10000

/-- The letters of the kinds stand at the block 0. -/
def Fld (S : Nat → Prop) (h : H) : Prop := S 0 ∧ h.get 0 = some (.rom fieldsRom)
theorem Fld.gr {S S' : Nat → Prop} {h h' : H} (f : Fld S h) (g : Gr S h S' h') : Fld S' h' := ⟨(g.2 0 f.1).1, (g.2 0 f.1).2.trans f.2⟩

theorem fields_nth {m : Nat} (h : m < 22) : nth fieldsRom m = some (.string ⟨⟨fieldsOf (m : Int)⟩⟩) := by
  have : ∀ m : Fin 22, fieldsRom[m.val]? = some (Value.string ⟨⟨fieldsOf (m.val : Int)⟩⟩) := by
    intro m
    rcases m with ⟨m, hm⟩
    rcases m with _ | _ | _ | _ | _ | _ | _ | _ | _ | _ | _ | _ | _ | _ | _ | _ | _ | _ | _ | _ | _ | _ | m
    all_goals first | rfl | (exfalso; omega)
  rw [nth_eq]
  exact this ⟨m, h⟩

theorem fieldsOf_great {k : Int} (h : 22 ≤ k) : fieldsOf k = [] := by
  unfold fieldsOf
  rw [if_neg (by omega), if_neg (by omega), if_neg (by omega), if_neg (by omega), if_neg (by omega), if_neg (by omega), if_neg (by omega), if_neg (by omega), if_neg (by omega), if_neg (by omega), if_neg (by omega), if_neg (by omega), if_neg (by omega), if_neg (by omega)]

theorem of_ev {h : H} {S : Nat → Prop} (f : Fld S h) {k : Nat} (hk : k < 256) : Cal cxo 86 [.int .u8 (k : Int)] h (fun r h' => r = .string ⟨⟨fieldsOf (k : Int)⟩⟩ ∧ h = h') := by
  refine cal_intro (C := cxo) rfl rfl rfl rfl ?_
  (refine goM ?_)
  by_cases hq : k < 22
  · refine ow_cmp (hv := geq_f (by rw [IntWalk.i64_in _ (by omega)]; omega)) ?_
    (refine goM ?_)
    refine ow_indexArr (o := 0) (m := k) hq ?_
    refine ow_load (p := ⟨0, 0 + k * 1, none⟩) (v := .string ⟨⟨fieldsOf (k : Int)⟩⟩) (loadRom f.2 (by rw [Nat.zero_add, Nat.mul_one]; exact fields_nth hq)) ?_
    (refine goM ?_)
    exact end_res (Nat.le_refl _) rfl ⟨rfl, rfl⟩
  · refine ow_cmp (hv := geq_t (by rw [IntWalk.i64_in _ (by omega)]; omega)) ?_
    (refine goM ?_)
    refine end_res (Nat.le_refl _) rfl ⟨?_, rfl⟩
    rw [fieldsOf_great (by omega)]; rfl

/-- The place of a field that is a whole number. -/
def numAt (f : UInt8) : Option Nat := if f = 105 then some 1 else if f = 106 then some 2 else if f = 107 then some 3 else if f = 121 then some 4 else none

theorem u8_ne {f : UInt8} {n : UInt8} (h : ¬ f = n) : (f.toNat : Int) ≠ (n.toNat : Int) := fun e => h (UInt8.toNat_inj.1 (by omega))

theorem number_ev {h : H} {c0 : Nat} {f : UInt8} : Cal cxo 140 [.pointer (some ⟨c0, 0, none⟩), .int .i32 (f.toNat : Int)] h (fun r h' => h = h' ∧ r = (match numAt f with
    | some o => .tuple ⟨[.pointer (some ⟨c0, o, none⟩), .bool true]⟩
    | none => .tuple ⟨[.pointer none, .bool false]⟩)) := by
  refine cal_intro (C := cxo) rfl rfl rfl rfl ?_
  (refine goM ?_)
  by_cases h1 : f = 105
  · subst h1
    refine ow_cmp (hv := eql_t rfl) ?_
    (refine goM ?_)
    exact end_res (Nat.le_refl _) rfl ⟨rfl, rfl⟩
  refine ow_cmp (hv := eql_f (u8_ne h1)) ?_
  (refine goM ?_)
  by_cases h2 : f = 106
  · subst h2
    refine ow_cmp (hv := eql_t rfl) ?_
    (refine goM ?_)
    exact end_res (Nat.le_refl _) rfl ⟨rfl, rfl⟩
  refine ow_cmp (hv := eql_f (u8_ne h2)) ?_
  (refine goM ?_)
  by_cases h3 : f = 107
  · subst h3
    refine ow_cmp (hv := eql_t rfl) ?_
    (refine goM ?_)
    exact end_res (Nat.le_refl _) rfl ⟨rfl, rfl⟩
  refine ow_cmp (hv := eql_f (u8_ne h3)) ?_
  (refine goM ?_)
  by_cases h4 : f = 121
  · subst h4
    refine ow_cmp (hv := eql_t rfl) ?_
    (refine goM ?_)
    exact end_res (Nat.le_refl _) rfl ⟨rfl, rfl⟩
  refine ow_cmp (hv := eql_f (u8_ne h4)) ?_
  (refine goM ?_)
  refine end_res (Nat.le_refl _) rfl ⟨rfl, ?_⟩
  unfold numAt
  rw [if_neg h1, if_neg h2, if_neg h3, if_neg h4]
  rfl
end Go.Proofs.YtmaccpaiaidgpaaGreatDoor

/- Reading a command, whole. -/
namespace Go.Proofs.YtmaccpaiaidgpaaGreatDoor
open Go Go.Mir
set_option maxRecDepth 10000

def RCmd (h : H) (S : Nat → Prop) (c : PCmd) (cs : List Value) : Prop :=
  ∃ o bt p, cs = [.int .u8 c.kind, .int .i64 c.i, .int .i64 c.j, .int .i64 c.key, .int .i64 c.by', o, bt, p] ∧ Sl h S 5 (Go.Mir.ROp h S) o c.ops ∧ Sl h S 1 RByte bt c.bytes ∧ Sl h S 6 (LChg h S) p c.patch

theorem slOp_gr {h h' : H} {S S' : Nat → Prop} {v : Value} {xs : List POp} (q : Sl h S 5 (Go.Mir.ROp h S) v xs) (g : Gr S h S' h') : Sl h' S' 5 (Go.Mir.ROp h' S') v xs := q.to g.2 fun _ _ q => q.gr g
theorem RCmd.gr {h h' : H} {S S' : Nat → Prop} {c : PCmd} {cs : List Value} (q : RCmd h S c cs) (g : Gr S h S' h') : RCmd h' S' c cs := by
  obtain ⟨o, bt, p, e, h1, h2, h3⟩ := q
  exact ⟨o, bt, p, e, slOp_gr h1 g, h2.gr g, h3.gr g⟩

theorem of_evI {h : H} {S : Nat → Prop} (f : Fld S h) {k : Int} (hk : u8ok k) : Cal cxo 86 [.int .u8 k] h (fun r h' => r = .string ⟨⟨fieldsOf k⟩⟩ ∧ h = h') := by
  obtain ⟨n, rfl⟩ := Int.eq_ofNat_of_zero_le hk.1
  exact of_ev f (by have := hk.2; omega)

theorem wrap_u8ok (n : Int) : u8ok (IntKind.u8.wrap n) := by
  rw [IntKind.wrap_u8]; unfold u8ok; omega

structure CmdSt where
  S : Nat → Prop
  h : H
  ip : Nat
  bad : Bool
  c : PCmd
  o : Value
  bt : Value
  p : Value
  pos : Nat

/-- A command whose bytes lie in none of these blocks. -/
def RCmdF (E : Nat → Prop) (h : H) (S : Nat → Prop) (c : PCmd) (cs : List Value) : Prop :=
  ∃ o bt p, cs = [.int .u8 c.kind, .int .i64 c.i, .int .i64 c.j, .int .i64 c.key, .int .i64 c.by', o, bt, p] ∧ Sl h S 5 (Go.Mir.ROp h S) o c.ops ∧ SlB E h S bt c.bytes ∧ Sl h S 6 (LChg h S) p c.patch
theorem RCmdF.cmd {E : Nat → Prop} {h : H} {S : Nat → Prop} {c : PCmd} {cs : List Value} (q : RCmdF E h S c cs) : RCmd h S c cs := by
  obtain ⟨o, bt, p, e, a, b, d⟩ := q
  exact ⟨o, bt, p, e, a, b.1, d⟩
theorem RCmdF.gr {E : Nat → Prop} {h h' : H} {S S' : Nat → Prop} {c : PCmd} {cs : List Value} (q : RCmdF E h S c cs) (g : Gr S h S' h') : RCmdF E h' S' c cs := by
  obtain ⟨o, bt, p, e, a, b, d⟩ := q
  exact ⟨o, bt, p, e, slOp_gr a g, b.gr g, d.gr g⟩
def CmdCs (c : PCmd) (o bt p : Value) : List Value := [.int .u8 c.kind, .int .i64 c.i, .int .i64 c.j, .int .i64 c.key, .int .i64 c.by', o, bt, p]
theorem sl_nil {α : Type} {h : H} {S : Nat → Prop} {w : Nat} {R : α → List Value → Prop} : Sl h S w R (.slice none 0 0) [] := ⟨none, 0, 0, rfl, rfl, Nat.zero_le _, by decide, rfl, rfl⟩









section
variable {h : H} {S : Nat → Prop} {R : Nat} {bv : Value} {b : List UInt8} {i : Nat} {bad : Bool} {As : List Asn}

set_option maxHeartbeats 8000000 in
theorem command_ev (f : Fld S h) (hb : Bs h S bv b) (hl : b.length ≤ 2 ^ 20) (hi : i ≤ b.length) (st : St h S h (RdAt R bv i bad :: As)) :
    Cal cxo 67 [.pointer (some ⟨R, 0, none⟩)] h (RdPost (fun h' S' r x => ∃ cs, r = .agg ⟨cs⟩ ∧ RCmdF S h' S' x cs) (fun c => PCmd.okR c ∧ mayC c) wCmd S h R bv b i bad As) := by
  refine cal_intro (C := cxo) rfl rfl rfl rfl ?_
  (refine goM ?_)
  refine st_alloc st ?_; intro b0 h1 st
  (refine goM ?_)
  have st := st.pull 1 rfl
  refine ow_call (upto_ev hb hi st 255) ?_; rintro _ h2 ⟨x1, i1, bad1, rfl, st, o1⟩
  (refine goM ?_)
  refine ow_build ?_
  refine st_alloc st ?_; intro b1 h3 st
  refine st_store (i := 0) st ?_; intro h4 st
  (refine goM ?_)
  refine st_load (i := 0) st ?_
  obtain ⟨kd, hkd⟩ : ∃ kd, kd = IntKind.u8.wrap (x1 : Int) := ⟨_, rfl⟩
  have hkd8 : u8ok kd := hkd ▸ wrap_u8ok _
  refine ow_call (of_evI (f.gr st.gr) (wrap_u8ok _)) ?_; rintro _ _ ⟨rfl, rfl⟩
  refine ow_eqS ?_
  rw [← hkd] at st ⊢
  obtain ⟨e, he⟩ : ∃ e, e = decide (fieldsOf kd = []) := ⟨_, rfl⟩
  rw [← he]
  cases e with
  | true =>
    have hq : fieldsOf kd = [] := of_decide_eq_true he.symm
    (refine goM ?_)
    refine st_store (i := 1) st ?_; intro h5 st
    (refine goM ?_)
    have hbad : (if fieldsOf kd = [] then true else bad1) = true := if_pos hq
    have st := st.pull 1 rfl
    (refine goM ?_)
    refine st_load (i := 1) st ?_
    refine ow_call (of_evI (f.gr st.gr) hkd8) ?_; rintro _ _ ⟨rfl, rfl⟩
    refine st_range st ?_; intro b2 h6 st
    have st := st.pull 1 rfl
    (refine goM ?_)
    refine WK.weak (L' := [(0, .pointer (some ⟨R, 0, none⟩)), (2, .pointer (some ⟨b0, 0, none⟩)), (3, .pointer (some ⟨b1, 0, none⟩)), (22, .pointer (some ⟨b2, 0, none⟩))]) ?_ ⟨rfl, rfl, rfl, rfl, trivial⟩
    refine wk_inv (ι := CmdSt) (fun s => [(0, .pointer (some ⟨R, 0, none⟩)), (2, .pointer (some ⟨b0, 0, none⟩)), (3, .pointer (some ⟨b1, 0, none⟩)), (22, .pointer (some ⟨b2, 0, none⟩))]) (fun s => s.h)
      (fun s => Gr S h s.S s.h ∧ St s.h s.S s.h (RdAt R bv s.ip s.bad :: blk b2 (.iter ⟨⟨fieldsOf kd⟩⟩ s.pos) :: blk b1 (.cells (CmdCs s.c s.o s.bt s.p) 0) :: blk b0 (.cells (CmdCs ⟨0, 0, 0, 0, 0, [], [], []⟩ (.slice none 0 0) (.slice none 0 0) (.slice none 0 0)) 0) :: As) ∧ Sl s.h s.S 5 (Go.Mir.ROp s.h s.S) s.o s.c.ops ∧ SlB S s.h s.S s.bt s.c.bytes ∧ Sl s.h s.S 6 (LChg s.h s.S) s.p s.c.patch ∧ s.c.kind = kd ∧ s.pos ≤ (fieldsOf kd).length ∧ RFld (fieldsOf kd) b i1 true s.pos s.ip s.bad s.c) (fun s => (fieldsOf kd).length - s.pos) ?_
      ⟨S, h6, i1, true, ⟨kd, 0, 0, 0, 0, [], [], []⟩, .slice none 0 0, .slice none 0 0, .slice none 0 0, 0⟩ ⟨st.gr, st.rebase, sl_nil, SlB.nil, sl_nil, rfl, Nat.zero_le _, RFld.start o1.1 hkd8⟩
    rintro ⟨S1, h2, ip, badp, c, o, bt, p, pos⟩ ⟨g1, st, d1, d2, d3, hk, hp, rf⟩ ih
    simp only at g1 st d1 d2 d3 hk hp rf ih ⊢
    (refine goM ?_)
    by_cases hlt : pos < (fieldsOf kd).length
    · obtain ⟨fl, hf⟩ : ∃ fl, (fieldsOf kd)[pos]? = some fl := ⟨_, List.getElem?_eq_getElem hlt⟩
      have hmem : fl ∈ fieldsOf kd := List.mem_of_getElem? hf
      have hl8 := fields_letters hmem
      have h7 : fl.toNat < 128 := by rcases hl8 with rfl | rfl | rfl | rfl | rfl | rfl | rfl | rfl <;> decide
      have hnb := not_before (fields_nodup kd) hf
      have hp2 : pos + 1 ≤ (fieldsOf kd).length := hlt
      refine st_next (f := fl) 1 hf h7 st ?_; intro h3 st
      (refine goM ?_)
      rcases hl8 with rfl | rfl | rfl | rfl | rfl | rfl | rfl | rfl
      · skip
        refine ow_call number_ev ?_; rintro _ _ ⟨rfl, rfl⟩
        (refine goM ?_)
        refine ow_call (int_ev (hb.gr g1) rf.1 st) ?_; rintro _ h7 ⟨x, ip2, bad2, rfl, st, ro⟩
        (refine goM ?_)
        refine st_store (i := 2) st ?_; intro h8 st
        (refine goM ?_)
        refine ow_cmp (hv := eql_f (by decide)) ?_
        (refine goM ?_)
        refine ow_cmp (hv := eql_f (by decide)) ?_
        (refine goM ?_)
        refine ow_cmp (hv := eql_f (by decide)) ?_
        (refine goM ?_)
        refine dn_loop ?_
        refine (ih ⟨S1, h8, ip2, bad2, ⟨c.kind, x, c.j, c.key, c.by', c.ops, c.bytes, c.patch⟩, o, bt, p, pos + 1⟩ ⟨g1.trans st.gr, st.rebase, slOp_gr d1 st.gr, d2.gr st.gr, d3.gr st.gr, hk, hp2, ?_⟩ (by simp only; omega)).weak ⟨rfl, rfl, rfl, rfl, trivial⟩
        refine rf.step hf ro.1 ro.2.1 (fun q1 q2 => ?_) (fun g hg => ?_) (fun l hl => ?_)
        · rcases ro.2.2 q1 with ⟨z1, z2, z3⟩ | ⟨z1, z2⟩
          · exact .inl ⟨z1, ⟨q2.1, z2, q2.2.2.1, q2.2.2.2.1, q2.2.2.2.2.1, q2.2.2.2.2.2⟩, z3⟩
          · exact .inr ⟨z1, fun y hy rest => z2 _ hy.2.1 rest⟩
        · have hne := hnb g hg
          unfold wField
          simp only [hne, if_false]
        · obtain ⟨l1, l2, l3, l4, l5, l6, l7⟩ := hl
          refine ⟨?_, ?_, ?_, ?_, ?_, ?_, ?_⟩
          all_goals (intro hh; simp only [List.mem_append, List.mem_singleton, not_or] at hh; first | exact l1 hh.1 | exact l2 hh.1 | exact l3 hh.1 | exact l4 hh.1 | exact l5 hh.1 | exact l6 hh.1 | exact l7 hh.1 | exact absurd trivial hh.2 | exact absurd rfl hh.2)
      · skip
        refine ow_call number_ev ?_; rintro _ _ ⟨rfl, rfl⟩
        (refine goM ?_)
        refine ow_call (int_ev (hb.gr g1) rf.1 st) ?_; rintro _ h7 ⟨x, ip2, bad2, rfl, st, ro⟩
        (refine goM ?_)
        refine st_store (i := 2) st ?_; intro h8 st
        (refine goM ?_)
        refine ow_cmp (hv := eql_f (by decide)) ?_
        (refine goM ?_)
        refine ow_cmp (hv := eql_f (by decide)) ?_
        (refine goM ?_)
        refine ow_cmp (hv := eql_f (by decide)) ?_
        (refine goM ?_)
        refine dn_loop ?_
        refine (ih ⟨S1, h8, ip2, bad2, ⟨c.kind, c.i, x, c.key, c.by', c.ops, c.bytes, c.patch⟩, o, bt, p, pos + 1⟩ ⟨g1.trans st.gr, st.rebase, slOp_gr d1 st.gr, d2.gr st.gr, d3.gr st.gr, hk, hp2, ?_⟩ (by simp only; omega)).weak ⟨rfl, rfl, rfl, rfl, trivial⟩
        refine rf.step hf ro.1 ro.2.1 (fun q1 q2 => ?_) (fun g hg => ?_) (fun l hl => ?_)
        · rcases ro.2.2 q1 with ⟨z1, z2, z3⟩ | ⟨z1, z2⟩
          · exact .inl ⟨z1, ⟨q2.1, q2.2.1, z2, q2.2.2.2.1, q2.2.2.2.2.1, q2.2.2.2.2.2⟩, z3⟩
          · exact .inr ⟨z1, fun y hy rest => z2 _ hy.2.2.1 rest⟩
        · have hne := hnb g hg
          unfold wField
          simp only [hne, if_false]
        · obtain ⟨l1, l2, l3, l4, l5, l6, l7⟩ := hl
          refine ⟨?_, ?_, ?_, ?_, ?_, ?_, ?_⟩
          all_goals (intro hh; simp only [List.mem_append, List.mem_singleton, not_or] at hh; first | exact l1 hh.1 | exact l2 hh.1 | exact l3 hh.1 | exact l4 hh.1 | exact l5 hh.1 | exact l6 hh.1 | exact l7 hh.1 | exact absurd trivial hh.2 | exact absurd rfl hh.2)
      · skip
        refine ow_call number_ev ?_; rintro _ _ ⟨rfl, rfl⟩
        (refine goM ?_)
        refine ow_call (int_ev (hb.gr g1) rf.1 st) ?_; rintro _ h7 ⟨x, ip2, bad2, rfl, st, ro⟩
        (refine goM ?_)
        refine st_store (i := 2) st ?_; intro h8 st
        (refine goM ?_)
        refine ow_cmp (hv := eql_f (by decide)) ?_
        (refine goM ?_)
        refine ow_cmp (hv := eql_f (by decide)) ?_
        (refine goM ?_)
        refine ow_cmp (hv := eql_f (by decide)) ?_
        (refine goM ?_)
        refine dn_loop ?_
        refine (ih ⟨S1, h8, ip2, bad2, ⟨c.kind, c.i, c.j, x, c.by', c.ops, c.bytes, c.patch⟩, o, bt, p, pos + 1⟩ ⟨g1.trans st.gr, st.rebase, slOp_gr d1 st.gr, d2.gr st.gr, d3.gr st.gr, hk, hp2, ?_⟩ (by simp only; omega)).weak ⟨rfl, rfl, rfl, rfl, trivial⟩
        refine rf.step hf ro.1 ro.2.1 (fun q1 q2 => ?_) (fun g hg => ?_) (fun l hl => ?_)
        · rcases ro.2.2 q1 with ⟨z1, z2, z3⟩ | ⟨z1, z2⟩
          · exact .inl ⟨z1, ⟨q2.1, q2.2.1, q2.2.2.1, z2, q2.2.2.2.2.1, q2.2.2.2.2.2⟩, z3⟩
          · exact .inr ⟨z1, fun y hy rest => z2 _ hy.2.2.2.1 rest⟩
        · have hne := hnb g hg
          unfold wField
          simp only [hne, if_false]
        · obtain ⟨l1, l2, l3, l4, l5, l6, l7⟩ := hl
          refine ⟨?_, ?_, ?_, ?_, ?_, ?_, ?_⟩
          all_goals (intro hh; simp only [List.mem_append, List.mem_singleton, not_or] at hh; first | exact l1 hh.1 | exact l2 hh.1 | exact l3 hh.1 | exact l4 hh.1 | exact l5 hh.1 | exact l6 hh.1 | exact l7 hh.1 | exact absurd trivial hh.2 | exact absurd rfl hh.2)
      · skip
        refine ow_call number_ev ?_; rintro _ _ ⟨rfl, rfl⟩
        (refine goM ?_)
        refine ow_call (int_ev (hb.gr g1) rf.1 st) ?_; rintro _ h7 ⟨x, ip2, bad2, rfl, st, ro⟩
        (refine goM ?_)
        refine st_store (i := 2) st ?_; intro h8 st
        (refine goM ?_)
        refine ow_cmp (hv := eql_f (by decide)) ?_
        (refine goM ?_)
        refine ow_cmp (hv := eql_f (by decide)) ?_
        (refine goM ?_)
        refine ow_cmp (hv := eql_f (by decide)) ?_
        (refine goM ?_)
        refine dn_loop ?_
        refine (ih ⟨S1, h8, ip2, bad2, ⟨c.kind, c.i, c.j, c.key, x, c.ops, c.bytes, c.patch⟩, o, bt, p, pos + 1⟩ ⟨g1.trans st.gr, st.rebase, slOp_gr d1 st.gr, d2.gr st.gr, d3.gr st.gr, hk, hp2, ?_⟩ (by simp only; omega)).weak ⟨rfl, rfl, rfl, rfl, trivial⟩
        refine rf.step hf ro.1 ro.2.1 (fun q1 q2 => ?_) (fun g hg => ?_) (fun l hl => ?_)
        · rcases ro.2.2 q1 with ⟨z1, z2, z3⟩ | ⟨z1, z2⟩
          · exact .inl ⟨z1, ⟨q2.1, q2.2.1, q2.2.2.1, q2.2.2.2.1, z2, q2.2.2.2.2.2⟩, z3⟩
          · exact .inr ⟨z1, fun y hy rest => z2 _ hy.2.2.2.2.1 rest⟩
        · have hne := hnb g hg
          unfold wField
          simp only [hne, if_false]
        · obtain ⟨l1, l2, l3, l4, l5, l6, l7⟩ := hl
          refine ⟨?_, ?_, ?_, ?_, ?_, ?_, ?_⟩
          all_goals (intro hh; simp only [List.mem_append, List.mem_singleton, not_or] at hh; first | exact l1 hh.1 | exact l2 hh.1 | exact l3 hh.1 | exact l4 hh.1 | exact l5 hh.1 | exact l6 hh.1 | exact l7 hh.1 | exact absurd trivial hh.2 | exact absurd rfl hh.2)
      · refine ow_call number_ev ?_; rintro _ _ ⟨rfl, rfl⟩
        (refine goM ?_)
        refine ow_cmp (hv := eql_t (by decide)) ?_
        (refine goM ?_)
        refine ow_call (sev_op (Bs.now (hb.gr g1) st) hl rf.1 st.rebase) ?_; rintro v h4 ⟨S2, xs, ip2, bad2, g2, q2, st2, ro⟩
        obtain ⟨va, vn, vc, rfl, q2'⟩ := q2
        have q2 : Sl h4 S2 5 (Go.Mir.ROp h4 S2) (.slice va vn vc) xs := ⟨va, vn, vc, rfl, q2'⟩
        (refine goM ?_)
        refine st_store (i := 2) st2 ?_; intro h5 st5
        (refine goM ?_)
        refine dn_loop ?_
        have G := (st.gr.trans g2).trans st5.gr
        refine (ih ⟨S2, h5, ip2, bad2, ⟨c.kind, c.i, c.j, c.key, c.by', xs, c.bytes, c.patch⟩, .slice va vn vc, bt, p, pos + 1⟩ ⟨g1.trans G, st5.rebase, slOp_gr q2 st5.gr, d2.gr G, d3.gr G, hk, hp2, ?_⟩ (by simp only; omega)).weak ⟨rfl, rfl, rfl, rfl, trivial⟩
        refine rf.step hf ro.1 ro.2.1 (fun q1 q2 => ?_) (fun g hg => ?_) (fun l hl => ?_)
        · rcases ro.2.2 q1 with ⟨z1, z2, z3⟩ | ⟨z1, z2⟩
          · exact .inl ⟨z1, ⟨q2.1, q2.2.1, q2.2.2.1, q2.2.2.2.1, q2.2.2.2.2.1, z2, q2.2.2.2.2.2.2⟩, z3⟩
          · exact .inr ⟨z1, fun y hy rest => z2 _ hy.2.2.2.2.2.1 rest⟩
        · skip
          have hne := hnb g hg
          unfold wField
          simp only [hne, if_false]
        · skip
          obtain ⟨l1, l2, l3, l4, l5, l6, l7⟩ := hl
          refine ⟨?_, ?_, ?_, ?_, ?_, ?_, ?_⟩
          all_goals (intro hh; simp only [List.mem_append, List.mem_singleton, not_or] at hh; first | exact l1 hh.1 | exact l2 hh.1 | exact l3 hh.1 | exact l4 hh.1 | exact l5 hh.1 | exact l6 hh.1 | exact l7 hh.1 | exact absurd trivial hh.2 | exact absurd rfl hh.2)
      · refine ow_call number_ev ?_; rintro _ _ ⟨rfl, rfl⟩
        (refine goM ?_)
        refine ow_cmp (hv := eql_f (by decide)) ?_
        (refine goM ?_)
        refine ow_cmp (hv := eql_t (by decide)) ?_
        (refine goM ?_)
        refine ow_call (bytes_ev (Bs.now (hb.gr g1) st) (by omega) rf.1 st.rebase) ?_; rintro v h4 ⟨S2, xs, ip2, bad2, g2, q2, st2, ro⟩
        have q2 := q2.mono fun a ha => (g1.2 a ha).1
        have q2k := q2
        obtain ⟨⟨va, vn, vc, rfl, _⟩, _⟩ := q2
        have q2 := q2k
        (refine goM ?_)
        refine st_store (i := 2) st2 ?_; intro h5 st5
        (refine goM ?_)
        refine dn_loop ?_
        have G := (st.gr.trans g2).trans st5.gr
        refine (ih ⟨S2, h5, ip2, bad2, ⟨c.kind, c.i, c.j, c.key, c.by', c.ops, xs, c.patch⟩, o, .slice va vn vc, p, pos + 1⟩ ⟨g1.trans G, st5.rebase, slOp_gr d1 G, q2.gr st5.gr, d3.gr G, hk, hp2, ?_⟩ (by simp only; omega)).weak ⟨rfl, rfl, rfl, rfl, trivial⟩
        refine rf.step hf ro.1 ro.2.1 (fun q1 q2 => ?_) (fun g hg => ?_) (fun l hl => ?_)
        · rcases ro.2.2 q1 with ⟨z1, z2, z3⟩ | ⟨z1, z2⟩
          · exact .inl ⟨z1, q2, z3⟩
          · exact .inr ⟨z1, fun y hy rest => z2 _ trivial rest⟩
        · skip
          have hne := hnb g hg
          unfold wField
          simp only [hne, if_false]
        · skip
          obtain ⟨l1, l2, l3, l4, l5, l6, l7⟩ := hl
          refine ⟨?_, ?_, ?_, ?_, ?_, ?_, ?_⟩
          all_goals (intro hh; simp only [List.mem_append, List.mem_singleton, not_or] at hh; first | exact l1 hh.1 | exact l2 hh.1 | exact l3 hh.1 | exact l4 hh.1 | exact l5 hh.1 | exact l6 hh.1 | exact l7 hh.1 | exact absurd trivial hh.2 | exact absurd rfl hh.2)
      · refine ow_call number_ev ?_; rintro _ _ ⟨rfl, rfl⟩
        (refine goM ?_)
        refine ow_cmp (hv := eql_f (by decide)) ?_
        (refine goM ?_)
        refine ow_cmp (hv := eql_f (by decide)) ?_
        (refine goM ?_)
        refine ow_cmp (hv := eql_t (by decide)) ?_
        (refine goM ?_)
        refine ow_call (sev_chg (Bs.now (hb.gr g1) st) hl rf.1 st.rebase) ?_; rintro v h4 ⟨S2, xs, ip2, bad2, g2, q2, st2, ro⟩
        obtain ⟨va, vn, vc, rfl, q2'⟩ := q2
        have q2 : Sl h4 S2 6 (LChg h4 S2) (.slice va vn vc) xs := ⟨va, vn, vc, rfl, q2'⟩
        (refine goM ?_)
        refine st_store (i := 2) st2 ?_; intro h5 st5
        (refine goM ?_)
        refine dn_loop ?_
        have G := (st.gr.trans g2).trans st5.gr
        refine (ih ⟨S2, h5, ip2, bad2, ⟨c.kind, c.i, c.j, c.key, c.by', c.ops, c.bytes, xs⟩, o, bt, .slice va vn vc, pos + 1⟩ ⟨g1.trans G, st5.rebase, slOp_gr d1 G, d2.gr G, q2.gr st5.gr, hk, hp2, ?_⟩ (by simp only; omega)).weak ⟨rfl, rfl, rfl, rfl, trivial⟩
        refine rf.step hf ro.1 ro.2.1 (fun q1 q2 => ?_) (fun g hg => ?_) (fun l hl => ?_)
        · rcases ro.2.2 q1 with ⟨z1, z2, z3⟩ | ⟨z1, z2⟩
          · exact .inl ⟨z1, ⟨q2.1, q2.2.1, q2.2.2.1, q2.2.2.2.1, q2.2.2.2.2.1, q2.2.2.2.2.2.1, z2⟩, z3⟩
          · exact .inr ⟨z1, fun y hy rest => z2 _ hy.2.2.2.2.2.2 rest⟩
        · skip
          have hne := hnb g hg
          unfold wField
          simp only [hne, if_false]
        · skip
          obtain ⟨l1, l2, l3, l4, l5, l6, l7⟩ := hl
          refine ⟨?_, ?_, ?_, ?_, ?_, ?_, ?_⟩
          all_goals (intro hh; simp only [List.mem_append, List.mem_singleton, not_or] at hh; first | exact l1 hh.1 | exact l2 hh.1 | exact l3 hh.1 | exact l4 hh.1 | exact l5 hh.1 | exact l6 hh.1 | exact l7 hh.1 | exact absurd trivial hh.2 | exact absurd rfl hh.2)
      · refine ow_call number_ev ?_; rintro _ _ ⟨rfl, rfl⟩
        (refine goM ?_)
        refine ow_cmp (hv := eql_f (by decide)) ?_
        (refine goM ?_)
        refine ow_cmp (hv := eql_f (by decide)) ?_
        (refine goM ?_)
        refine ow_cmp (hv := eql_f (by decide)) ?_
        (refine goM ?_)
        refine dn_loop ?_
        refine (ih ⟨S1, h3, ip, badp, c, o, bt, p, pos + 1⟩ ⟨g1.trans st.gr, st.rebase, slOp_gr d1 st.gr, d2.gr st.gr, d3.gr st.gr, hk, hp2, ?_⟩ (by simp only; omega)).weak ⟨rfl, rfl, rfl, rfl, trivial⟩
        refine rf.step hf rf.1 (fun q => q) (fun q1 q2 => .inl ⟨q1, q2, rfl⟩) (fun _ _ => rfl) (fun l hl => ?_)
        obtain ⟨l1, l2, l3, l4, l5, l6, l7⟩ := hl
        refine ⟨?_, ?_, ?_, ?_, ?_, ?_, ?_⟩
        all_goals (intro hh; simp only [List.mem_append, List.mem_singleton, not_or] at hh; first | exact l1 hh.1 | exact l2 hh.1 | exact l3 hh.1 | exact l4 hh.1 | exact l5 hh.1 | exact l6 hh.1 | exact l7 hh.1)
    · refine st_nextEnd (fs := fieldsOf kd) (p := pos) 1 (by omega) st ?_
      have d1k := d1
      have d2k := d2
      have d3k := d3
      obtain ⟨oa, on, oc, rfl, _⟩ := d1
      obtain ⟨⟨ta, tn, tc, rfl, _⟩, _⟩ := d2
      obtain ⟨pa, pn, pc, rfl, _⟩ := d3
      (refine goM ?_)
      refine st_loadA (i := 2) st ?_
      refine st_store (i := 3) st ?_; intro h3 st
      (refine goM ?_)
      subst hk
      refine end_cellA rfl (g1.trans st.gr).1 (readOf (st.get 3 rfl) rfl) ⟨S1, c, ip, badp, g1.trans st.gr, ⟨_, rfl, _, _, _, rfl, slOp_gr d1k st.gr, d2k.gr st.gr, d3k.gr st.gr⟩, (((st.drop 1 rfl).drop 1 rfl).drop 1 rfl).rebase, ?_⟩
      refine RFld.done o1 hkd ?_
      have : pos = (fieldsOf c.kind).length := by omega
      rw [hbad, ← this]; exact rf
  | false =>
    have hq : ¬ fieldsOf kd = [] := of_decide_eq_false he.symm
    have hbad : (if fieldsOf kd = [] then true else bad1) = bad1 := if_neg hq
    have st := st.pull 1 rfl
    (refine goM ?_)
    refine st_load (i := 1) st ?_
    refine ow_call (of_evI (f.gr st.gr) hkd8) ?_; rintro _ _ ⟨rfl, rfl⟩
    refine st_range st ?_; intro b2 h6 st
    have st := st.pull 1 rfl
    (refine goM ?_)
    refine WK.weak (L' := [(0, .pointer (some ⟨R, 0, none⟩)), (2, .pointer (some ⟨b0, 0, none⟩)), (3, .pointer (some ⟨b1, 0, none⟩)), (22, .pointer (some ⟨b2, 0, none⟩))]) ?_ ⟨rfl, rfl, rfl, rfl, trivial⟩
    refine wk_inv (ι := CmdSt) (fun s => [(0, .pointer (some ⟨R, 0, none⟩)), (2, .pointer (some ⟨b0, 0, none⟩)), (3, .pointer (some ⟨b1, 0, none⟩)), (22, .pointer (some ⟨b2, 0, none⟩))]) (fun s => s.h)
      (fun s => Gr S h s.S s.h ∧ St s.h s.S s.h (RdAt R bv s.ip s.bad :: blk b2 (.iter ⟨⟨fieldsOf kd⟩⟩ s.pos) :: blk b1 (.cells (CmdCs s.c s.o s.bt s.p) 0) :: blk b0 (.cells (CmdCs ⟨0, 0, 0, 0, 0, [], [], []⟩ (.slice none 0 0) (.slice none 0 0) (.slice none 0 0)) 0) :: As) ∧ Sl s.h s.S 5 (Go.Mir.ROp s.h s.S) s.o s.c.ops ∧ SlB S s.h s.S s.bt s.c.bytes ∧ Sl s.h s.S 6 (LChg s.h s.S) s.p s.c.patch ∧ s.c.kind = kd ∧ s.pos ≤ (fieldsOf kd).length ∧ RFld (fieldsOf kd) b i1 bad1 s.pos s.ip s.bad s.c) (fun s => (fieldsOf kd).length - s.pos) ?_
      ⟨S, h6, i1, bad1, ⟨kd, 0, 0, 0, 0, [], [], []⟩, .slice none 0 0, .slice none 0 0, .slice none 0 0, 0⟩ ⟨st.gr, st.rebase, sl_nil, SlB.nil, sl_nil, rfl, Nat.zero_le _, RFld.start o1.1 hkd8⟩
    rintro ⟨S1, h2, ip, badp, c, o, bt, p, pos⟩ ⟨g1, st, d1, d2, d3, hk, hp, rf⟩ ih
    simp only at g1 st d1 d2 d3 hk hp rf ih ⊢
    (refine goM ?_)
    by_cases hlt : pos < (fieldsOf kd).length
    · obtain ⟨fl, hf⟩ : ∃ fl, (fieldsOf kd)[pos]? = some fl := ⟨_, List.getElem?_eq_getElem hlt⟩
      have hmem : fl ∈ fieldsOf kd := List.mem_of_getElem? hf
      have hl8 := fields_letters hmem
      have h7 : fl.toNat < 128 := by rcases hl8 with rfl | rfl | rfl | rfl | rfl | rfl | rfl | rfl <;> decide
      have hnb := not_before (fields_nodup kd) hf
      have hp2 : pos + 1 ≤ (fieldsOf kd).length := hlt
      refine st_next (f := fl) 1 hf h7 st ?_; intro h3 st
      (refine goM ?_)
      rcases hl8 with rfl | rfl | rfl | rfl | rfl | rfl | rfl | rfl
      · skip
        refine ow_call number_ev ?_; rintro _ _ ⟨rfl, rfl⟩
        (refine goM ?_)
        refine ow_call (int_ev (hb.gr g1) rf.1 st) ?_; rintro _ h7 ⟨x, ip2, bad2, rfl, st, ro⟩
        (refine goM ?_)
        refine st_store (i := 2) st ?_; intro h8 st
        (refine goM ?_)
        refine ow_cmp (hv := eql_f (by decide)) ?_
        (refine goM ?_)
        refine ow_cmp (hv := eql_f (by decide)) ?_
        (refine goM ?_)
        refine ow_cmp (hv := eql_f (by decide)) ?_
        (refine goM ?_)
        refine dn_loop ?_
        refine (ih ⟨S1, h8, ip2, bad2, ⟨c.kind, x, c.j, c.key, c.by', c.ops, c.bytes, c.patch⟩, o, bt, p, pos + 1⟩ ⟨g1.trans st.gr, st.rebase, slOp_gr d1 st.gr, d2.gr st.gr, d3.gr st.gr, hk, hp2, ?_⟩ (by simp only; omega)).weak ⟨rfl, rfl, rfl, rfl, trivial⟩
        refine rf.step hf ro.1 ro.2.1 (fun q1 q2 => ?_) (fun g hg => ?_) (fun l hl => ?_)
        · rcases ro.2.2 q1 with ⟨z1, z2, z3⟩ | ⟨z1, z2⟩
          · exact .inl ⟨z1, ⟨q2.1, z2, q2.2.2.1, q2.2.2.2.1, q2.2.2.2.2.1, q2.2.2.2.2.2⟩, z3⟩
          · exact .inr ⟨z1, fun y hy rest => z2 _ hy.2.1 rest⟩
        · have hne := hnb g hg
          unfold wField
          simp only [hne, if_false]
        · obtain ⟨l1, l2, l3, l4, l5, l6, l7⟩ := hl
          refine ⟨?_, ?_, ?_, ?_, ?_, ?_, ?_⟩
          all_goals (intro hh; simp only [List.mem_append, List.mem_singleton, not_or] at hh; first | exact l1 hh.1 | exact l2 hh.1 | exact l3 hh.1 | exact l4 hh.1 | exact l5 hh.1 | exact l6 hh.1 | exact l7 hh.1 | exact absurd trivial hh.2 | exact absurd rfl hh.2)
      · skip
        refine ow_call number_ev ?_; rintro _ _ ⟨rfl, rfl⟩
        (refine goM ?_)
        refine ow_call (int_ev (hb.gr g1) rf.1 st) ?_; rintro _ h7 ⟨x, ip2, bad2, rfl, st, ro⟩
        (refine goM ?_)
        refine st_store (i := 2) st ?_; intro h8 st
        (refine goM ?_)
        refine ow_cmp (hv := eql_f (by decide)) ?_
        (refine goM ?_)
        refine ow_cmp (hv := eql_f (by decide)) ?_
        (refine goM ?_)
        refine ow_cmp (hv := eql_f (by decide)) ?_
        (refine goM ?_)
        refine dn_loop ?_
        refine (ih ⟨S1, h8, ip2, bad2, ⟨c.kind, c.i, x, c.key, c.by', c.ops, c.bytes, c.patch⟩, o, bt, p, pos + 1⟩ ⟨g1.trans st.gr, st.rebase, slOp_gr d1 st.gr, d2.gr st.gr, d3.gr st.gr, hk, hp2, ?_⟩ (by simp only; omega)).weak ⟨rfl, rfl, rfl, rfl, trivial⟩
        refine rf.step hf ro.1 ro.2.1 (fun q1 q2 => ?_) (fun g hg => ?_) (fun l hl => ?_)
        · rcases ro.2.2 q1 with ⟨z1, z2, z3⟩ | ⟨z1, z2⟩
          · exact .inl ⟨z1, ⟨q2.1, q2.2.1, z2, q2.2.2.2.1, q2.2.2.2.2.1, q2.2.2.2.2.2⟩, z3⟩
          · exact .inr ⟨z1, fun y hy rest => z2 _ hy.2.2.1 rest⟩
        · have hne := hnb g hg
          unfold wField
          simp only [hne, if_false]
        · obtain ⟨l1, l2, l3, l4, l5, l6, l7⟩ := hl
          refine ⟨?_, ?_, ?_, ?_, ?_, ?_, ?_⟩
          all_goals (intro hh; simp only [List.mem_append, List.mem_singleton, not_or] at hh; first | exact l1 hh.1 | exact l2 hh.1 | exact l3 hh.1 | exact l4 hh.1 | exact l5 hh.1 | exact l6 hh.1 | exact l7 hh.1 | exact absurd trivial hh.2 | exact absurd rfl hh.2)
      · skip
        refine ow_call number_ev ?_; rintro _ _ ⟨rfl, rfl⟩
        (refine goM ?_)
        refine ow_call (int_ev (hb.gr g1) rf.1 st) ?_; rintro _ h7 ⟨x, ip2, bad2, rfl, st, ro⟩
        (refine goM ?_)
        refine st_store (i := 2) st ?_; intro h8 st
        (refine goM ?_)
        refine ow_cmp (hv := eql_f (by decide)) ?_
        (refine goM ?_)
        refine ow_cmp (hv := eql_f (by decide)) ?_
        (refine goM ?_)
        refine ow_cmp (hv := eql_f (by decide)) ?_
        (refine goM ?_)
        refine dn_loop ?_
        refine (ih ⟨S1, h8, ip2, bad2, ⟨c.kind, c.i, c.j, x, c.by', c.ops, c.bytes, c.patch⟩, o, bt, p, pos + 1⟩ ⟨g1.trans st.gr, st.rebase, slOp_gr d1 st.gr, d2.gr st.gr, d3.gr st.gr, hk, hp2, ?_⟩ (by simp only; omega)).weak ⟨rfl, rfl, rfl, rfl, trivial⟩
        refine rf.step hf ro.1 ro.2.1 (fun q1 q2 => ?_) (fun g hg => ?_) (fun l hl => ?_)
        · rcases ro.2.2 q1 with ⟨z1, z2, z3⟩ | ⟨z1, z2⟩
          · exact .inl ⟨z1, ⟨q2.1, q2.2.1, q2.2.2.1, z2, q2.2.2.2.2.1, q2.2.2.2.2.2⟩, z3⟩
          · exact .inr ⟨z1, fun y hy rest => z2 _ hy.2.2.2.1 rest⟩
        · have hne := hnb g hg
          unfold wField
          simp only [hne, if_false]
        · obtain ⟨l1, l2, l3, l4, l5, l6, l7⟩ := hl
          refine ⟨?_, ?_, ?_, ?_, ?_, ?_, ?_⟩
          all_goals (intro hh; simp only [List.mem_append, List.mem_singleton, not_or] at hh; first | exact l1 hh.1 | exact l2 hh.1 | exact l3 hh.1 | exact l4 hh.1 | exact l5 hh.1 | exact l6 hh.1 | exact l7 hh.1 | exact absurd trivial hh.2 | exact absurd rfl hh.2)
      · skip
        refine ow_call number_ev ?_; rintro _ _ ⟨rfl, rfl⟩
        (refine goM ?_)
        refine ow_call (int_ev (hb.gr g1) rf.1 st) ?_; rintro _ h7 ⟨x, ip2, bad2, rfl, st, ro⟩
        (refine goM ?_)
        refine st_store (i := 2) st ?_; intro h8 st
        (refine goM ?_)
        refine ow_cmp (hv := eql_f (by decide)) ?_
        (refine goM ?_)
        refine ow_cmp (hv := eql_f (by decide)) ?_
        (refine goM ?_)
        refine ow_cmp (hv := eql_f (by decide)) ?_
        (refine goM ?_)
        refine dn_loop ?_
        refine (ih ⟨S1, h8, ip2, bad2, ⟨c.kind, c.i, c.j, c.key, x, c.ops, c.bytes, c.patch⟩, o, bt, p, pos + 1⟩ ⟨g1.trans st.gr, st.rebase, slOp_gr d1 st.gr, d2.gr st.gr, d3.gr st.gr, hk, hp2, ?_⟩ (by simp only; omega)).weak ⟨rfl, rfl, rfl, rfl, trivial⟩
        refine rf.step hf ro.1 ro.2.1 (fun q1 q2 => ?_) (fun g hg => ?_) (fun l hl => ?_)
        · rcases ro.2.2 q1 with ⟨z1, z2, z3⟩ | ⟨z1, z2⟩
          · exact .inl ⟨z1, ⟨q2.1, q2.2.1, q2.2.2.1, q2.2.2.2.1, z2, q2.2.2.2.2.2⟩, z3⟩
          · exact .inr ⟨z1, fun y hy rest => z2 _ hy.2.2.2.2.1 rest⟩
        · have hne := hnb g hg
          unfold wField
          simp only [hne, if_false]
        · obtain ⟨l1, l2, l3, l4, l5, l6, l7⟩ := hl
          refine ⟨?_, ?_, ?_, ?_, ?_, ?_, ?_⟩
          all_goals (intro hh; simp only [List.mem_append, List.mem_singleton, not_or] at hh; first | exact l1 hh.1 | exact l2 hh.1 | exact l3 hh.1 | exact l4 hh.1 | exact l5 hh.1 | exact l6 hh.1 | exact l7 hh.1 | exact absurd trivial hh.2 | exact absurd rfl hh.2)
      · refine ow_call number_ev ?_; rintro _ _ ⟨rfl, rfl⟩
        (refine goM ?_)
        refine ow_cmp (hv := eql_t (by decide)) ?_
        (refine goM ?_)
        refine ow_call (sev_op (Bs.now (hb.gr g1) st) hl rf.1 st.rebase) ?_; rintro v h4 ⟨S2, xs, ip2, bad2, g2, q2, st2, ro⟩
        obtain ⟨va, vn, vc, rfl, q2'⟩ := q2
        have q2 : Sl h4 S2 5 (Go.Mir.ROp h4 S2) (.slice va vn vc) xs := ⟨va, vn, vc, rfl, q2'⟩
        (refine goM ?_)
        refine st_store (i := 2) st2 ?_; intro h5 st5
        (refine goM ?_)
        refine dn_loop ?_
        have G := (st.gr.trans g2).trans st5.gr
        refine (ih ⟨S2, h5, ip2, bad2, ⟨c.kind, c.i, c.j, c.key, c.by', xs, c.bytes, c.patch⟩, .slice va vn vc, bt, p, pos + 1⟩ ⟨g1.trans G, st5.rebase, slOp_gr q2 st5.gr, d2.gr G, d3.gr G, hk, hp2, ?_⟩ (by simp only; omega)).weak ⟨rfl, rfl, rfl, rfl, trivial⟩
        refine rf.step hf ro.1 ro.2.1 (fun q1 q2 => ?_) (fun g hg => ?_) (fun l hl => ?_)
        · rcases ro.2.2 q1 with ⟨z1, z2, z3⟩ | ⟨z1, z2⟩
          · exact .inl ⟨z1, ⟨q2.1, q2.2.1, q2.2.2.1, q2.2.2.2.1, q2.2.2.2.2.1, z2, q2.2.2.2.2.2.2⟩, z3⟩
          · exact .inr ⟨z1, fun y hy rest => z2 _ hy.2.2.2.2.2.1 rest⟩
        · skip
          have hne := hnb g hg
          unfold wField
          simp only [hne, if_false]
        · skip
          obtain ⟨l1, l2, l3, l4, l5, l6, l7⟩ := hl
          refine ⟨?_, ?_, ?_, ?_, ?_, ?_, ?_⟩
          all_goals (intro hh; simp only [List.mem_append, List.mem_singleton, not_or] at hh; first | exact l1 hh.1 | exact l2 hh.1 | exact l3 hh.1 | exact l4 hh.1 | exact l5 hh.1 | exact l6 hh.1 | exact l7 hh.1 | exact absurd trivial hh.2 | exact absurd rfl hh.2)
      · refine ow_call number_ev ?_; rintro _ _ ⟨rfl, rfl⟩
        (refine goM ?_)
        refine ow_cmp (hv := eql_f (by decide)) ?_
        (refine goM ?_)
        refine ow_cmp (hv := eql_t (by decide)) ?_
        (refine goM ?_)
        refine ow_call (bytes_ev (Bs.now (hb.gr g1) st) (by omega) rf.1 st.rebase) ?_; rintro v h4 ⟨S2, xs, ip2, bad2, g2, q2, st2, ro⟩
        have q2 := q2.mono fun a ha => (g1.2 a ha).1
        have q2k := q2
        obtain ⟨⟨va, vn, vc, rfl, _⟩, _⟩ := q2
        have q2 := q2k
        (refine goM ?_)
        refine st_store (i := 2) st2 ?_; intro h5 st5
        (refine goM ?_)
        refine dn_loop ?_
        have G := (st.gr.trans g2).trans st5.gr
        refine (ih ⟨S2, h5, ip2, bad2, ⟨c.kind, c.i, c.j, c.key, c.by', c.ops, xs, c.patch⟩, o, .slice va vn vc, p, pos + 1⟩ ⟨g1.trans G, st5.rebase, slOp_gr d1 G, q2.gr st5.gr, d3.gr G, hk, hp2, ?_⟩ (by simp only; omega)).weak ⟨rfl, rfl, rfl, rfl, trivial⟩
        refine rf.step hf ro.1 ro.2.1 (fun q1 q2 => ?_) (fun g hg => ?_) (fun l hl => ?_)
        · rcases ro.2.2 q1 with ⟨z1, z2, z3⟩ | ⟨z1, z2⟩
          · exact .inl ⟨z1, q2, z3⟩
          · exact .inr ⟨z1, fun y hy rest => z2 _ trivial rest⟩
        · skip
          have hne := hnb g hg
          unfold wField
          simp only [hne, if_false]
        · skip
          obtain ⟨l1, l2, l3, l4, l5, l6, l7⟩ := hl
          refine ⟨?_, ?_, ?_, ?_, ?_, ?_, ?_⟩
          all_goals (intro hh; simp only [List.mem_append, List.mem_singleton, not_or] at hh; first | exact l1 hh.1 | exact l2 hh.1 | exact l3 hh.1 | exact l4 hh.1 | exact l5 hh.1 | exact l6 hh.1 | exact l7 hh.1 | exact absurd trivial hh.2 | exact absurd rfl hh.2)
      · refine ow_call number_ev ?_; rintro _ _ ⟨rfl, rfl⟩
        (refine goM ?_)
        refine ow_cmp (hv := eql_f (by decide)) ?_
        (refine goM ?_)
        refine ow_cmp (hv := eql_f (by decide)) ?_
        (refine goM ?_)
        refine ow_cmp (hv := eql_t (by decide)) ?_
        (refine goM ?_)
        refine ow_call (sev_chg (Bs.now (hb.gr g1) st) hl rf.1 st.rebase) ?_; rintro v h4 ⟨S2, xs, ip2, bad2, g2, q2, st2, ro⟩
        obtain ⟨va, vn, vc, rfl, q2'⟩ := q2
        have q2 : Sl h4 S2 6 (LChg h4 S2) (.slice va vn vc) xs := ⟨va, vn, vc, rfl, q2'⟩
        (refine goM ?_)
        refine st_store (i := 2) st2 ?_; intro h5 st5
        (refine goM ?_)
        refine dn_loop ?_
        have G := (st.gr.trans g2).trans st5.gr
        refine (ih ⟨S2, h5, ip2, bad2, ⟨c.kind, c.i, c.j, c.key, c.by', c.ops, c.bytes, xs⟩, o, bt, .slice va vn vc, pos + 1⟩ ⟨g1.trans G, st5.rebase, slOp_gr d1 G, d2.gr G, q2.gr st5.gr, hk, hp2, ?_⟩ (by simp only; omega)).weak ⟨rfl, rfl, rfl, rfl, trivial⟩
        refine rf.step hf ro.1 ro.2.1 (fun q1 q2 => ?_) (fun g hg => ?_) (fun l hl => ?_)
        · rcases ro.2.2 q1 with ⟨z1, z2, z3⟩ | ⟨z1, z2⟩
          · exact .inl ⟨z1, ⟨q2.1, q2.2.1, q2.2.2.1, q2.2.2.2.1, q2.2.2.2.2.1, q2.2.2.2.2.2.1, z2⟩, z3⟩
          · exact .inr ⟨z1, fun y hy rest => z2 _ hy.2.2.2.2.2.2 rest⟩
        · skip
          have hne := hnb g hg
          unfold wField
          simp only [hne, if_false]
        · skip
          obtain ⟨l1, l2, l3, l4, l5, l6, l7⟩ := hl
          refine ⟨?_, ?_, ?_, ?_, ?_, ?_, ?_⟩
          all_goals (intro hh; simp only [List.mem_append, List.mem_singleton, not_or] at hh; first | exact l1 hh.1 | exact l2 hh.1 | exact l3 hh.1 | exact l4 hh.1 | exact l5 hh.1 | exact l6 hh.1 | exact l7 hh.1 | exact absurd trivial hh.2 | exact absurd rfl hh.2)
      · refine ow_call number_ev ?_; rintro _ _ ⟨rfl, rfl⟩
        (refine goM ?_)
        refine ow_cmp (hv := eql_f (by decide)) ?_
        (refine goM ?_)
        refine ow_cmp (hv := eql_f (by decide)) ?_
        (refine goM ?_)
        refine ow_cmp (hv := eql_f (by decide)) ?_
        (refine goM ?_)
        refine dn_loop ?_
        refine (ih ⟨S1, h3, ip, badp, c, o, bt, p, pos + 1⟩ ⟨g1.trans st.gr, st.rebase, slOp_gr d1 st.gr, d2.gr st.gr, d3.gr st.gr, hk, hp2, ?_⟩ (by simp only; omega)).weak ⟨rfl, rfl, rfl, rfl, trivial⟩
        refine rf.step hf rf.1 (fun q => q) (fun q1 q2 => .inl ⟨q1, q2, rfl⟩) (fun _ _ => rfl) (fun l hl => ?_)
        obtain ⟨l1, l2, l3, l4, l5, l6, l7⟩ := hl
        refine ⟨?_, ?_, ?_, ?_, ?_, ?_, ?_⟩
        all_goals (intro hh; simp only [List.mem_append, List.mem_singleton, not_or] at hh; first | exact l1 hh.1 | exact l2 hh.1 | exact l3 hh.1 | exact l4 hh.1 | exact l5 hh.1 | exact l6 hh.1 | exact l7 hh.1)
    · refine st_nextEnd (fs := fieldsOf kd) (p := pos) 1 (by omega) st ?_
      have d1k := d1
      have d2k := d2
      have d3k := d3
      obtain ⟨oa, on, oc, rfl, _⟩ := d1
      obtain ⟨⟨ta, tn, tc, rfl, _⟩, _⟩ := d2
      obtain ⟨pa, pn, pc, rfl, _⟩ := d3
      (refine goM ?_)
      refine st_loadA (i := 2) st ?_
      refine st_store (i := 3) st ?_; intro h3 st
      (refine goM ?_)
      subst hk
      refine end_cellA rfl (g1.trans st.gr).1 (readOf (st.get 3 rfl) rfl) ⟨S1, c, ip, badp, g1.trans st.gr, ⟨_, rfl, _, _, _, rfl, slOp_gr d1k st.gr, d2k.gr st.gr, d3k.gr st.gr⟩, (((st.drop 1 rfl).drop 1 rfl).drop 1 rfl).rebase, ?_⟩
      refine RFld.done o1 hkd ?_
      have : pos = (fieldsOf c.kind).length := by omega
      rw [hbad, ← this]; exact rf
end
end Go.Proofs.YtmaccpaiaidgpaaGreatDoor

/- script.Read. -/
namespace Go.Proofs.YtmaccpaiaidgpaaGreatDoor
open Go Go.Mir
set_option maxRecDepth 10000

def RScr (h : H) (S : Nat → Prop) (s : PScr) (cs : List Value) : Prop :=
  ∃ k c, cs = [k, .int .i64 s.maxLen, .int .i64 s.maxUndo, c] ∧ Sl h S 6 (LKey h S) k s.keys ∧ Sl h S 8 (RCmd h S) c s.cmds
def zeroScr : List Value := [.slice none 0 0, .int .i64 0, .int .i64 0, .slice none 0 0]
theorem slCmd_gr {h h' : H} {S S' : Nat → Prop} {v : Value} {xs : List PCmd} (q : Sl h S 8 (RCmd h S) v xs) (g : Gr S h S' h') : Sl h' S' 8 (RCmd h' S') v xs := q.to g.2 fun _ _ q => q.gr g

def ReadPost (S : Nat → Prop) (h : H) (b : List UInt8) (As : List Asn) (r : Value) (h' : H) : Prop :=
  ∃ S', Gr S h S' h' ∧ St h' S' h' As ∧ ((∃ s cs, r = .tuple ⟨[.agg ⟨cs⟩, .int .i64 0]⟩ ∧ RScr h' S' s cs ∧ okS s ∧ b = wScr s) ∨ (r = .tuple ⟨[.agg ⟨zeroScr⟩, .int .i64 3]⟩ ∧ ∀ s, okS s → b ≠ wScr s))

/-- A script whose bytes lie in none of these blocks. -/
def RScrF (E : Nat → Prop) (h : H) (S : Nat → Prop) (s : PScr) (cs : List Value) : Prop :=
  ∃ k c, cs = [k, .int .i64 s.maxLen, .int .i64 s.maxUndo, c] ∧ Sl h S 6 (LKey h S) k s.keys ∧ Sl h S 8 (RCmdF E h S) c s.cmds
theorem RScrF.scr {E : Nat → Prop} {h : H} {S : Nat → Prop} {s : PScr} {cs : List Value} (q : RScrF E h S s cs) : RScr h S s cs := by
  obtain ⟨k, c, e, a, b⟩ := q
  exact ⟨k, c, e, a, b.to (fun _ q => ⟨q, rfl⟩) fun _ _ q => q.cmd⟩
def ReadPostF (S : Nat → Prop) (h : H) (b : List UInt8) (As : List Asn) (r : Value) (h' : H) : Prop :=
  ∃ S', Gr S h S' h' ∧ St h' S' h' As ∧ ((∃ s cs, r = .tuple ⟨[.agg ⟨cs⟩, .int .i64 0]⟩ ∧ RScrF S h' S' s cs ∧ okS s ∧ b = wScr s) ∨ (r = .tuple ⟨[.agg ⟨zeroScr⟩, .int .i64 3]⟩ ∧ ∀ s, okS s → b ≠ wScr s))

structure ReadSt where
  S : Nat → Prop
  h : H
  ip : Nat
  bad : Bool
  v : Value
  cs : List Value
  xs : List PCmd

section
variable {h : H} {S : Nat → Prop} {bv : Value} {b : List UInt8} {As : List Asn}

set_option maxHeartbeats 8000000 in
theorem readF_ev (f : Fld S h) (hb : Bs h S bv b) (hl : b.length ≤ 2 ^ 20) (st : St h S h As) :
    Cal cxo 23 [bv] h (ReadPostF S h b As) := by
  have hb0 := hb
  have hpl : plain bv = true := by obtain ⟨_, a, c, rfl, _⟩ := hb; rfl
  obtain ⟨q1, ba, bc, rfl, q2, q3⟩ := hb0
  refine cal_intro (C := cxo) rfl rfl rfl rfl ?_
  (refine goM ?_)
  refine st_alloc st ?_; intro b0 h1 st
  (refine goM ?_)
  refine ow_build ?_
  refine st_box st ?_; intro R h2 st
  (refine goM ?_)
  refine ow_call (sev_key (i := 0) (bad := false) (Bs.now hb st) hl (Nat.zero_le _) st.rebase) ?_; rintro v h3 ⟨S1, ks, i1, bad1, g1, qk, st1, o1⟩
  obtain ⟨ka, kn, kc, rfl, qk'⟩ := qk
  have qk : Sl h3 S1 6 (LKey h3 S1) (.slice ka kn kc) ks := ⟨ka, kn, kc, rfl, qk'⟩
  have g1 := st.gr.trans g1
  refine ow_build ?_
  refine st_alloc st1 ?_; intro b1 h4 st4
  refine st_store (i := 0) st4 ?_; intro h5 st5
  (refine goM ?_)
  have st5 := st5.pull 1 rfl
  have hb2 := hb.gr g1
  refine ow_call (int_ev hb2 o1.1 st5) ?_; rintro _ h6 ⟨ml, i2, bad2, rfl, st6, o2⟩
  (refine goM ?_)
  refine st_store (i := 1) st6 ?_; intro h7 st7
  (refine goM ?_)
  refine ow_call (int_ev hb2 o2.1 st7) ?_; rintro _ h8 ⟨mu, i3, bad3, rfl, st8, o3⟩
  (refine goM ?_)
  refine st_store (i := 1) st8 ?_; intro h9 st9
  (refine goM ?_)
  have O := o1.seq (o2.seq o3 wI_pc') (wL_pc wKey_pc)
  have g9 := g1.trans st9.gr
  have qk9 := qk.gr st9.gr
  refine WK.weak (L' := [(0, .slice ba b.length bc), (2, .pointer (some ⟨b0, 0, none⟩)), (4, .pointer (some ⟨R, 0, none⟩)), (5, .pointer (some ⟨b1, 0, none⟩))]) ?_ ⟨rfl, rfl, rfl, rfl, trivial⟩
  refine wk_inv (ι := ReadSt) (fun _ => [(0, .slice ba b.length bc), (2, .pointer (some ⟨b0, 0, none⟩)), (4, .pointer (some ⟨R, 0, none⟩)), (5, .pointer (some ⟨b1, 0, none⟩))]) (fun s => s.h)
    (fun s => Gr S h s.S s.h ∧ St s.h s.S s.h (Buf 8 s.xs.length s.v s.cs :: RdAt R (.slice ba b.length bc) s.ip s.bad :: blk b1 (.cells [.slice ka kn kc, .int .i64 ml, .int .i64 mu, s.v] 0) :: blk b0 (.cells zeroScr 0) :: As) ∧ Sl s.h s.S 6 (LKey s.h s.S) (.slice ka kn kc) ks ∧ Go.Mir.Rows 8 (RCmdF S s.h s.S) s.cs s.xs ∧ s.xs.length ≤ b.length ∧ (s.bad = false → s.xs.length ≤ s.ip) ∧ RAll b i3 bad3 s.ip s.bad s.xs) (fun s => if s.bad then 0 else b.length - s.ip + 1) ?_
    ⟨S1, h9, i3, bad3, .slice none 0 0, [], []⟩ ⟨g9, st9.rebase.nilBuf, qk9, Rows.nil, Nat.zero_le _, fun _ => Nat.zero_le _, RAll.start o3.1⟩
  rintro ⟨S2, h10, ip, badp, v, cs, xs⟩ ⟨g2, st, qk, rw1, xl, xl2, ra⟩ ih
  simp only at g2 st qk rw1 xl xl2 ra ih ⊢
  obtain ⟨va, vc, rfl⟩ := Buf.lenOf st (i := 0) rfl
  (refine goM ?_)
  refine st_load (i := 1) st ?_
  cases badp with
  | true =>
    (refine goM ?_)
    refine st_load (i := 1) st ?_
    (refine goM ?_)
    refine ow_build ?_
    refine st_store (i := 3) st ?_; intro h11 st11
    (refine goM ?_)
    exact end_cellA1 rfl (g2.trans st11.gr).1 (readOf (st11.get 3 rfl) rfl) ⟨S2, g2.trans st11.gr, ((((st11.drop 0 rfl).drop 0 rfl).drop 0 rfl).drop 0 rfl).rebase, .inr ⟨rfl, read_bad O ra⟩⟩
  | false =>
    (refine goM ?_)
    refine st_load (i := 1) st ?_
    (refine goM ?_)
    by_cases hlt : ip < b.length
    · refine ow_cmp (hv := lss_t (by omega)) ?_
      (refine goM ?_)
      refine st_load (i := 2) st ?_
      (refine goM ?_)
      refine ow_call (command_ev (f.gr g2) (hb.gr g2) hl ra.1 (st.pull 1 rfl)) ?_; rintro r h3 ⟨S3, c, i', bad', g3, hv, st3, ro⟩
      obtain ⟨_, rfl, co, cb, cp, rfl, hop1, hop2, hop3⟩ := hv
      have hop1k := hop1
      have hop2 := hop2.mono fun a ha => (g2.2 a ha).1
      have hop2k := hop2
      have hop3k := hop3
      obtain ⟨oa, on, oc, rfl, _⟩ := hop1
      obtain ⟨⟨ta, tn, tc, rfl, _⟩, _⟩ := hop2
      obtain ⟨pa, pn, pc, rfl, _⟩ := hop3
      refine st_buildS st3 ?_; intro nb h4 st4
      have xl3 := xl2 rfl
      refine st_append1 (w := 8) (y := 112) (n := xs.length) (v := .slice va xs.length vc) (cs := cs) 2 0 (by omega) st4 ?_; intro v' h5 st5
      obtain ⟨va', vc', rfl⟩ := Buf.lenOf st5 (i := 0) rfl
      (refine goM ?_)
      refine st_store (i := 3) st5 ?_; intro h6 st6
      refine ow_end ?_ ?_
      · exact reads_gen rfl ⟨rfl, .go rfl (.inl rfl) (.bnd rfl (agn_load (loadOf (st4.get 3 rfl) rfl)) rfl), trivial⟩
      (refine goM ?_)
      refine dn_loop ?_
      have g6 := g3.trans st6.gr
      have ro : ROut okCm wCmd b ip false i' bad' c := ro
      refine (ih ⟨S3, h6, i', bad', .slice va' (xs.length + 1) vc', _, xs ++ [c]⟩ ⟨g2.trans g6, ?_, qk.gr g6, (rw1.mono fun x c q => q.gr g6).snoc rfl ⟨_, _, _, rfl, slOp_gr hop1k st6.gr, hop2k.gr st6.gr, hop3k.gr st6.gr⟩, by simp; omega, fun hb' => ?_, ra.step hlt ro⟩ ?_).weak ⟨rfl, rfl, rfl, rfl, trivial⟩
      · simp only [List.length_append, List.length_singleton]
        exact (st6.drop 1 rfl).rebase
      · simp only at hb'
        subst hb'
        have := RAll.more ro
        simp only [List.length_append, List.length_singleton]
        omega
      · simp only
        cases bad' with
        | true => simp
        | false => have := RAll.more ro; simp; omega
    · refine ow_cmp (hv := lss_f (by omega)) ?_
      (refine goM ?_)
      refine st_load (i := 1) st ?_
      (refine goM ?_)
      refine st_loadA (i := 2) st ?_
      refine st_store (i := 3) st ?_; intro h11 st11
      (refine goM ?_)
      have RG := read_good O ra (by have := ra.1; omega)
      obtain ⟨S', f1, f2, f3⟩ := buf_freeze st11.rebase (i := 0) rfl (rw1.mono fun x c q => q.gr st11.gr) rfl (by omega)
      have g5 := (g2.trans st11.gr).trans f1
      exact end_cellA1 rfl g5.1 (readOf (st11.get 3 rfl) rfl) ⟨S', g5, (((f3.drop 0 rfl).drop 0 rfl).drop 0 rfl).rebase, .inl ⟨⟨ks, ml, mu, xs⟩, _, rfl, ⟨_, _, rfl, qk.gr (st11.gr.trans f1), f2.to (fun a ha => ⟨ha, rfl⟩) (fun x c q => q.gr f1)⟩, RG⟩⟩

theorem read_ev (f : Fld S h) (hb : Bs h S bv b) (hl : b.length ≤ 2 ^ 20) (st : St h S h As) :
    Cal cxo 23 [bv] h (ReadPost S h b As) := (readF_ev f hb hl st).mono fun _ _ ⟨S', g, st, q⟩ => ⟨S', g, st, q.imp (fun ⟨s, cs, e, a, b⟩ => ⟨s, cs, e, a.scr, b⟩) fun q => q⟩
end
end Go.Proofs.YtmaccpaiaidgpaaGreatDoor

