/- Bare commands; script.May; script.Write. -/
import Derived.Test.YtmaccpaiaidgpaaGreatDoorScrA
import Derived.Test.YtmaccpaiaidgpaaGreatDoorReadB
import Derived.Test.YtmaccpaiaidgpaaGreatDoorEqA
/- A command with the fields of its kind alone, field by field. -/
namespace Go.Mir
/-- The fields among these letters are the command's, the others are nought. -/
def BF (l : List UInt8) (c d : PCmd) : Prop :=
  d.kind = c.kind ∧ (d.i = if 105 ∈ l then c.i else 0) ∧ (d.j = if 106 ∈ l then c.j else 0) ∧ (d.key = if 107 ∈ l then c.key else 0) ∧ (d.by' = if 121 ∈ l then c.by' else 0) ∧ (d.ops = if 111 ∈ l then c.ops else []) ∧ (d.bytes = if 98 ∈ l then c.bytes else []) ∧ (d.patch = if 112 ∈ l then c.patch else [])
theorem BF.nil (c : PCmd) : BF [] c ⟨c.kind, 0, 0, 0, 0, [], [], []⟩ := ⟨rfl, rfl, rfl, rfl, rfl, rfl, rfl, rfl⟩
theorem BF.done {c d : PCmd} (h : BF (fieldsOf c.kind) c d) : d = bareC c := by
  obtain ⟨h0, h1, h2, h3, h4, h5, h6, h7⟩ := h
  obtain ⟨a, b, e, f, g, i, j, k⟩ := d
  simp only at h0 h1 h2 h3 h4 h5 h6 h7
  unfold bareC
  rw [h0, h1, h2, h3, h4, h5, h6, h7]
end Go.Mir
namespace Go.Mir
theorem BF.s105 {l : List UInt8} {c d : PCmd} (h : BF l c d) : BF (l ++ [105]) c ⟨d.kind, c.i, d.j, d.key, d.by', d.ops, d.bytes, d.patch⟩ := by
  obtain ⟨h0, h1, h2, h3, h4, h5, h6, h7⟩ := h
  refine ⟨h0, ?_, ?_, ?_, ?_, ?_, ?_, ?_⟩ <;> simp_all
theorem BF.s106 {l : List UInt8} {c d : PCmd} (h : BF l c d) : BF (l ++ [106]) c ⟨d.kind, d.i, c.j, d.key, d.by', d.ops, d.bytes, d.patch⟩ := by
  obtain ⟨h0, h1, h2, h3, h4, h5, h6, h7⟩ := h
  refine ⟨h0, ?_, ?_, ?_, ?_, ?_, ?_, ?_⟩ <;> simp_all
theorem BF.s107 {l : List UInt8} {c d : PCmd} (h : BF l c d) : BF (l ++ [107]) c ⟨d.kind, d.i, d.j, c.key, d.by', d.ops, d.bytes, d.patch⟩ := by
  obtain ⟨h0, h1, h2, h3, h4, h5, h6, h7⟩ := h
  refine ⟨h0, ?_, ?_, ?_, ?_, ?_, ?_, ?_⟩ <;> simp_all
theorem BF.s121 {l : List UInt8} {c d : PCmd} (h : BF l c d) : BF (l ++ [121]) c ⟨d.kind, d.i, d.j, d.key, c.by', d.ops, d.bytes, d.patch⟩ := by
  obtain ⟨h0, h1, h2, h3, h4, h5, h6, h7⟩ := h
  refine ⟨h0, ?_, ?_, ?_, ?_, ?_, ?_, ?_⟩ <;> simp_all
theorem BF.s111 {l : List UInt8} {c d : PCmd} (h : BF l c d) : BF (l ++ [111]) c ⟨d.kind, d.i, d.j, d.key, d.by', c.ops, d.bytes, d.patch⟩ := by
  obtain ⟨h0, h1, h2, h3, h4, h5, h6, h7⟩ := h
  refine ⟨h0, ?_, ?_, ?_, ?_, ?_, ?_, ?_⟩ <;> simp_all
theorem BF.s98 {l : List UInt8} {c d : PCmd} (h : BF l c d) : BF (l ++ [98]) c ⟨d.kind, d.i, d.j, d.key, d.by', d.ops, c.bytes, d.patch⟩ := by
  obtain ⟨h0, h1, h2, h3, h4, h5, h6, h7⟩ := h
  refine ⟨h0, ?_, ?_, ?_, ?_, ?_, ?_, ?_⟩ <;> simp_all
theorem BF.s112 {l : List UInt8} {c d : PCmd} (h : BF l c d) : BF (l ++ [112]) c ⟨d.kind, d.i, d.j, d.key, d.by', d.ops, d.bytes, c.patch⟩ := by
  obtain ⟨h0, h1, h2, h3, h4, h5, h6, h7⟩ := h
  refine ⟨h0, ?_, ?_, ?_, ?_, ?_, ?_, ?_⟩ <;> simp_all
theorem BF.s46 {l : List UInt8} {c d : PCmd} (h : BF l c d) : BF (l ++ [46]) c d := by
  obtain ⟨h0, h1, h2, h3, h4, h5, h6, h7⟩ := h
  refine ⟨h0, ?_, ?_, ?_, ?_, ?_, ?_, ?_⟩ <;> simp_all
end Go.Mir

/- script.bare. -/
namespace Go.Proofs.YtmaccpaiaidgpaaGreatDoor
open Go Go.Mir
set_option maxRecDepth 10000
theorem _root_.Go.Mir.Sl.gr' {h h' : H} {S S' : Nat → Prop} {v : Value} {xs : List POp} (q : Sl h S 5 (Go.Mir.ROp h S) v xs) (g : Gr S h S' h') : Sl h' S' 5 (Go.Mir.ROp h' S') v xs := slOp_gr q g
section
variable {h0 h : H} {S : Nat → Prop} {As : List Asn}
abbrev zCs : List Value := CmdCs ⟨0, 0, 0, 0, 0, [], [], []⟩ (.slice none 0 0) (.slice none 0 0) (.slice none 0 0)

set_option maxHeartbeats 8000000 in
theorem bare_ev {x : PCmd} {cs : List Value} (f : Fld S h) (hk : u8ok x.kind) (qx : RCmd h S x cs) (st : St h0 S h As) : Cal cxo 88 [.agg ⟨cs⟩] h (fun r h' => ∃ cs', r = .agg ⟨cs'⟩ ∧ RCmd h' S (bareC x) cs' ∧ St h0 S h' As) := by
  have stA := st
  have st := st.rebase
  obtain ⟨xo, xb, xp, rfl, qo, qb, qp⟩ := qx
  have qo0 := qo
  have qb0 := qb
  have qp0 := qp
  obtain ⟨oa, on, oc, rfl, _⟩ := qo
  obtain ⟨ta, tn, tc, rfl, _⟩ := qb
  obtain ⟨pa, pn, pc, rfl, _⟩ := qp
  refine cal_intro (C := cxo) rfl rfl rfl rfl ?_
  (refine goM ?_)
  refine st_box st ?_; intro b1 h1 st
  refine st_alloc st ?_; intro b2 h2 st
  (refine goM ?_)
  refine st_load (i := 1) st ?_
  refine ow_build ?_
  refine st_alloc st ?_; intro b3 h3 st
  refine st_store (i := 0) st ?_; intro h4 st
  (refine goM ?_)
  refine st_load (i := 2) st ?_
  refine ow_call (of_evI (f.gr st.gr) hk) ?_; rintro _ _ ⟨rfl, rfl⟩
  refine st_range st ?_; intro b4 h5 st
  (refine goM ?_)
  refine WK.weak (L' := [(1, .pointer (some ⟨b1, 0, none⟩)), (2, .pointer (some ⟨b2, 0, none⟩)), (3, .pointer (some ⟨b3, 0, none⟩)), (16, .pointer (some ⟨b4, 0, none⟩))]) ?_ ⟨rfl, rfl, rfl, rfl, trivial⟩
  refine wk_inv (ι := PCmd × Value × Value × Value × Nat × H) (fun z => [(1, .pointer (some ⟨b1, 0, none⟩)), (2, .pointer (some ⟨b2, 0, none⟩)), (3, .pointer (some ⟨b3, 0, none⟩)), (16, .pointer (some ⟨b4, 0, none⟩))]) (fun z => z.2.2.2.2.2) (fun z => z.2.2.2.2.1 ≤ (fieldsOf x.kind).length ∧ St h S z.2.2.2.2.2 (blk b4 (.iter ⟨⟨fieldsOf x.kind⟩⟩ z.2.2.2.2.1) :: blk b3 (.cells (CmdCs z.1 z.2.1 z.2.2.1 z.2.2.2.1) 0) :: blk b2 (.cells zCs 0) :: blk b1 (.cells [.int .u8 x.kind, .int .i64 x.i, .int .i64 x.j, .int .i64 x.key, .int .i64 x.by', .slice oa on oc, .slice ta tn tc, .slice pa pn pc] 0) :: As) ∧ Sl h S 5 (Go.Mir.ROp h S) z.2.1 z.1.ops ∧ Sl h S 1 RByte z.2.2.1 z.1.bytes ∧ Sl h S 6 (LChg h S) z.2.2.2.1 z.1.patch ∧ BF ((fieldsOf x.kind).take z.2.2.2.2.1) x z.1) (fun z => (fieldsOf x.kind).length - z.2.2.2.2.1) ?_ (⟨x.kind, 0, 0, 0, 0, [], [], []⟩, .slice none 0 0, .slice none 0 0, .slice none 0 0, 0, h5) ⟨Nat.zero_le _, st, sl_nil, sl_nil, sl_nil, BF.nil x⟩
  clear st
  rintro ⟨c, o, bt, q, pos, h6⟩ ⟨hp, st, d1, d2, d3, hbf⟩ ih
  simp only at hp st d1 d2 d3 hbf ih ⊢
  (refine goM ?_)
  by_cases hlt : pos < (fieldsOf x.kind).length
  · obtain ⟨fl, hf⟩ : ∃ fl, (fieldsOf x.kind)[pos]? = some fl := ⟨_, List.getElem?_eq_getElem hlt⟩
    have hl8 := fields_letters (List.mem_of_getElem? hf)
    have h7 : fl.toNat < 128 := by rcases hl8 with rfl | rfl | rfl | rfl | rfl | rfl | rfl | rfl <;> decide
    have ht : (fieldsOf x.kind).take (pos + 1) = (fieldsOf x.kind).take pos ++ [fl] := by rw [List.take_add_one, hf]; rfl
    refine st_next (f := fl) 0 hf h7 st ?_; intro h8 st
    (refine goM ?_)
    rcases hl8 with rfl | rfl | rfl | rfl | rfl | rfl | rfl | rfl
    · refine ow_call number_ev ?_; rintro _ _ ⟨rfl, rfl⟩
      (refine goM ?_)
      refine ow_call number_ev ?_; rintro _ _ ⟨rfl, rfl⟩
      (refine goM ?_)
      refine st_load (i := 3) st ?_
      (refine goM ?_)
      refine st_store (i := 1) st ?_; intro h9 st
      (refine goM ?_)
      refine ow_cmp (hv := eql_f (by decide)) ?_
      (refine goM ?_)
      refine ow_cmp (hv := eql_f (by decide)) ?_
      (refine goM ?_)
      refine ow_cmp (hv := eql_f (by decide)) ?_
      (refine goM ?_)
      refine dn_loop ?_
      exact (ih (⟨c.kind, x.i, c.j, c.key, c.by', c.ops, c.bytes, c.patch⟩, o, bt, q, pos + 1, h9) ⟨hlt, st, d1, d2, d3, by simp only; rw [ht]; exact hbf.s105⟩ (by simp only; omega)).weak ⟨rfl, rfl, rfl, rfl, trivial⟩
    · refine ow_call number_ev ?_; rintro _ _ ⟨rfl, rfl⟩
      (refine goM ?_)
      refine ow_call number_ev ?_; rintro _ _ ⟨rfl, rfl⟩
      (refine goM ?_)
      refine st_load (i := 3) st ?_
      (refine goM ?_)
      refine st_store (i := 1) st ?_; intro h9 st
      (refine goM ?_)
      refine ow_cmp (hv := eql_f (by decide)) ?_
      (refine goM ?_)
      refine ow_cmp (hv := eql_f (by decide)) ?_
      (refine goM ?_)
      refine ow_cmp (hv := eql_f (by decide)) ?_
      (refine goM ?_)
      refine dn_loop ?_
      exact (ih (⟨c.kind, c.i, x.j, c.key, c.by', c.ops, c.bytes, c.patch⟩, o, bt, q, pos + 1, h9) ⟨hlt, st, d1, d2, d3, by simp only; rw [ht]; exact hbf.s106⟩ (by simp only; omega)).weak ⟨rfl, rfl, rfl, rfl, trivial⟩
    · refine ow_call number_ev ?_; rintro _ _ ⟨rfl, rfl⟩
      (refine goM ?_)
      refine ow_call number_ev ?_; rintro _ _ ⟨rfl, rfl⟩
      (refine goM ?_)
      refine st_load (i := 3) st ?_
      (refine goM ?_)
      refine st_store (i := 1) st ?_; intro h9 st
      (refine goM ?_)
      refine ow_cmp (hv := eql_f (by decide)) ?_
      (refine goM ?_)
      refine ow_cmp (hv := eql_f (by decide)) ?_
      (refine goM ?_)
      refine ow_cmp (hv := eql_f (by decide)) ?_
      (refine goM ?_)
      refine dn_loop ?_
      exact (ih (⟨c.kind, c.i, c.j, x.key, c.by', c.ops, c.bytes, c.patch⟩, o, bt, q, pos + 1, h9) ⟨hlt, st, d1, d2, d3, by simp only; rw [ht]; exact hbf.s107⟩ (by simp only; omega)).weak ⟨rfl, rfl, rfl, rfl, trivial⟩
    · refine ow_call number_ev ?_; rintro _ _ ⟨rfl, rfl⟩
      (refine goM ?_)
      refine ow_call number_ev ?_; rintro _ _ ⟨rfl, rfl⟩
      (refine goM ?_)
      refine st_load (i := 3) st ?_
      (refine goM ?_)
      refine st_store (i := 1) st ?_; intro h9 st
      (refine goM ?_)
      refine ow_cmp (hv := eql_f (by decide)) ?_
      (refine goM ?_)
      refine ow_cmp (hv := eql_f (by decide)) ?_
      (refine goM ?_)
      refine ow_cmp (hv := eql_f (by decide)) ?_
      (refine goM ?_)
      refine dn_loop ?_
      exact (ih (⟨c.kind, c.i, c.j, c.key, x.by', c.ops, c.bytes, c.patch⟩, o, bt, q, pos + 1, h9) ⟨hlt, st, d1, d2, d3, by simp only; rw [ht]; exact hbf.s121⟩ (by simp only; omega)).weak ⟨rfl, rfl, rfl, rfl, trivial⟩
    · refine ow_call number_ev ?_; rintro _ _ ⟨rfl, rfl⟩
      (refine goM ?_)
      refine ow_cmp (hv := eql_t (by decide)) ?_
      (refine goM ?_)
      refine st_load (i := 3) st ?_
      (refine goM ?_)
      refine st_store (i := 1) st ?_; intro h9 st
      (refine goM ?_)
      refine dn_loop ?_
      exact (ih (⟨c.kind, c.i, c.j, c.key, c.by', x.ops, c.bytes, c.patch⟩, .slice oa on oc, bt, q, pos + 1, h9) ⟨hlt, st, qo0, d2, d3, by simp only; rw [ht]; exact hbf.s111⟩ (by simp only; omega)).weak ⟨rfl, rfl, rfl, rfl, trivial⟩
    · refine ow_call number_ev ?_; rintro _ _ ⟨rfl, rfl⟩
      (refine goM ?_)
      refine ow_cmp (hv := eql_f (by decide)) ?_
      (refine goM ?_)
      refine ow_cmp (hv := eql_t (by decide)) ?_
      (refine goM ?_)
      refine st_load (i := 3) st ?_
      (refine goM ?_)
      refine st_store (i := 1) st ?_; intro h9 st
      (refine goM ?_)
      refine dn_loop ?_
      exact (ih (⟨c.kind, c.i, c.j, c.key, c.by', c.ops, x.bytes, c.patch⟩, o, .slice ta tn tc, q, pos + 1, h9) ⟨hlt, st, d1, qb0, d3, by simp only; rw [ht]; exact hbf.s98⟩ (by simp only; omega)).weak ⟨rfl, rfl, rfl, rfl, trivial⟩
    · refine ow_call number_ev ?_; rintro _ _ ⟨rfl, rfl⟩
      (refine goM ?_)
      refine ow_cmp (hv := eql_f (by decide)) ?_
      (refine goM ?_)
      refine ow_cmp (hv := eql_f (by decide)) ?_
      (refine goM ?_)
      refine ow_cmp (hv := eql_t (by decide)) ?_
      (refine goM ?_)
      refine st_load (i := 3) st ?_
      (refine goM ?_)
      refine st_store (i := 1) st ?_; intro h9 st
      (refine goM ?_)
      refine dn_loop ?_
      exact (ih (⟨c.kind, c.i, c.j, c.key, c.by', c.ops, c.bytes, x.patch⟩, o, bt, .slice pa pn pc, pos + 1, h9) ⟨hlt, st, d1, d2, qp0, by simp only; rw [ht]; exact hbf.s112⟩ (by simp only; omega)).weak ⟨rfl, rfl, rfl, rfl, trivial⟩
    · refine ow_call number_ev ?_; rintro _ _ ⟨rfl, rfl⟩
      (refine goM ?_)
      refine ow_cmp (hv := eql_f (by decide)) ?_
      (refine goM ?_)
      refine ow_cmp (hv := eql_f (by decide)) ?_
      (refine goM ?_)
      refine ow_cmp (hv := eql_f (by decide)) ?_
      (refine goM ?_)
      refine dn_loop ?_
      exact (ih (c, o, bt, q, pos + 1, h8) ⟨hlt, st, d1, d2, d3, by simp only; rw [ht]; exact hbf.s46⟩ (by simp only; omega)).weak ⟨rfl, rfl, rfl, rfl, trivial⟩
  · refine st_nextEnd (fs := fieldsOf x.kind) (p := pos) 0 (by omega) st ?_
    have d1k := d1
    have d2k := d2
    have d3k := d3
    obtain ⟨_, _, _, rfl, _⟩ := d1
    obtain ⟨_, _, _, rfl, _⟩ := d2
    obtain ⟨_, _, _, rfl, _⟩ := d3
    have hpos : pos = (fieldsOf x.kind).length := by omega
    subst hpos
    rw [List.take_length] at hbf
    have hc := hbf.done
    (refine goM ?_)
    refine st_loadA (i := 1) st ?_
    refine st_store (i := 2) st ?_; intro h9 st
    (refine goM ?_)
    refine end_cellA rfl st.nx (readOf (st.get 2 rfl) rfl) ⟨_, rfl, ?_, stA.over ((((st.drop 0 rfl).drop 0 rfl).drop 0 rfl).drop 0 rfl)⟩
    rw [← hc]
    exact RCmd.gr ⟨_, _, _, rfl, d1k, d2k, d3k⟩ st.gr
end
end Go.Proofs.YtmaccpaiaidgpaaGreatDoor

/- script.May$1. -/
namespace Go.Proofs.YtmaccpaiaidgpaaGreatDoor
open Go Go.Mir
set_option maxRecDepth 10000
section
variable {h0 h : H} {S : Nat → Prop} {As : List Asn}

set_option maxHeartbeats 4000000 in
theorem may1_ev {x : PCmd} {cs : List Value} (f : Fld S h) (hk : u8ok x.kind) (qx : RCmd h S x cs) (st : St h0 S h As) : Cal cxo 85 [.agg ⟨cs⟩] h (fun r h' => ∃ b, r = .bool b ∧ (b = true ↔ ¬ mayC x) ∧ St h0 S h' As) := by
  have stA := st
  have st := st.rebase
  have qx0 := qx
  obtain ⟨xo, xb, xp, rfl, qo, qb, qp⟩ := qx
  obtain ⟨oa, on, oc, rfl, _⟩ := qo
  obtain ⟨ta, tn, tc, rfl, _⟩ := qb
  obtain ⟨pa, pn, pc, rfl, _⟩ := qp
  refine cal_intro (C := cxo) rfl rfl rfl rfl ?_
  refine go ?_
  refine st_box st ?_; intro b1 h1 st
  refine go ?_
  refine ow_call (of_evI (f.gr st.gr) hk) ?_; rintro _ _ ⟨rfl, rfl⟩
  refine ow_eqS ?_
  by_cases he : fieldsOf x.kind = []
  · rw [decide_eq_true he]
    refine go ?_
    exact end_res st.nx rfl ⟨true, rfl, ⟨fun _ q => q.1 he, fun _ => rfl⟩, stA.over (st.drop 0 rfl)⟩
  · rw [decide_eq_false he]
    refine go ?_
    refine ow_call (bare_ev (f.gr st.gr) hk (qx0.gr st.gr) st) ?_; rintro _ h3 ⟨cs', rfl, hb, st⟩
    refine ow_call (eqcmd_ev (qx0.gr st.gr) hb st) ?_; rintro _ h4 ⟨e, rfl, i, st⟩
    refine go ?_
    refine goE ?_
    refine go ?_
    refine end_res st.nx rfl ⟨!e, rfl, ?_, stA.over (st.drop 0 rfl)⟩
    unfold mayC
    rw [← i]
    cases e <;> simp [he]

set_option maxHeartbeats 4000000 in
theorem idx_cmd {va : Value} {xs : List PCmd} (f : Fld S h) (hk : ∀ x ∈ xs, u8ok x.kind) (qa : Sl h S 8 (RCmd h S) va xs) (st : St h0 S h As) : Cal cxo 158 [va, .func (.func 85) ⟨[]⟩ ⟨[]⟩] h (fun r h' => ∃ n : Int, r = .int .i64 n ∧ (0 ≤ n ↔ ¬ ∀ c ∈ xs, mayC c) ∧ St h0 S h' As) := by
  have stA := st
  have st := st.rebase
  have qa0 := qa
  obtain ⟨a, n, c, rfl, hn, hcc, h62, _⟩ := qa
  subst hn
  refine cal_intro (C := cxo) rfl rfl rfl rfl ?_
  refine go ?_
  refine WK.weak (L' := [(1, .func (.func 85) ⟨[]⟩ ⟨[]⟩), (0, .slice a xs.length c), (7, .int .i64 (xs.length : Int)), (8, .int .i64 ((0 : Nat) : Int))]) ?_ ⟨rfl, rfl, rfl, rfl, trivial⟩
  refine wk_inv (ι := Nat × H) (fun z => [(1, .func (.func 85) ⟨[]⟩ ⟨[]⟩), (0, .slice a xs.length c), (7, .int .i64 (xs.length : Int)), (8, .int .i64 (z.1 : Int))]) (fun z => z.2) (fun z => z.1 ≤ xs.length ∧ (∀ c ∈ xs.take z.1, mayC c) ∧ St h S z.2 As) (fun z => xs.length - z.1) ?_ (0, h) ⟨Nat.zero_le _, by simp, st⟩
  clear st
  rintro ⟨i, h2⟩ ⟨hi, he, st⟩ ih
  simp only at hi he st ih ⊢
  by_cases hlt : i < xs.length
  · refine go ?_
    obtain ⟨b, o, y, ycs, rfl, hS, hcap, hyi, hyl, hR, hrd⟩ := qa0.at hlt
    rw [← st.read hS] at hrd
    refine ow_index hlt hcap ?_
    refine ow_loadA hrd ?_
    have hy := List.mem_of_getElem? hyi
    refine ow_callV (may1_ev (f.gr st.gr) (hk y hy) (hR.gr st.gr) st) ?_; rintro _ h7 ⟨e, rfl, hee, st⟩
    cases e with
    | true =>
      refine go ?_
      refine end_res st.nx rfl ⟨i, rfl, ?_, stA.over st⟩
      simp only [Int.natCast_nonneg, true_iff]
      exact fun q => hee.1 rfl (q y hy)
    | false =>
      have hm : mayC y := by
        by_cases q : mayC y
        · exact q
        · have := hee.2 q; cases this
      refine go ?_
      refine dn_loop ?_
      exact (ih (i + 1, h7) ⟨hlt, by
        rw [List.take_add_one, hyi]
        intro c hc
        rcases List.mem_append.1 hc with hc | hc
        · exact he c hc
        · simp at hc; subst hc; exact hm, st⟩ (by simp only; omega)).weak ⟨rfl, rfl, rfl, rfl, trivial⟩
  · refine go ?_
    have hi2 : i = xs.length := by omega
    rw [hi2, List.take_length] at he
    refine end_res st.nx rfl ⟨-1, rfl, ?_, stA.over st⟩
    simp; exact he

theorem has_cmd {va : Value} {xs : List PCmd} (f : Fld S h) (hk : ∀ x ∈ xs, u8ok x.kind) (qa : Sl h S 8 (RCmd h S) va xs) (st : St h0 S h As) : Cal cxo 84 [va, .func (.func 85) ⟨[]⟩ ⟨[]⟩] h (fun r h' => ∃ b, r = .bool b ∧ (b = true ↔ ¬ ∀ c ∈ xs, mayC c) ∧ St h0 S h' As) := by
  have stA := st
  have st := st.rebase
  refine cal_intro (C := cxo) rfl rfl rfl rfl ?_
  refine go ?_
  refine ow_call (idx_cmd f hk qa st) ?_; rintro _ h2 ⟨n, rfl, i, st⟩
  obtain hn | hn : 0 ≤ n ∨ ¬ 0 ≤ n := by omega
  · refine go ?_
    exact end_res st.nx rfl ⟨true, rfl, by rw [← i]; simp [hn], stA.over st⟩
  · refine go ?_
    exact end_res st.nx rfl ⟨false, rfl, by rw [← i]; simp [hn], stA.over st⟩

/-- script.May. -/
theorem smay_ev {s : PScr} {cs : List Value} (f : Fld S h) (hk : ∀ x ∈ s.cmds, u8ok x.kind) (q : RScr h S s cs) (st : St h0 S h As) : Cal cxo 30 [.agg ⟨cs⟩] h (fun r h' => ∃ b, r = .bool b ∧ (b = true ↔ mayS s) ∧ St h0 S h' As) := by
  have stA := st
  have st := st.rebase
  obtain ⟨k, c, rfl, x1, x2⟩ := q
  have x2k := x2
  obtain ⟨_, _, _, rfl, _⟩ := x1
  obtain ⟨_, _, _, rfl, _⟩ := x2
  refine cal_intro (C := cxo) rfl rfl rfl rfl ?_
  refine go ?_
  refine st_box st ?_; intro b1 h1 st
  refine go ?_
  refine ow_call (has_cmd (f.gr st.gr) hk (slCmd_gr x2k st.gr) st) ?_; rintro _ h2 ⟨b, rfl, i, st⟩
  refine go ?_
  refine end_res st.nx rfl ⟨!b, rfl, ?_, stA.over (st.drop 0 rfl)⟩
  unfold mayS
  cases b <;> simp_all

/-- script.Write of what may not be. -/
theorem write_no {s : PScr} {cs : List Value} (f : Fld S h) (hk : ∀ x ∈ s.cmds, u8ok x.kind) (hno : ¬ mayS s) (q : RScr h S s cs) (st : St h0 S h As) : Cal cxo 29 [.agg ⟨cs⟩] h (fun r h' => r = .tuple ⟨[.slice none 0 0, .int .i64 3]⟩ ∧ St h0 S h' As) := by
  have stA := st
  have st := st.rebase
  have q0 := q
  obtain ⟨k, c, rfl, x1, x2⟩ := q
  obtain ⟨_, _, _, rfl, _⟩ := x1
  obtain ⟨_, _, _, rfl, _⟩ := x2
  refine cal_intro (C := cxo) rfl rfl rfl rfl ?_
  refine go ?_
  refine st_box st ?_; intro b1 h1 st
  refine go ?_
  refine ow_call (smay_ev (f.gr st.gr) hk (by obtain ⟨_, _, e, z1, z2⟩ := q0; exact ⟨_, _, e, z1.gr st.gr, slCmd_gr z2 st.gr⟩) st) ?_; rintro _ h2 ⟨b, rfl, i, st⟩
  cases b with
  | true => exact absurd (i.1 rfl) hno
  | false =>
    refine go ?_
    exact end_res st.nx rfl ⟨rfl, stA.over (st.drop 0 rfl)⟩

set_option maxHeartbeats 4000000 in
/-- script.Write. -/
theorem swrite_ev {s : PScr} {cs : List Value} (f : Fld S h) (hk : s.okR) (hm : mayS s) (q : RScr h S s cs) (hl : (wScr s).length ≤ 2 ^ 38) (st : St h0 S h As) : Cal cxo 29 [.agg ⟨cs⟩] h (fun r h' => ∃ v, r = .tuple ⟨[v, .int .i64 0]⟩ ∧ St h0 S h' (BufB v (wScr s) :: As)) := by
  have stA := st
  have st := st.rebase
  have q0 := q
  obtain ⟨k, c, rfl, x1, x2⟩ := q
  have x1k := x1
  have x2k := x2
  obtain ⟨ka, kn, kc, rfl, _⟩ := x1
  obtain ⟨ca, cn, cc, rfl, hcn, _⟩ := x2
  subst hcn
  unfold wScr at hl ⊢
  simp only [List.length_append] at hl
  refine cal_intro (C := cxo) rfl rfl rfl rfl ?_
  refine go ?_
  refine st_box st ?_; intro b1 h1 st
  refine go ?_
  refine ow_call (smay_ev (f.gr st.gr) (fun x hx => (hk.2.2.2 x hx).1) (by obtain ⟨_, _, e, z1, z2⟩ := q0; exact ⟨_, _, e, z1.gr st.gr, slCmd_gr z2 st.gr⟩) st) ?_; rintro _ h2 ⟨b, rfl, i, st⟩
  obtain rfl := i.2 hm
  refine go ?_
  refine st_box st ?_; intro W h3 st
  have st := (st.nilBuf (w := 1) (a := none)).pull 1 rfl
  have st : St h S h3 (blk W (.cells [.slice none 0 0] 0) :: BufB (.slice none 0 0) [] :: blk b1 _ :: As) := st
  refine go ?_
  refine ow_call (wl_key (p := []) (x1k.gr st.gr) hk.1 (by simp only [List.length_nil]; omega) st) ?_; rintro _ h4 ⟨rfl, v4, st⟩
  rw [List.nil_append] at st
  refine go ?_
  refine ow_call (wint_ev2 hk.2.1 (by omega) st) ?_; rintro _ h5 ⟨rfl, v5, st⟩
  refine go ?_
  refine ow_call (wint_ev2 hk.2.2.1 (by simp only [List.length_append]; omega) st) ?_; rintro _ h6 ⟨rfl, v6, st⟩
  refine go ?_
  refine WK.weak (L' := [(4, .pointer (some ⟨W, 0, none⟩)), (27, .slice ca s.cmds.length cc), (28, .int .i64 (s.cmds.length : Int)), (29, .int .i64 ((0 : Nat) : Int))]) ?_ ⟨rfl, rfl, rfl, rfl, trivial⟩
  obtain ⟨P0, hP0⟩ : ∃ P0, P0 = wL wKey s.keys ++ wI s.maxLen ++ wI s.maxUndo := ⟨_, rfl⟩
  rw [← hP0] at st
  have hP0l : P0.length = (wL wKey s.keys).length + ((wI s.maxLen).length + (wI s.maxUndo).length) := by rw [hP0]; simp only [List.length_append]; omega
  refine wk_inv (ι := Nat × Value × H) (fun z => [(4, .pointer (some ⟨W, 0, none⟩)), (27, .slice ca s.cmds.length cc), (28, .int .i64 (s.cmds.length : Int)), (29, .int .i64 (z.1 : Int))]) (fun z => z.2.2) (fun z => z.1 ≤ s.cmds.length ∧ St h S z.2.2 (blk W (.cells [z.2.1] 0) :: BufB z.2.1 (P0 ++ (s.cmds.take z.1).flatMap wCmd) :: blk b1 (.cells [.slice ka kn kc, .int .i64 s.maxLen, .int .i64 s.maxUndo, .slice ca s.cmds.length cc] 0) :: As)) (fun z => s.cmds.length - z.1) ?_ (0, v6, h6) ⟨Nat.zero_le _, by simpa using st⟩
  clear st
  rintro ⟨j, v, h7⟩ ⟨hj, st⟩ ih
  simp only at hj st ih ⊢
  by_cases hlt : j < s.cmds.length
  · refine go ?_
    obtain ⟨b, o, y, ycs, rfl, hS, hcap, hyi, hyl, hR, hrd⟩ := x2k.at hlt
    rw [← st.read hS] at hrd
    refine ow_index hlt hcap ?_
    refine ow_loadA hrd ?_
    refine st_alloc st ?_; intro b6 h8 st
    have hRk := hR
    obtain ⟨_, _, _, rfl, g1, g2, g3⟩ := hR
    obtain ⟨_, _, _, rfl, _⟩ := g1
    obtain ⟨_, _, _, rfl, _⟩ := g2
    obtain ⟨_, _, _, rfl, _⟩ := g3
    refine st_put st ?_; intro h9 st
    refine go ?_
    have st := (st.pull 2 rfl).pull 2 rfl
    have hb := flat_take_le (w := wCmd) hyi
    refine ow_call (wcommand_ev (f.gr st.gr) (hRk.gr st.gr) (hk.2.2.2 y (List.mem_of_getElem? hyi)) (by simp only [List.length_append]; omega) st) ?_; rintro _ h10 ⟨rfl, v10, st⟩
    refine go ?_
    refine dn_loop ?_
    refine (ih (j + 1, v10, h10) ⟨hlt, ?_⟩ (by simp only; omega)).weak ⟨rfl, rfl, rfl, rfl, trivial⟩
    simp only
    rw [flat_take hyi, ← List.append_assoc]
    exact st.drop 2 rfl
  · refine go ?_
    have hj2 : j = s.cmds.length := by omega
    rw [hj2, List.take_length] at st
    refine end_res st.nx rfl ⟨v, rfl, stA.over ?_⟩
    have st := (st.drop 2 rfl).drop 0 rfl
    have e : P0 ++ s.cmds.flatMap wCmd = wL wKey s.keys ++ (wI s.maxLen ++ (wI s.maxUndo ++ s.cmds.flatMap wCmd)) := by rw [hP0]; simp
    rw [← e]; exact st
end
end Go.Proofs.YtmaccpaiaidgpaaGreatDoor

