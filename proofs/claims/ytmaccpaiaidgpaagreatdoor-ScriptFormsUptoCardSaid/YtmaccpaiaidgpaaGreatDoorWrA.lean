/- The writer of scripts, down to a command. -/
import Derived.Test.YtmaccpaiaidgpaaGreatDoorLawZ
/- The writer: numbers, flags, bytes. -/
namespace Go.Proofs.YtmaccpaiaidgpaaGreatDoor
open Go Go.Mir
set_option maxRecDepth 10000

theorem shr7_u64 {C : Ctx} {t : TypeId} {a b : Operand} {n : Nat} : abin C .shr t a b (.int .u64 (n : Int)) (.int .u64 7) = some (.int .u64 ((n / 128 : Nat) : Int)) := by
  have e : (n : Int).fdiv (2 ^ 7) = ((n / 128 : Nat) : Int) := by
    rw [Int.fdiv_eq_ediv_of_nonneg _ (by decide)]; omega
  have e0 : min ((7 : Int).toNat) 64 = 7 := by decide
  show (if (7 : Int) < 0 then none else some (Value.int .u64 ((n : Int).fdiv (2 ^ min ((7 : Int).toNat) 64)))) = _
  rw [if_neg (by decide), e0, e]

/-- What a writer of things comes to: their form is put behind. -/
def WPost (S : Nat → Prop) (h0 : H) (W : Nat) (p : List UInt8) (As : List Asn) (r : Value) (h' : H) : Prop :=
  r = .tuple ⟨[]⟩ ∧ ∃ v', St h0 S h' (blk W (.cells [v'] 0) :: BufB v' p :: As)

section
variable {h0 h : H} {S : Nat → Prop} {As : List Asn} {W : Nat} {v : Value} {p : List UInt8}

set_option maxHeartbeats 2000000 in
theorem wuint_ev {n : Nat} (hn : n < 2 ^ 64) (hl : p.length ≤ 2 ^ 39) (st : St h0 S h (blk W (.cells [v] 0) :: BufB v p :: As)) : Cal cxo 151 [.pointer (some ⟨W, 0, none⟩), .int .u64 (n : Int)] h (WPost S h0 W (p ++ form n) As) := by
  have hl10 := form_len64 hn
  have stA := st
  have st := st.rebase
  refine cal_intro (C := cxo) rfl rfl rfl rfl ?_
  (refine goM ?_)
  refine WK.weak (L' := [(0, .pointer (some ⟨W, 0, none⟩)), (1, .int .u64 (n : Int))]) ?_ ⟨rfl, rfl, trivial⟩
  refine wk_inv (ι := Value × List UInt8 × Nat × H) (fun s => [(0, .pointer (some ⟨W, 0, none⟩)), (1, .int .u64 (s.2.2.1 : Int))]) (fun s => s.2.2.2) (fun s => s.2.2.1 < 2 ^ 64 ∧ form n = s.2.1 ++ form s.2.2.1 ∧ St h S s.2.2.2 (blk W (.cells [s.1] 0) :: BufB s.1 (p ++ s.2.1) :: As)) (fun s => s.2.2.1) ?_ (v, [], n, h) ⟨hn, rfl, by simp only [List.append_nil]; exact st⟩
  rintro ⟨v1, q, m, h1⟩ ⟨hm, he, st⟩ ih
  simp only at hm he st ih ⊢
  have hq : q.length ≤ 10 := by
    have := congrArg List.length he
    rw [List.length_append] at this; omega
  (refine goM ?_)
  by_cases h9 : 127 < m
  · refine ow_cmp (hv := gtr_t (by omega)) ?_
    (refine goM ?_)
    refine st_load (i := 0) st ?_
    (repeat (first | refine ow_move ?_))
    refine ow_convTo (n := (m : Int)) (n' := ((m % 256 : Nat) : Int)) (by rw [IntKind.wrap_u8]; omega) ?_
    refine ow_int (v := .int .u8 ((m % 128 + 128 : Nat) : Int)) (hv := by have := or_128 (n := m % 256) (by omega); rw [this]; congr 3; omega) ?_
    refine st_buildS st ?_; intro b h2 st2
    refine st_appB (p := p ++ q) (l := [UInt8.ofNat (m % 128 + 128)]) 2 (blk_src st2 (i := 0) rfl (byteV (n := m % 128 + 128) (by omega)).symm (by simp) (by simp; decide)) (by simp only [List.length_append, List.length_singleton]; omega) st2 ?_; intro v' h3 st3
    obtain ⟨va, vc, rfl⟩ := Buf.lenOf st3 (i := 0) rfl
    (refine goM ?_)
    refine st_store (i := 2) st3 ?_; intro h4 st4
    (refine goM ?_)
    refine ow_bin (v := .int .u64 ((m / 128 : Nat) : Int)) rfl rfl shr7_u64 rfl rfl ?_
    (refine goM ?_)
    refine dn_loop ?_
    have st5 := ((st4.drop 1 rfl).pull 1 rfl)
    refine (ih (_, q ++ [UInt8.ofNat (m % 128 + 128)], m / 128, h4) ⟨by simp only; omega, ?_, by simp only [← List.append_assoc]; exact st5⟩ (by simp only; omega)).weak ⟨rfl, rfl, trivial⟩
    rw [he, form_great (by omega), List.append_assoc]; rfl
  · refine ow_cmp (hv := gtr_f (by omega)) ?_
    (refine goM ?_)
    refine st_load (i := 0) st ?_
    (repeat (first | refine ow_move ?_))
    refine ow_convTo (n := (m : Int)) (n' := (m : Int)) (wrap_u8 (by omega)) ?_
    refine st_buildS st ?_; intro b h2 st2
    refine st_appB (p := p ++ q) (l := [UInt8.ofNat m]) 2 (blk_src st2 (i := 0) rfl (byteV (n := m) (by omega)).symm (by simp) (by simp; decide)) (by simp only [List.length_append, List.length_singleton]; omega) st2 ?_; intro v' h3 st3
    obtain ⟨va, vc, rfl⟩ := Buf.lenOf st3 (i := 0) rfl
    (refine goM ?_)
    refine st_store (i := 2) st3 ?_; intro h4 st4
    (refine goM ?_)
    refine end_res st4.nx rfl ?_
    rw [he, form_small (by omega), ← List.append_assoc]
    exact ⟨rfl, _, stA.over ((st4.drop 1 rfl).pull 1 rfl)⟩
end
end Go.Proofs.YtmaccpaiaidgpaaGreatDoor

/- The writer: whole numbers, flags, bytes, values, attributes, changes. -/
namespace Go.Proofs.YtmaccpaiaidgpaaGreatDoor
open Go Go.Mir
set_option maxRecDepth 10000

theorem shl1_any {C : Ctx} {t : TypeId} {a b : Operand} {n : Int} : abin C .shl t a b (.int .u64 n) (.int .u64 1) = some (.int .u64 (IntKind.u64.wrap (n * 2 ^ 1))) := rfl
theorem shr63_any {C : Ctx} {t : TypeId} {a b : Operand} {n : Int} : abin C .shr t a b (.int .i64 n) (.int .u64 63) = some (.int .i64 (n.fdiv (2 ^ 63))) := rfl

section
variable {h0 h : H} {S : Nat → Prop} {As : List Asn} {W : Nat} {v : Value} {p : List UInt8}

theorem wint_ev2 {n : Int} (hn : i64ok n) (hl : p.length ≤ 2 ^ 39) (st : St h0 S h (blk W (.cells [v] 0) :: BufB v p :: As)) : Cal cxo 82 [.pointer (some ⟨W, 0, none⟩), .int .i64 n] h (WPost S h0 W (p ++ wI n) As) := by
  have stA := st
  have st := st.rebase
  refine cal_intro (C := cxo) rfl rfl rfl rfl ?_
  (refine goM ?_)
  refine ow_bin rfl rfl shl1_any rfl rfl ?_
  (refine goM ?_)
  refine ow_bin rfl rfl shr63_any rfl rfl ?_
  (refine goM ?_)
  refine ow_int (hv := zig_bits hn) ?_
  refine ow_call (wuint_ev (zig_lt hn) hl st) ?_; rintro _ h1 ⟨rfl, v', st⟩
  (refine goM ?_)
  exact end_res st.nx rfl ⟨rfl, v', stA.over st⟩

theorem wflag_ev {f : Bool} (hl : p.length ≤ 2 ^ 39) (st : St h0 S h (blk W (.cells [v] 0) :: BufB v p :: As)) : Cal cxo 152 [.pointer (some ⟨W, 0, none⟩), .bool f] h (WPost S h0 W (p ++ wF f) As) := by
  have stA := st
  have st := st.rebase
  refine cal_intro (C := cxo) rfl rfl rfl rfl ?_
  cases f with
  | true =>
    (refine goM ?_)
    refine ow_call (wuint_ev (n := 1) (by decide) hl st) ?_; rintro _ h1 ⟨rfl, v', st⟩
    (refine goM ?_)
    exact end_res st.nx rfl ⟨rfl, v', stA.over st⟩
  | false =>
    (refine goM ?_)
    refine ow_call (wuint_ev (n := 0) (by decide) hl st) ?_; rintro _ h1 ⟨rfl, v', st⟩
    (refine goM ?_)
    exact end_res st.nx rfl ⟨rfl, v', stA.over st⟩

theorem wbytes_ev2 {x : Value} {l : List UInt8} (q : Sl h S 1 RByte x l) (hl : p.length ≤ 2 ^ 38) (hl2 : l.length ≤ 2 ^ 38) (st : St h0 S h (blk W (.cells [v] 0) :: BufB v p :: As)) : Cal cxo 155 [.pointer (some ⟨W, 0, none⟩), x] h (WPost S h0 W (p ++ wB l) As) := by
  have stA := st
  have st := st.rebase
  have q0 := q
  obtain ⟨a, n, c, rfl, hn, _⟩ := q
  subst hn
  have hf := form_len64 (n := l.length) (by omega)
  refine cal_intro (C := cxo) rfl rfl rfl rfl ?_
  (refine goM ?_)
  refine ow_call ((wrap_u64 (n := (l.length : Int)) (by omega)).symm ▸ wuint_ev (n := l.length) (by omega) (by omega) st) ?_; rintro _ h1 ⟨rfl, v', st⟩
  (refine goM ?_)
  refine st_load (i := 0) st ?_
  (refine goM ?_)
  refine st_appB (p := p ++ form l.length) (l := l) 1 (sl_cells (q0.gr st.gr)) (by rw [List.length_append]; omega) st ?_; intro v2 h2 st2
  obtain ⟨va, vc, rfl⟩ := Buf.lenOf st2 (i := 0) rfl
  (refine goM ?_)
  refine st_store (i := 1) st2 ?_; intro h3 st3
  (refine goM ?_)
  refine end_res st3.nx rfl ?_
  have e : p ++ wB l = p ++ form l.length ++ l := by unfold wB; rw [List.append_assoc]
  rw [e]
  exact ⟨rfl, _, stA.over (st3.pull 1 rfl)⟩

set_option maxHeartbeats 2000000 in
theorem wvalue_ev {x : PVal} (hx : x.okR) (hl : p.length + (wVal x).length ≤ 2 ^ 38) (st : St h0 S h (blk W (.cells [v] 0) :: BufB v p :: As)) : Cal cxo 257 [.pointer (some ⟨W, 0, none⟩), .agg ⟨x.cells⟩] h (WPost S h0 W (p ++ wVal x) As) := by
  have stA := st
  have st := st.rebase
  obtain ⟨k, n, f, ⟨⟨s⟩⟩⟩ := x
  obtain ⟨⟨k1, k2⟩, hn, f1, f2⟩ := hx
  simp only at k1 k2 hn f1 f2
  obtain ⟨k, rfl⟩ := Int.eq_ofNat_of_zero_le k1
  obtain ⟨f, rfl⟩ := Int.eq_ofNat_of_zero_le f1
  have e : p ++ wVal ⟨(k : Int), n, (f : Int), ⟨⟨s⟩⟩⟩ = p ++ form k ++ wI n ++ form f ++ wB s := by
    show p ++ (form k ++ (wI n ++ (form f ++ wB s))) = _
    simp only [List.append_assoc]
  have el := congrArg List.length e
  simp only [List.length_append] at el
  rw [e]
  have hs : s.length ≤ (wB s).length := by unfold wB; rw [List.length_append]; omega
  refine cal_intro (C := cxo) rfl rfl rfl rfl ?_
  (refine goM ?_)
  refine st_box st ?_; intro b h1 st
  (refine goM ?_)
  refine st_load (i := 0) st ?_
  refine ow_convTo (n' := (k : Int)) (wrap_u64 (by omega)) ?_
  have st := (st.pull 2 rfl).pull 2 rfl
  refine ow_call (wuint_ev (n := k) (by omega) (by omega) st) ?_; rintro _ h2 ⟨rfl, v2, st⟩
  (refine goM ?_)
  refine st_load (i := 2) st ?_
  refine ow_call (wint_ev2 hn (by rw [List.length_append]; omega) st) ?_; rintro _ h3 ⟨rfl, v3, st⟩
  (refine goM ?_)
  refine st_load (i := 2) st ?_
  refine ow_call (wuint_ev (n := f) (by omega) (by simp only [List.length_append]; omega) st) ?_; rintro _ h4 ⟨rfl, v4, st⟩
  (refine goM ?_)
  refine st_load (i := 2) st ?_
  refine st_strB (l := s) (by omega) st ?_; intro v5 h5 st5
  obtain ⟨S6, g6, q6, st6⟩ := buf_freeze (α := UInt8) (R := RByte) st5 (i := 0) rfl (rows_bytes s) rfl (by omega)
  refine ow_call (wbytes_ev2 q6 (by simp only [List.length_append]; omega) (by omega) st6) ?_; rintro _ h7 ⟨rfl, v7, st7⟩
  (refine goM ?_)
  have g := (st5.gr.trans g6).trans st7.gr
  exact end_res g.1 rfl ⟨rfl, v7, stA.over ((st7.drop 2 rfl).back (st5.gr.trans g6) stA.rebase.lt)⟩
end
end Go.Proofs.YtmaccpaiaidgpaaGreatDoor

/- The writer: lists. -/
namespace Go.Proofs.YtmaccpaiaidgpaaGreatDoor
open Go Go.Mir
set_option maxRecDepth 10000

section
variable {h0 h : H} {S : Nat → Prop} {As : List Asn} {W : Nat} {v : Value} {p : List UInt8}

theorem wattr_ev {x : PAttr} (hx : x.okR) (hl : p.length + (wAttr x).length ≤ 2 ^ 38) (st : St h0 S h (blk W (.cells [v] 0) :: BufB v p :: As)) : Cal cxo 362 [.pointer (some ⟨W, 0, none⟩), .agg ⟨x.cells⟩] h (WPost S h0 W (p ++ wAttr x) As) := by
  have stA := st
  have st := st.rebase
  have e : p ++ wAttr x = p ++ wI x.key ++ wVal x.v := by unfold wAttr; rw [List.append_assoc]
  have el := congrArg List.length e
  simp only [List.length_append] at el
  rw [e]
  refine cal_intro (C := cxo) rfl rfl rfl rfl ?_
  (refine goM ?_)
  refine st_box st ?_; intro b h1 st
  (refine goM ?_)
  refine st_load (i := 0) st ?_
  have st := (st.pull 2 rfl).pull 2 rfl
  refine ow_call (wint_ev2 hx.1 (by omega) st) ?_; rintro _ h2 ⟨rfl, v2, st⟩
  (refine goM ?_)
  refine st_loadA (i := 2) st ?_
  refine ow_call (wvalue_ev hx.2 (by simp only [List.length_append]; omega) st) ?_; rintro _ h3 ⟨rfl, v3, st⟩
  (refine goM ?_)
  exact end_res st.nx rfl ⟨rfl, v3, stA.over (st.drop 2 rfl)⟩

theorem wchange_ev {x : PChg} (hx : x.okR) (hl : p.length + (wChg x).length ≤ 2 ^ 38) (st : St h0 S h (blk W (.cells [v] 0) :: BufB v p :: As)) : Cal cxo 157 [.pointer (some ⟨W, 0, none⟩), .agg ⟨x.cells⟩] h (WPost S h0 W (p ++ wChg x) As) := by
  have stA := st
  have st := st.rebase
  have e : p ++ wChg x = p ++ wI x.key ++ wF x.gone ++ wVal x.v := by unfold wChg; simp only [List.append_assoc]
  have el := congrArg List.length e
  simp only [List.length_append] at el
  rw [e]
  refine cal_intro (C := cxo) rfl rfl rfl rfl ?_
  (refine goM ?_)
  refine st_box st ?_; intro b h1 st
  (refine goM ?_)
  refine st_load (i := 0) st ?_
  have st := (st.pull 2 rfl).pull 2 rfl
  refine ow_call (wint_ev2 hx.1 (by omega) st) ?_; rintro _ h2 ⟨rfl, v2, st⟩
  (refine goM ?_)
  refine st_load (i := 2) st ?_
  refine ow_call (wflag_ev (by simp only [List.length_append]; omega) st) ?_; rintro _ h3 ⟨rfl, v3, st⟩
  (refine goM ?_)
  refine st_loadA (i := 2) st ?_
  refine ow_call (wvalue_ev hx.2 (by simp only [List.length_append]; omega) st) ?_; rintro _ h4 ⟨rfl, v4, st⟩
  (refine goM ?_)
  exact end_res st.nx rfl ⟨rfl, v4, stA.over (st.drop 2 rfl)⟩

theorem wrune_ev {z : Int} {b2 : Nat} (hz : i32ok z) (hl : p.length + (wI z).length ≤ 2 ^ 38) (st : St h0 S h (blk W (.cells [v] 0) :: BufB v p :: blk b2 (.cells [.pointer (some ⟨W, 0, none⟩)] 0) :: As)) : Cal cxo 255 [.int .i32 z, .pointer (some ⟨b2, 0, none⟩)] h (WPost S h0 W (p ++ wI z) (blk b2 (.cells [.pointer (some ⟨W, 0, none⟩)] 0) :: As)) := by
  have stA := st
  have st := st.rebase
  have hz64 : i64ok z := by unfold i32ok at hz; unfold i64ok; omega
  refine cal_intro (C := cxo) rfl rfl rfl rfl ?_
  (refine goM ?_)
  refine st_load (i := 2) st ?_
  refine ow_move ?_
  refine ow_convTo (n := z) (n' := z) (wrap_i64 hz64) ?_
  refine ow_call (wint_ev2 hz64 (by omega) st) ?_; rintro _ h2 ⟨rfl, v2, st⟩
  (refine goM ?_)
  exact end_res st.nx rfl ⟨rfl, v2, stA.over st⟩

theorem wkey_ev {x : PKey} (hx : x.okR) (hl : p.length + (wKey x).length ≤ 2 ^ 38) (st : St h0 S h (blk W (.cells [v] 0) :: BufB v p :: As)) : Cal cxo 81 [.pointer (some ⟨W, 0, none⟩), .agg ⟨x.cells⟩] h (WPost S h0 W (p ++ wKey x) As) := by
  have stA := st
  have st := st.rebase
  have hk := hx.2.1
  unfold u8ok at hk
  have e : p ++ wKey x = p ++ wI x.id ++ wF x.block ++ form x.kind.toNat ++ wF x.aft ++ wF x.bef ++ wI x.group := by unfold wKey wU; simp only [List.append_assoc]
  have el := congrArg List.length e
  simp only [List.length_append] at el
  rw [e]
  refine cal_intro (C := cxo) rfl rfl rfl rfl ?_
  (refine goM ?_)
  refine st_box st ?_; intro b h1 st
  (refine goM ?_)
  refine st_load (i := 0) st ?_
  have st := (st.pull 2 rfl).pull 2 rfl
  refine ow_call (wint_ev2 hx.1 (by omega) st) ?_; rintro _ h2 ⟨rfl, v2, st⟩
  (refine goM ?_)
  refine st_load (i := 2) st ?_
  refine ow_call (wflag_ev (by simp only [List.length_append]; omega) st) ?_; rintro _ h3 ⟨rfl, v3, st⟩
  (refine goM ?_)
  refine st_load (i := 2) st ?_
  refine ow_convTo (n := x.kind) (n' := ((x.kind.toNat : Nat) : Int)) (by rw [wrap_u64 (by omega)]; omega) ?_
  refine ow_call (wuint_ev (n := x.kind.toNat) (by omega) (by simp only [List.length_append]; omega) st) ?_; rintro _ h4 ⟨rfl, v4, st⟩
  (refine goM ?_)
  refine st_load (i := 2) st ?_
  refine ow_call (wflag_ev (by simp only [List.length_append]; omega) st) ?_; rintro _ h5 ⟨rfl, v5, st⟩
  (refine goM ?_)
  refine st_load (i := 2) st ?_
  refine ow_call (wflag_ev (by simp only [List.length_append]; omega) st) ?_; rintro _ h6 ⟨rfl, v6, st⟩
  (refine goM ?_)
  refine st_load (i := 2) st ?_
  refine ow_call (wint_ev2 hx.2.2 (by simp only [List.length_append]; omega) st) ?_; rintro _ h7 ⟨rfl, v7, st⟩
  (refine goM ?_)
  exact end_res st.nx rfl ⟨rfl, v7, stA.over (st.drop 2 rfl)⟩

set_option maxHeartbeats 4000000 in
theorem wl_attr {x : Value} {l : List PAttr} (q : Sl h S 5 (LAttr h S) x l) (hok : ∀ a ∈ l, PAttr.okR a) (hl : p.length + (wL wAttr l).length ≤ 2 ^ 38) (st : St h0 S h (blk W (.cells [v] 0) :: BufB v p ::  As)) :
    Cal cxo 361 [.pointer (some ⟨W, 0, none⟩), x, .func (.func 362) ⟨[.pointer (some ⟨W, 0, none⟩)]⟩ ⟨[]⟩] h (WPost S h0 W (p ++ wL wAttr l) ( As)) := by
  have stA := st
  have st := st.rebase
  have q0 := q
  obtain ⟨a, n, c, rfl, hn, hcc, h62, _⟩ := q
  subst hn
  have hf := form_len64 (n := l.length) (by omega)
  have hwl : (wL wAttr l).length = (form l.length).length + (l.flatMap wAttr).length := by unfold wL; rw [List.length_append]
  refine cal_intro (C := cxo) rfl rfl rfl rfl ?_
  (refine goM ?_)
  refine ow_call ((wrap_u64 (n := (l.length : Int)) (by omega)).symm ▸ wuint_ev (n := l.length) (by omega) (by omega) st) ?_; rintro _ h1 ⟨rfl, v1, st⟩
  (refine goM ?_)
  refine WK.weak (L' := [(0, .pointer (some ⟨W, 0, none⟩)), (2, .func (.func 362) ⟨[.pointer (some ⟨W, 0, none⟩)]⟩ ⟨[]⟩), (13, .slice a l.length c), (14, .int .i64 (l.length : Int)), (15, .int .i64 ((0 : Nat) : Int))]) ?_ ⟨rfl, rfl, rfl, rfl, rfl, trivial⟩
  refine wk_inv (ι := Value × Nat × H) (fun z => [(0, .pointer (some ⟨W, 0, none⟩)), (2, .func (.func 362) ⟨[.pointer (some ⟨W, 0, none⟩)]⟩ ⟨[]⟩), (13, .slice a l.length c), (14, .int .i64 (l.length : Int)), (15, .int .i64 (z.2.1 : Int))]) (fun z => z.2.2) (fun z => z.2.1 ≤ l.length ∧ St h S z.2.2 (blk W (.cells [z.1] 0) :: BufB z.1 (p ++ form l.length ++ (l.take z.2.1).flatMap wAttr) ::  As)) (fun z => l.length - z.2.1) ?_ (v1, 0, h1) ⟨Nat.zero_le _, by simp only [List.take_zero, List.flatMap_nil, List.append_nil]; exact st⟩
  clear st
  rintro ⟨v2, i, h2⟩ ⟨hi, st⟩ ih
  simp only at hi st ih ⊢
  (refine goM ?_)
  by_cases hlt : i < l.length
  · refine ow_cmp (hv := lss_t (by omega)) ?_
    (refine goM ?_)
    obtain ⟨b, o, y, ycs, rfl, hS, hcap, hyi, hyl, hR, hrd⟩ := q0.at hlt
    have hmem : y ∈ l := List.mem_of_getElem? hyi
    have hle := flat_take_le (w := wAttr) hyi
    obtain rfl := hR
    rw [← st.read hS] at hrd
    refine ow_index hlt hcap ?_
    refine ow_loadA hrd ?_
    refine st_alloc st ?_; intro b3 h3 st
    refine st_store (i := 0) st ?_; intro h4 st
    (refine goM ?_)
    refine st_loadA (i := 0) st ?_
    have st := (st.pull 2 rfl).pull 2 rfl
    refine ow_callV (wattr_ev (hok y hmem) (by simp only [List.length_append]; omega) st) ?_; rintro _ h4 ⟨rfl, v3, st⟩
    (refine goM ?_)
    refine ow_int (hv := add_one (by omega)) ?_
    (refine goM ?_)
    refine dn_loop ?_
    refine (ih (v3, i + 1, h4) ⟨hlt, ?_⟩ (by simp only; omega)).weak ⟨rfl, rfl, rfl, rfl, rfl, trivial⟩
    simp only
    rw [flat_take hyi, ← List.append_assoc]
    exact st.drop 2 rfl
  · refine ow_cmp (hv := lss_f (by omega)) ?_
    have : i = l.length := by omega
    subst this
    rw [List.take_length] at st
    (refine goM ?_)
    refine end_res st.nx rfl ?_
    have e : p ++ wL wAttr l = p ++ form l.length ++ l.flatMap wAttr := by unfold wL; rw [List.append_assoc]
    rw [e]
    exact ⟨rfl, v2, stA.over st⟩

set_option maxHeartbeats 4000000 in
theorem wl_chg {x : Value} {l : List PChg} (q : Sl h S 6 (LChg h S) x l) (hok : ∀ a ∈ l, PChg.okR a) (hl : p.length + (wL wChg l).length ≤ 2 ^ 38) (st : St h0 S h (blk W (.cells [v] 0) :: BufB v p ::  As)) :
    Cal cxo 156 [.pointer (some ⟨W, 0, none⟩), x, .func (.func 157) ⟨[.pointer (some ⟨W, 0, none⟩)]⟩ ⟨[]⟩] h (WPost S h0 W (p ++ wL wChg l) ( As)) := by
  have stA := st
  have st := st.rebase
  have q0 := q
  obtain ⟨a, n, c, rfl, hn, hcc, h62, _⟩ := q
  subst hn
  have hf := form_len64 (n := l.length) (by omega)
  have hwl : (wL wChg l).length = (form l.length).length + (l.flatMap wChg).length := by unfold wL; rw [List.length_append]
  refine cal_intro (C := cxo) rfl rfl rfl rfl ?_
  (refine goM ?_)
  refine ow_call ((wrap_u64 (n := (l.length : Int)) (by omega)).symm ▸ wuint_ev (n := l.length) (by omega) (by omega) st) ?_; rintro _ h1 ⟨rfl, v1, st⟩
  (refine goM ?_)
  refine WK.weak (L' := [(0, .pointer (some ⟨W, 0, none⟩)), (2, .func (.func 157) ⟨[.pointer (some ⟨W, 0, none⟩)]⟩ ⟨[]⟩), (13, .slice a l.length c), (14, .int .i64 (l.length : Int)), (15, .int .i64 ((0 : Nat) : Int))]) ?_ ⟨rfl, rfl, rfl, rfl, rfl, trivial⟩
  refine wk_inv (ι := Value × Nat × H) (fun z => [(0, .pointer (some ⟨W, 0, none⟩)), (2, .func (.func 157) ⟨[.pointer (some ⟨W, 0, none⟩)]⟩ ⟨[]⟩), (13, .slice a l.length c), (14, .int .i64 (l.length : Int)), (15, .int .i64 (z.2.1 : Int))]) (fun z => z.2.2) (fun z => z.2.1 ≤ l.length ∧ St h S z.2.2 (blk W (.cells [z.1] 0) :: BufB z.1 (p ++ form l.length ++ (l.take z.2.1).flatMap wChg) ::  As)) (fun z => l.length - z.2.1) ?_ (v1, 0, h1) ⟨Nat.zero_le _, by simp only [List.take_zero, List.flatMap_nil, List.append_nil]; exact st⟩
  clear st
  rintro ⟨v2, i, h2⟩ ⟨hi, st⟩ ih
  simp only at hi st ih ⊢
  (refine goM ?_)
  by_cases hlt : i < l.length
  · refine ow_cmp (hv := lss_t (by omega)) ?_
    (refine goM ?_)
    obtain ⟨b, o, y, ycs, rfl, hS, hcap, hyi, hyl, hR, hrd⟩ := q0.at hlt
    have hmem : y ∈ l := List.mem_of_getElem? hyi
    have hle := flat_take_le (w := wChg) hyi
    obtain rfl := hR
    rw [← st.read hS] at hrd
    refine ow_index hlt hcap ?_
    refine ow_loadA hrd ?_
    refine st_alloc st ?_; intro b3 h3 st
    refine st_store (i := 0) st ?_; intro h4 st
    (refine goM ?_)
    refine st_loadA (i := 0) st ?_
    have st := (st.pull 2 rfl).pull 2 rfl
    refine ow_callV (wchange_ev (hok y hmem) (by simp only [List.length_append]; omega) st) ?_; rintro _ h4 ⟨rfl, v3, st⟩
    (refine goM ?_)
    refine ow_int (hv := add_one (by omega)) ?_
    (refine goM ?_)
    refine dn_loop ?_
    refine (ih (v3, i + 1, h4) ⟨hlt, ?_⟩ (by simp only; omega)).weak ⟨rfl, rfl, rfl, rfl, rfl, trivial⟩
    simp only
    rw [flat_take hyi, ← List.append_assoc]
    exact st.drop 2 rfl
  · refine ow_cmp (hv := lss_f (by omega)) ?_
    have : i = l.length := by omega
    subst this
    rw [List.take_length] at st
    (refine goM ?_)
    refine end_res st.nx rfl ?_
    have e : p ++ wL wChg l = p ++ form l.length ++ l.flatMap wChg := by unfold wL; rw [List.append_assoc]
    rw [e]
    exact ⟨rfl, v2, stA.over st⟩

set_option maxHeartbeats 4000000 in
theorem wl_key {x : Value} {l : List PKey} (q : Sl h S 6 (LKey h S) x l) (hok : ∀ a ∈ l, PKey.okR a) (hl : p.length + (wL wKey l).length ≤ 2 ^ 38) (st : St h0 S h (blk W (.cells [v] 0) :: BufB v p ::  As)) :
    Cal cxo 80 [.pointer (some ⟨W, 0, none⟩), x, .func (.func 81) ⟨[.pointer (some ⟨W, 0, none⟩)]⟩ ⟨[]⟩] h (WPost S h0 W (p ++ wL wKey l) ( As)) := by
  have stA := st
  have st := st.rebase
  have q0 := q
  obtain ⟨a, n, c, rfl, hn, hcc, h62, _⟩ := q
  subst hn
  have hf := form_len64 (n := l.length) (by omega)
  have hwl : (wL wKey l).length = (form l.length).length + (l.flatMap wKey).length := by unfold wL; rw [List.length_append]
  refine cal_intro (C := cxo) rfl rfl rfl rfl ?_
  (refine goM ?_)
  refine ow_call ((wrap_u64 (n := (l.length : Int)) (by omega)).symm ▸ wuint_ev (n := l.length) (by omega) (by omega) st) ?_; rintro _ h1 ⟨rfl, v1, st⟩
  (refine goM ?_)
  refine WK.weak (L' := [(0, .pointer (some ⟨W, 0, none⟩)), (2, .func (.func 81) ⟨[.pointer (some ⟨W, 0, none⟩)]⟩ ⟨[]⟩), (13, .slice a l.length c), (14, .int .i64 (l.length : Int)), (15, .int .i64 ((0 : Nat) : Int))]) ?_ ⟨rfl, rfl, rfl, rfl, rfl, trivial⟩
  refine wk_inv (ι := Value × Nat × H) (fun z => [(0, .pointer (some ⟨W, 0, none⟩)), (2, .func (.func 81) ⟨[.pointer (some ⟨W, 0, none⟩)]⟩ ⟨[]⟩), (13, .slice a l.length c), (14, .int .i64 (l.length : Int)), (15, .int .i64 (z.2.1 : Int))]) (fun z => z.2.2) (fun z => z.2.1 ≤ l.length ∧ St h S z.2.2 (blk W (.cells [z.1] 0) :: BufB z.1 (p ++ form l.length ++ (l.take z.2.1).flatMap wKey) ::  As)) (fun z => l.length - z.2.1) ?_ (v1, 0, h1) ⟨Nat.zero_le _, by simp only [List.take_zero, List.flatMap_nil, List.append_nil]; exact st⟩
  clear st
  rintro ⟨v2, i, h2⟩ ⟨hi, st⟩ ih
  simp only at hi st ih ⊢
  (refine goM ?_)
  by_cases hlt : i < l.length
  · refine ow_cmp (hv := lss_t (by omega)) ?_
    (refine goM ?_)
    obtain ⟨b, o, y, ycs, rfl, hS, hcap, hyi, hyl, hR, hrd⟩ := q0.at hlt
    have hmem : y ∈ l := List.mem_of_getElem? hyi
    have hle := flat_take_le (w := wKey) hyi
    obtain rfl := hR
    rw [← st.read hS] at hrd
    refine ow_index hlt hcap ?_
    refine ow_loadA hrd ?_
    refine st_alloc st ?_; intro b3 h3 st
    refine st_store (i := 0) st ?_; intro h4 st
    (refine goM ?_)
    refine st_loadA (i := 0) st ?_
    have st := (st.pull 2 rfl).pull 2 rfl
    refine ow_callV (wkey_ev (hok y hmem) (by simp only [List.length_append]; omega) st) ?_; rintro _ h4 ⟨rfl, v3, st⟩
    (refine goM ?_)
    refine ow_int (hv := add_one (by omega)) ?_
    (refine goM ?_)
    refine dn_loop ?_
    refine (ih (v3, i + 1, h4) ⟨hlt, ?_⟩ (by simp only; omega)).weak ⟨rfl, rfl, rfl, rfl, rfl, trivial⟩
    simp only
    rw [flat_take hyi, ← List.append_assoc]
    exact st.drop 2 rfl
  · refine ow_cmp (hv := lss_f (by omega)) ?_
    have : i = l.length := by omega
    subst this
    rw [List.take_length] at st
    (refine goM ?_)
    refine end_res st.nx rfl ?_
    have e : p ++ wL wKey l = p ++ form l.length ++ l.flatMap wKey := by unfold wL; rw [List.append_assoc]
    rw [e]
    exact ⟨rfl, v2, stA.over st⟩

set_option maxHeartbeats 4000000 in
theorem wl_rune {b2 : Nat} {x : Value} {l : List Int} (q : Sl h S 1 (LRune h S) x l) (hok : ∀ a ∈ l, i32ok a) (hl : p.length + (wL wI l).length ≤ 2 ^ 38) (st : St h0 S h (blk W (.cells [v] 0) :: BufB v p :: blk b2 (.cells [.pointer (some ⟨W, 0, none⟩)] 0) :: As)) :
    Cal cxo 254 [.pointer (some ⟨W, 0, none⟩), x, .func (.func 255) ⟨[]⟩ ⟨[.pointer (some ⟨b2, 0, none⟩)]⟩] h (WPost S h0 W (p ++ wL wI l) (blk b2 (.cells [.pointer (some ⟨W, 0, none⟩)] 0) :: As)) := by
  have stA := st
  have st := st.rebase
  have q0 := q
  obtain ⟨a, n, c, rfl, hn, hcc, h62, _⟩ := q
  subst hn
  have hf := form_len64 (n := l.length) (by omega)
  have hwl : (wL wI l).length = (form l.length).length + (l.flatMap wI).length := by unfold wL; rw [List.length_append]
  refine cal_intro (C := cxo) rfl rfl rfl rfl ?_
  (refine goM ?_)
  refine ow_call ((wrap_u64 (n := (l.length : Int)) (by omega)).symm ▸ wuint_ev (n := l.length) (by omega) (by omega) st) ?_; rintro _ h1 ⟨rfl, v1, st⟩
  (refine goM ?_)
  refine WK.weak (L' := [(0, .pointer (some ⟨W, 0, none⟩)), (2, .func (.func 255) ⟨[]⟩ ⟨[.pointer (some ⟨b2, 0, none⟩)]⟩), (13, .slice a l.length c), (14, .int .i64 (l.length : Int)), (15, .int .i64 ((0 : Nat) : Int))]) ?_ ⟨rfl, rfl, rfl, rfl, rfl, trivial⟩
  refine wk_inv (ι := Value × Nat × H) (fun z => [(0, .pointer (some ⟨W, 0, none⟩)), (2, .func (.func 255) ⟨[]⟩ ⟨[.pointer (some ⟨b2, 0, none⟩)]⟩), (13, .slice a l.length c), (14, .int .i64 (l.length : Int)), (15, .int .i64 (z.2.1 : Int))]) (fun z => z.2.2) (fun z => z.2.1 ≤ l.length ∧ St h S z.2.2 (blk W (.cells [z.1] 0) :: BufB z.1 (p ++ form l.length ++ (l.take z.2.1).flatMap wI) :: blk b2 (.cells [.pointer (some ⟨W, 0, none⟩)] 0) :: As)) (fun z => l.length - z.2.1) ?_ (v1, 0, h1) ⟨Nat.zero_le _, by simp only [List.take_zero, List.flatMap_nil, List.append_nil]; exact st⟩
  clear st
  rintro ⟨v2, i, h2⟩ ⟨hi, st⟩ ih
  simp only at hi st ih ⊢
  (refine goM ?_)
  by_cases hlt : i < l.length
  · refine ow_cmp (hv := lss_t (by omega)) ?_
    (refine goM ?_)
    obtain ⟨b, o, y, ycs, rfl, hS, hcap, hyi, hyl, hR, hrd⟩ := q0.at hlt
    have hmem : y ∈ l := List.mem_of_getElem? hyi
    have hle := flat_take_le (w := wI) hyi
    obtain rfl := hR
    rw [← st.read hS] at hrd
    refine ow_index hlt hcap ?_
    refine ow_load (v := .int .i32 y) (read_load hrd (k := 0) (by decide)) ?_
    (refine goM ?_)
    refine ow_callV (wrune_ev (hok y hmem) (by simp only [List.length_append]; omega) st) ?_; rintro _ h4 ⟨rfl, v3, st⟩
    (refine goM ?_)
    refine ow_int (hv := add_one (by omega)) ?_
    (refine goM ?_)
    refine dn_loop ?_
    refine (ih (v3, i + 1, h4) ⟨hlt, ?_⟩ (by simp only; omega)).weak ⟨rfl, rfl, rfl, rfl, rfl, trivial⟩
    simp only
    rw [flat_take hyi, ← List.append_assoc]
    exact st
  · refine ow_cmp (hv := lss_f (by omega)) ?_
    have : i = l.length := by omega
    subst this
    rw [List.take_length] at st
    (refine goM ?_)
    refine end_res st.nx rfl ?_
    have e : p ++ wL wI l = p ++ form l.length ++ l.flatMap wI := by unfold wL; rw [List.append_assoc]
    rw [e]
    exact ⟨rfl, v2, stA.over st⟩
end
end Go.Proofs.YtmaccpaiaidgpaaGreatDoor

/- The writer: ops, commands. -/
namespace Go.Proofs.YtmaccpaiaidgpaaGreatDoor
open Go Go.Mir
set_option maxRecDepth 10000

section
variable {h0 h : H} {S : Nat → Prop} {As : List Asn} {W : Nat} {v : Value} {p : List UInt8}

theorem wset_ev {x : Value} {l : List PAttr} (q : Sl h S 5 (LAttr h S) x l) (hok : ∀ a ∈ l, a.okR) (hl : p.length + (wL wAttr l).length ≤ 2 ^ 38) (st : St h0 S h (blk W (.cells [v] 0) :: BufB v p :: As)) : Cal cxo 256 [.pointer (some ⟨W, 0, none⟩), x] h (WPost S h0 W (p ++ wL wAttr l) As) := by
  have stA := st
  have st := st.rebase
  have q0 := q
  obtain ⟨a, n, c, rfl, _⟩ := q
  refine cal_intro (C := cxo) rfl rfl rfl rfl ?_
  (refine goM ?_)
  refine ow_call (wl_attr q0 hok hl st) ?_; rintro _ h1 ⟨rfl, v1, st⟩
  (refine goM ?_)
  exact end_res st.nx rfl ⟨rfl, v1, stA.over st⟩

set_option maxHeartbeats 2000000 in
theorem wop_ev {x : POp} {cs : List Value} (q : Go.Mir.ROp h S x cs) (hx : x.okR) (hl : p.length + (wOp x).length ≤ 2 ^ 38) (st : St h0 S h (blk W (.cells [v] 0) :: BufB v p :: As)) : Cal cxo 154 [.pointer (some ⟨W, 0, none⟩), .agg ⟨cs⟩] h (WPost S h0 W (p ++ wOp x) As) := by
  have stA := st
  have st := st.rebase
  obtain ⟨xr, xs0, xp, rfl, hop1, hop2, hop3⟩ := q
  have hop1k := hop1
  have hop2k := hop2
  have hop3k := hop3
  obtain ⟨ra, rn, rc, rfl, _⟩ := hop1
  obtain ⟨sa, sn, sc, rfl, _⟩ := hop2
  obtain ⟨pa, pn, pc, rfl, _⟩ := hop3
  have hk := hx.1
  unfold u8ok at hk
  have e : p ++ wOp x = p ++ form x.kind.toNat ++ wI x.n ++ wL wI x.runes ++ wL wAttr x.set ++ wL wChg x.patch := by unfold wOp wU; simp only [List.append_assoc]
  have el := congrArg List.length e
  simp only [List.length_append] at el
  rw [e]
  refine cal_intro (C := cxo) rfl rfl rfl rfl ?_
  (refine goM ?_)
  refine st_box1 st ?_; intro b2 h1 st
  refine st_box st ?_; intro b3 h2 st
  have st := ((st.pull 1 rfl).pull 3 rfl).pull 3 rfl
  (refine goM ?_)
  refine st_load (i := 2) st ?_
  (refine goM ?_)
  refine st_load (i := 3) st ?_
  refine ow_convTo (n := x.kind) (n' := ((x.kind.toNat : Nat) : Int)) (by rw [wrap_u64 (by omega)]; omega) ?_
  refine ow_call (wuint_ev (n := x.kind.toNat) (by omega) (by omega) st) ?_; rintro _ h3 ⟨rfl, v3, st⟩
  (refine goM ?_)
  refine st_load (i := 2) st ?_
  (refine goM ?_)
  refine st_load (i := 3) st ?_
  refine ow_call (wint_ev2 hx.2.1 (by simp only [List.length_append]; omega) st) ?_; rintro _ h4 ⟨rfl, v4, st⟩
  (refine goM ?_)
  refine st_load (i := 2) st ?_
  (refine goM ?_)
  refine st_load (i := 3) st ?_
  (refine goM ?_)
  refine ow_call (wl_rune (hop1k.gr st.gr) hx.2.2.1 (by simp only [List.length_append]; omega) st) ?_; rintro _ h5 ⟨rfl, v5, st⟩
  (refine goM ?_)
  refine st_load (i := 2) st ?_
  (refine goM ?_)
  refine st_load (i := 3) st ?_
  refine ow_call (wset_ev (hop2k.gr st.gr) hx.2.2.2.1 (by simp only [List.length_append]; omega) st) ?_; rintro _ h6 ⟨rfl, v6, st⟩
  (refine goM ?_)
  refine st_load (i := 2) st ?_
  (refine goM ?_)
  refine st_load (i := 3) st ?_
  refine st_load (i := 2) st ?_
  (refine goM ?_)
  refine ow_call (wl_chg (hop3k.gr st.gr) hx.2.2.2.2 (by simp only [List.length_append]; omega) st) ?_; rintro _ h7 ⟨rfl, v7, st⟩
  (refine goM ?_)
  exact end_res st.nx rfl ⟨rfl, v7, stA.over ((st.drop 2 rfl).drop 2 rfl)⟩

set_option maxHeartbeats 4000000 in
theorem wl_op {x : Value} {l : List POp} (q : Sl h S 5 (Go.Mir.ROp h S) x l) (hok : ∀ a ∈ l, POp.okR a) (hl : p.length + (wL wOp l).length ≤ 2 ^ 38) (st : St h0 S h (blk W (.cells [v] 0) :: BufB v p ::  As)) :
    Cal cxo 153 [.pointer (some ⟨W, 0, none⟩), x, .func (.func 154) ⟨[.pointer (some ⟨W, 0, none⟩)]⟩ ⟨[]⟩] h (WPost S h0 W (p ++ wL wOp l) ( As)) := by
  have stA := st
  have st := st.rebase
  have q0 := q
  obtain ⟨a, n, c, rfl, hn, hcc, h62, _⟩ := q
  subst hn
  have hf := form_len64 (n := l.length) (by omega)
  have hwl : (wL wOp l).length = (form l.length).length + (l.flatMap wOp).length := by unfold wL; rw [List.length_append]
  refine cal_intro (C := cxo) rfl rfl rfl rfl ?_
  (refine goM ?_)
  refine ow_call ((wrap_u64 (n := (l.length : Int)) (by omega)).symm ▸ wuint_ev (n := l.length) (by omega) (by omega) st) ?_; rintro _ h1 ⟨rfl, v1, st⟩
  (refine goM ?_)
  refine WK.weak (L' := [(0, .pointer (some ⟨W, 0, none⟩)), (2, .func (.func 154) ⟨[.pointer (some ⟨W, 0, none⟩)]⟩ ⟨[]⟩), (13, .slice a l.length c), (14, .int .i64 (l.length : Int)), (15, .int .i64 ((0 : Nat) : Int))]) ?_ ⟨rfl, rfl, rfl, rfl, rfl, trivial⟩
  refine wk_inv (ι := Value × Nat × H) (fun z => [(0, .pointer (some ⟨W, 0, none⟩)), (2, .func (.func 154) ⟨[.pointer (some ⟨W, 0, none⟩)]⟩ ⟨[]⟩), (13, .slice a l.length c), (14, .int .i64 (l.length : Int)), (15, .int .i64 (z.2.1 : Int))]) (fun z => z.2.2) (fun z => z.2.1 ≤ l.length ∧ St h S z.2.2 (blk W (.cells [z.1] 0) :: BufB z.1 (p ++ form l.length ++ (l.take z.2.1).flatMap wOp) ::  As)) (fun z => l.length - z.2.1) ?_ (v1, 0, h1) ⟨Nat.zero_le _, by simp only [List.take_zero, List.flatMap_nil, List.append_nil]; exact st⟩
  clear st
  rintro ⟨v2, i, h2⟩ ⟨hi, st⟩ ih
  simp only at hi st ih ⊢
  (refine goM ?_)
  by_cases hlt : i < l.length
  · refine ow_cmp (hv := lss_t (by omega)) ?_
    (refine goM ?_)
    obtain ⟨b, o, y, ycs, rfl, hS, hcap, hyi, hyl, hR, hrd⟩ := q0.at hlt
    have hmem : y ∈ l := List.mem_of_getElem? hyi
    have hle := flat_take_le (w := wOp) hyi
    have hRk := hR
    obtain ⟨xr, xs0, xp, rfl, hop1, hop2, hop3⟩ := hR
    obtain ⟨ra, rn, rc, rfl, _⟩ := hop1
    obtain ⟨sa, sn, sc, rfl, _⟩ := hop2
    obtain ⟨pa, pn, pc, rfl, _⟩ := hop3
    rw [← st.read hS] at hrd
    refine ow_index hlt hcap ?_
    refine ow_loadA hrd ?_
    refine st_alloc st ?_; intro b3 h3 st
    refine st_store (i := 0) st ?_; intro h4 st
    (refine goM ?_)
    refine st_loadA (i := 0) st ?_
    have st := (st.pull 2 rfl).pull 2 rfl
    refine ow_callV (wop_ev (hRk.gr st.gr) (hok y hmem) (by simp only [List.length_append]; omega) st) ?_; rintro _ h4 ⟨rfl, v3, st⟩
    (refine goM ?_)
    refine ow_int (hv := add_one (by omega)) ?_
    (refine goM ?_)
    refine dn_loop ?_
    refine (ih (v3, i + 1, h4) ⟨hlt, ?_⟩ (by simp only; omega)).weak ⟨rfl, rfl, rfl, rfl, rfl, trivial⟩
    simp only
    rw [flat_take hyi, ← List.append_assoc]
    exact st.drop 2 rfl
  · refine ow_cmp (hv := lss_f (by omega)) ?_
    have : i = l.length := by omega
    subst this
    rw [List.take_length] at st
    (refine goM ?_)
    refine end_res st.nx rfl ?_
    have e : p ++ wL wOp l = p ++ form l.length ++ l.flatMap wOp := by unfold wL; rw [List.append_assoc]
    rw [e]
    exact ⟨rfl, v2, stA.over st⟩
end
end Go.Proofs.YtmaccpaiaidgpaaGreatDoor

/- The writer: a command. -/
namespace Go.Proofs.YtmaccpaiaidgpaaGreatDoor
open Go Go.Mir
set_option maxRecDepth 10000

section
variable {h0 h : H} {S : Nat → Prop} {As : List Asn} {W : Nat} {v : Value} {p : List UInt8}

set_option maxHeartbeats 8000000 in
theorem wcommand_ev {x : PCmd} {cs : List Value} (f : Fld S h) (q : RCmd h S x cs) (hx : x.okR) (hl : p.length + (wCmd x).length ≤ 2 ^ 38) (st : St h0 S h (blk W (.cells [v] 0) :: BufB v p :: As)) : Cal cxo 83 [.pointer (some ⟨W, 0, none⟩), .agg ⟨cs⟩] h (WPost S h0 W (p ++ wCmd x) As) := by
  have stA := st
  have st := st.rebase
  obtain ⟨xo, xb, xp, rfl, qo, qb, qp⟩ := q
  have qo0 := qo
  have qb0 := qb
  have qp0 := qp
  obtain ⟨oa, on, oc, rfl, _⟩ := qo
  obtain ⟨ta, tn, tc, rfl, _⟩ := qb
  obtain ⟨pa, pn, pc, rfl, _⟩ := qp
  obtain ⟨hkd, hi1, hj1, hkey1, hby1, hops1, hpat1⟩ := hx
  have hk := hkd
  unfold u8ok at hk
  have e : p ++ wCmd x = p ++ form x.kind.toNat ++ (fieldsOf x.kind).flatMap (wField x) := by unfold wCmd wU; simp only [List.append_assoc]
  have el := congrArg List.length e
  simp only [List.length_append] at el
  rw [e]
  refine cal_intro (C := cxo) rfl rfl rfl rfl ?_
  (refine goM ?_)
  refine st_box st ?_; intro b3 h1 st
  (refine goM ?_)
  refine st_load (i := 0) st ?_
  refine ow_convTo (n := x.kind) (n' := ((x.kind.toNat : Nat) : Int)) (by rw [wrap_u64 (by omega)]; omega) ?_
  have st := (st.pull 2 rfl).pull 2 rfl
  refine ow_call (wuint_ev (n := x.kind.toNat) (by omega) (by omega) st) ?_; rintro _ h2 ⟨rfl, v2, st⟩
  (refine goM ?_)
  refine st_load (i := 2) st ?_
  refine ow_call (of_evI (f.gr st.gr) hkd) ?_; rintro _ _ ⟨rfl, rfl⟩
  refine st_range st ?_; intro b2 h3 st
  have st := (st.pull 2 rfl).pull 2 rfl
  (refine goM ?_)
  refine WK.weak (L' := [(0, .pointer (some ⟨W, 0, none⟩)), (3, .pointer (some ⟨b3, 0, none⟩)), (16, .pointer (some ⟨b2, 0, none⟩))]) ?_ ⟨rfl, rfl, rfl, trivial⟩
  refine wk_inv (ι := Value × Nat × H) (fun z => [(0, .pointer (some ⟨W, 0, none⟩)), (3, .pointer (some ⟨b3, 0, none⟩)), (16, .pointer (some ⟨b2, 0, none⟩))]) (fun z => z.2.2) (fun z => z.2.1 ≤ (fieldsOf x.kind).length ∧ St h S z.2.2 (blk W (.cells [z.1] 0) :: BufB z.1 (p ++ form x.kind.toNat ++ ((fieldsOf x.kind).take z.2.1).flatMap (wField x)) :: blk b2 (.iter ⟨⟨fieldsOf x.kind⟩⟩ z.2.1) :: blk b3 (.cells [.int .u8 x.kind, .int .i64 x.i, .int .i64 x.j, .int .i64 x.key, .int .i64 x.by', .slice oa on oc, .slice ta tn tc, .slice pa pn pc] 0) :: As)) (fun z => (fieldsOf x.kind).length - z.2.1) ?_ (v2, 0, h3) ⟨Nat.zero_le _, by simp only [List.take_zero, List.flatMap_nil, List.append_nil]; exact st⟩
  clear st
  rintro ⟨v3, pos, h4⟩ ⟨hp, st⟩ ih
  simp only at hp st ih ⊢
  (refine goM ?_)
  by_cases hlt : pos < (fieldsOf x.kind).length
  · obtain ⟨fl, hf⟩ : ∃ fl, (fieldsOf x.kind)[pos]? = some fl := ⟨_, List.getElem?_eq_getElem hlt⟩
    have hmem : fl ∈ fieldsOf x.kind := List.mem_of_getElem? hf
    have hle := flat_take_le (w := wField x) hf
    have hl8 := fields_letters hmem
    have h7 : fl.toNat < 128 := by rcases hl8 with rfl | rfl | rfl | rfl | rfl | rfl | rfl | rfl <;> decide
    refine st_next (f := fl) 2 hf h7 st ?_; intro h9 st
    (refine goM ?_)
    rcases hl8 with rfl | rfl | rfl | rfl | rfl | rfl | rfl | rfl
    · refine ow_call number_ev ?_; rintro _ _ ⟨rfl, rfl⟩
      have hle : _ + (wI x.i).length ≤ _ := hle
      (refine goM ?_)
      refine st_load (i := 3) st ?_
      refine ow_call (wint_ev2 hi1 (by simp only [List.length_append]; omega) st) ?_; rintro _ h5 ⟨rfl, v5, st⟩
      (refine goM ?_)
      refine ow_cmp (hv := eql_f (by decide)) ?_
      (refine goM ?_)
      refine ow_cmp (hv := eql_f (by decide)) ?_
      (refine goM ?_)
      refine ow_cmp (hv := eql_f (by decide)) ?_
      (refine goM ?_)
      refine dn_loop ?_
      exact (ih (v5, pos + 1, h5) ⟨hlt, by simp only; rw [flat_take hf, ← List.append_assoc]; exact st⟩ (by simp only; omega)).weak ⟨rfl, rfl, rfl, trivial⟩
    · refine ow_call number_ev ?_; rintro _ _ ⟨rfl, rfl⟩
      have hle : _ + (wI x.j).length ≤ _ := hle
      (refine goM ?_)
      refine st_load (i := 3) st ?_
      refine ow_call (wint_ev2 hj1 (by simp only [List.length_append]; omega) st) ?_; rintro _ h5 ⟨rfl, v5, st⟩
      (refine goM ?_)
      refine ow_cmp (hv := eql_f (by decide)) ?_
      (refine goM ?_)
      refine ow_cmp (hv := eql_f (by decide)) ?_
      (refine goM ?_)
      refine ow_cmp (hv := eql_f (by decide)) ?_
      (refine goM ?_)
      refine dn_loop ?_
      exact (ih (v5, pos + 1, h5) ⟨hlt, by simp only; rw [flat_take hf, ← List.append_assoc]; exact st⟩ (by simp only; omega)).weak ⟨rfl, rfl, rfl, trivial⟩
    · refine ow_call number_ev ?_; rintro _ _ ⟨rfl, rfl⟩
      have hle : _ + (wI x.key).length ≤ _ := hle
      (refine goM ?_)
      refine st_load (i := 3) st ?_
      refine ow_call (wint_ev2 hkey1 (by simp only [List.length_append]; omega) st) ?_; rintro _ h5 ⟨rfl, v5, st⟩
      (refine goM ?_)
      refine ow_cmp (hv := eql_f (by decide)) ?_
      (refine goM ?_)
      refine ow_cmp (hv := eql_f (by decide)) ?_
      (refine goM ?_)
      refine ow_cmp (hv := eql_f (by decide)) ?_
      (refine goM ?_)
      refine dn_loop ?_
      exact (ih (v5, pos + 1, h5) ⟨hlt, by simp only; rw [flat_take hf, ← List.append_assoc]; exact st⟩ (by simp only; omega)).weak ⟨rfl, rfl, rfl, trivial⟩
    · refine ow_call number_ev ?_; rintro _ _ ⟨rfl, rfl⟩
      have hle : _ + (wI x.by').length ≤ _ := hle
      (refine goM ?_)
      refine st_load (i := 3) st ?_
      refine ow_call (wint_ev2 hby1 (by simp only [List.length_append]; omega) st) ?_; rintro _ h5 ⟨rfl, v5, st⟩
      (refine goM ?_)
      refine ow_cmp (hv := eql_f (by decide)) ?_
      (refine goM ?_)
      refine ow_cmp (hv := eql_f (by decide)) ?_
      (refine goM ?_)
      refine ow_cmp (hv := eql_f (by decide)) ?_
      (refine goM ?_)
      refine dn_loop ?_
      exact (ih (v5, pos + 1, h5) ⟨hlt, by simp only; rw [flat_take hf, ← List.append_assoc]; exact st⟩ (by simp only; omega)).weak ⟨rfl, rfl, rfl, trivial⟩
    · refine ow_call number_ev ?_; rintro _ _ ⟨rfl, rfl⟩
      have hle : _ + (wL wOp x.ops).length ≤ _ := hle
      (refine goM ?_)
      refine ow_cmp (hv := eql_t (by decide)) ?_
      (refine goM ?_)
      refine st_load (i := 3) st ?_
      (refine goM ?_)
      refine ow_call (wl_op (slOp_gr qo0 st.gr) hops1 (by simp only [List.length_append]; omega) st) ?_; rintro _ h5 ⟨rfl, v5, st⟩
      (refine goM ?_)
      refine dn_loop ?_
      exact (ih (v5, pos + 1, h5) ⟨hlt, by simp only; rw [flat_take hf, ← List.append_assoc]; exact st⟩ (by simp only; omega)).weak ⟨rfl, rfl, rfl, trivial⟩
    · refine ow_call number_ev ?_; rintro _ _ ⟨rfl, rfl⟩
      have hle : _ + (wB x.bytes).length ≤ _ := hle
      (refine goM ?_)
      refine ow_cmp (hv := eql_f (by decide)) ?_
      (refine goM ?_)
      refine ow_cmp (hv := eql_t (by decide)) ?_
      (refine goM ?_)
      refine st_load (i := 3) st ?_
      (refine goM ?_)
      refine ow_call (wbytes_ev2 (qb0.gr st.gr) (by simp only [List.length_append]; omega) (by have : (wB x.bytes).length = (form x.bytes.length).length + x.bytes.length := by { unfold wB; rw [List.length_append] }; omega) st) ?_; rintro _ h5 ⟨rfl, v5, st⟩
      (refine goM ?_)
      refine dn_loop ?_
      exact (ih (v5, pos + 1, h5) ⟨hlt, by simp only; rw [flat_take hf, ← List.append_assoc]; exact st⟩ (by simp only; omega)).weak ⟨rfl, rfl, rfl, trivial⟩
    · refine ow_call number_ev ?_; rintro _ _ ⟨rfl, rfl⟩
      have hle : _ + (wL wChg x.patch).length ≤ _ := hle
      (refine goM ?_)
      refine ow_cmp (hv := eql_f (by decide)) ?_
      (refine goM ?_)
      refine ow_cmp (hv := eql_f (by decide)) ?_
      (refine goM ?_)
      refine ow_cmp (hv := eql_t (by decide)) ?_
      (refine goM ?_)
      refine st_load (i := 3) st ?_
      (refine goM ?_)
      refine ow_call (wl_chg (qp0.gr st.gr) hpat1 (by simp only [List.length_append]; omega) st) ?_; rintro _ h5 ⟨rfl, v5, st⟩
      (refine goM ?_)
      refine dn_loop ?_
      exact (ih (v5, pos + 1, h5) ⟨hlt, by simp only; rw [flat_take hf, ← List.append_assoc]; exact st⟩ (by simp only; omega)).weak ⟨rfl, rfl, rfl, trivial⟩
    · refine ow_call number_ev ?_; rintro _ _ ⟨rfl, rfl⟩
      (refine goM ?_)
      refine ow_cmp (hv := eql_f (by decide)) ?_
      (refine goM ?_)
      refine ow_cmp (hv := eql_f (by decide)) ?_
      (refine goM ?_)
      refine ow_cmp (hv := eql_f (by decide)) ?_
      (refine goM ?_)
      refine dn_loop ?_
      refine (ih (v3, pos + 1, h9) ⟨hlt, ?_⟩ (by simp only; omega)).weak ⟨rfl, rfl, rfl, trivial⟩
      simp only
      rw [flat_take hf, ← List.append_assoc, show wField x 46 = [] from rfl, List.append_nil]
      exact st
  · refine st_nextEnd (fs := fieldsOf x.kind) (p := pos) 2 (by omega) st ?_
    have : pos = (fieldsOf x.kind).length := by omega
    subst this
    rw [List.take_length] at st
    (refine goM ?_)
    exact end_res st.nx rfl ⟨rfl, v3, stA.over ((st.drop 2 rfl).drop 2 rfl)⟩
end
end Go.Proofs.YtmaccpaiaidgpaaGreatDoor

