/- The reader: numbers, bytes, values, several things, ops. -/
import Derived.Test.YtmaccpaiaidgpaaGreatDoorTabsO
import Derived.Test.YtmaccpaiaidgpaaGreatDoorScrA
/- wire.Uint: the natural number whose form stands at a place, or none. -/
namespace Go.Proofs.YtmaccpaiaidgpaaGreatDoor
open Go Go.Mir
set_option maxRecDepth 10000

/-- What the reading of a form gives. -/
def UintPost (b : List UInt8) (at' : Nat) (r : Value) : Prop :=
  (∃ (n nx : Nat), r = .tuple ⟨[.int .u64 (n : Int), .int .i64 (nx : Int), .int .i64 0]⟩ ∧ n < 2 ^ 64 ∧ at' < nx ∧ nx ≤ b.length ∧ b.drop at' = form n ++ b.drop nx) ∨
  (∃ e : Int, r = .tuple ⟨[.int .u64 0, .int .i64 0, .int .i64 e]⟩ ∧ e ≠ 0 ∧ ∀ n, n < 2 ^ 64 → ∀ rest, b.drop at' ≠ form n ++ rest)

theorem take_hi {s : List UInt8} {i : Nat} {x : UInt8} (h : s[i]? = some x) : s.take (i + 1) = s.take i ++ [x] := by
  rw [List.take_add_one, h]; rfl
theorem split_at {s : List UInt8} {i : Nat} {x : UInt8} (h : s[i]? = some x) : s = s.take i ++ x :: s.drop (i + 1) := by
  have hl := (List.getElem?_eq_some_iff.1 h).1
  conv => lhs; rw [← List.take_append_drop i s]
  rw [List.drop_eq_getElem_cons hl]
  congr 2
  exact (List.getElem?_eq_some_iff.1 h).2



set_option maxHeartbeats 4000000 in
theorem uint_ev {h : H} {S : Nat → Prop} {bv : Value} {b : List UInt8} (hb : Bs h S bv b) {at' : Nat} (hat : at' ≤ b.length) : Cal cxo 246 [bv, .int .i64 (at' : Int)] h (fun r h' => h = h' ∧ UintPost b at' r) := by
  have h62 := hb.len
  have hb2 := hb
  obtain ⟨_, ba, bc, rfl, _, _⟩ := hb2
  refine cal_intro (C := cxo) rfl rfl rfl rfl ?_
  (refine goM ?_)
  refine ow_cmp (hv := lss_f (by omega)) ?_
  (refine goM ?_)
  refine ow_cmp (hv := gtr_f (by omega)) ?_
  (refine goM ?_)
  refine ow_sliceB (l := at') (m := b.length) hb hat (Nat.le_refl _) ?_; intro sa sc hsub
  (refine goM ?_)
  obtain ⟨s, hs⟩ : ∃ s, s = b.drop at' := ⟨_, rfl⟩
  have hsl : s.length = b.length - at' := by rw [hs, List.length_drop]
  rw [← hs, List.take_of_length_le (by omega)] at hsub
  refine WK.weak (L' := [(1, .int .i64 (at' : Int)), (4, .int .u64 ((0 : Nat) : Int)), (19, .slice sa (b.length - at') sc), (20, .int .i64 ((b.length - at' : Nat) : Int)), (21, .int .i64 ((0 : Nat) : Int))]) ?_ ⟨rfl, rfl, rfl, rfl, rfl, trivial⟩
  refine wk_inv (ι := Nat × Nat) (fun p => [(1, .int .i64 (at' : Int)), (4, .int .u64 (p.2 : Int)), (19, .slice sa (b.length - at') sc), (20, .int .i64 ((b.length - at' : Nat) : Int)), (21, .int .i64 (p.1 : Int))]) (fun _ => h) (fun p => p.1 ≤ b.length - at' ∧ p.2 = val (s.take p.1) ∧ p.1 ≤ 9 ∧ ∀ d ∈ s.take p.1, hi d) (fun p => b.length - at' - p.1) ?_ (0, 0) ⟨Nat.zero_le _, rfl, by decide, by simp⟩
  rintro ⟨i, acc⟩ ⟨ok, hacc', hi9, hhi⟩ ih
  simp only at ok hacc' hi9 hhi
  have hacc : val (s.take i) = acc := hacc'.symm
  clear hacc'
  (refine goM ?_)
  by_cases hlt : i < b.length - at'
  · refine ow_cmp (hv := lss_t (by simp only; omega)) ?_
    (refine goM ?_)
    obtain ⟨xb, xo, x, xcs, rfl, _, hcap, hxi, _, rfl, hrd⟩ := (hsub (by omega)).at hlt
    have g := read_load hrd (k := 0) (by decide)
    have hlen : (s.take i).length = i := by rw [List.length_take]; omega
    have h128 : 128 ^ i = 2 ^ (7 * i) := by rw [Nat.pow_mul]
    have hacc2 : acc < 2 ^ (7 * i) := by
      have := val_lt (s.take i)
      rw [hlen, hacc, h128] at this; exact this
    have hx256 := x.toNat_lt
    refine ow_index hlt hcap ?_
    (refine goM ?_)
    refine ow_load (v := .int .u8 (x.toNat : Int)) g ?_
    (refine goM ?_)
    by_cases h9 : i = 9
    · refine ow_cmp (hv := eql_t (by simp only; omega)) ?_
      (refine goM ?_)
      by_cases hx1 : 1 < x.toNat
      · refine ow_cmp (hv := gtr_t (by omega)) ?_
        have hno : ∀ n, n < 2 ^ 64 → ∀ rest, b.drop at' ≠ form n ++ rest := fun n hn rest => by
          rw [← hs, split_at hxi]
          exact no_great hhi (by omega) hx1 n hn rest
        (refine goM ?_)
        exact end_res (Nat.le_refl _) rfl ⟨rfl, .inr ⟨3, rfl, by decide, hno⟩⟩
      · refine ow_cmp (hv := gtr_f (by omega)) ?_
        (refine goM ?_)
        refine ow_cmp (hv := gtr_t (by simp only; omega)) ?_
        (refine goM ?_)
        by_cases hx0 : x.toNat = 0
        · refine ow_cmp (hv := eql_t (by omega)) ?_
          have hno : ∀ n, n < 2 ^ 64 → ∀ rest, b.drop at' ≠ form n ++ rest := fun n hn rest => by
            rw [← hs, split_at hxi]
            exact no_nought hhi (by intro e; rw [e] at hlen; simp at hlen; omega) hx0 n rest
          (refine goM ?_)
          exact end_res (Nat.le_refl _) rfl ⟨rfl, .inr ⟨3, rfl, by decide, hno⟩⟩
        · refine ow_cmp (hv := eql_f (by omega)) ?_
          have h0 : s.take i ≠ [] → x.toNat ≠ 0 := fun _ => hx0
          have hsmall : x.toNat < 128 → acc + x.toNat * 2 ^ (7 * i) < 2 ^ 64 := fun _ => by
            have : x.toNat = 1 := by omega
            rw [this, h9]; rw [h9] at hacc2; omega
          have hmore : i = 9 → x.toNat < 128 := fun _ => by omega
          (refine goM ?_)
          by_cases hx8 : x.toNat < 128
          · refine ow_cmp (hv := lss_t (by omega)) ?_
            (refine goM ?_)
            refine ow_int (v := .int .i64 ((7 * i : Nat) : Int)) (hv := by simp only [intOp]; rw [IntWalk.i64_in _ (by omega)]; simp) ?_
            have hlt := hsmall hx8
            refine ow_bin (v := .int .u64 ((x.toNat * 2 ^ (7 * i) : Nat) : Int)) rfl rfl (shl_u64 (by omega) (by omega) (by omega)) rfl rfl ?_
            refine ow_int (hv := or_shl hacc2 (hsmall hx8)) ?_
            (refine goM ?_)
            refine ow_int (v := .int .i64 ((at' + i : Nat) : Int)) (hv := by simp only [intOp]; rw [IntWalk.i64_in _ (by omega)]; simp) ?_
            refine ow_int (v := .int .i64 ((at' + i + 1 : Nat) : Int)) (hv := by simp only [intOp]; rw [IntWalk.i64_in _ (by omega)]; simp) ?_
            (refine goM ?_)
            refine end_res (Nat.le_refl _) rfl ⟨rfl, .inl ⟨_, _, rfl, hsmall hx8, by omega, by omega, ?_⟩⟩
            have hv : val (s.take i ++ [x]) = acc + x.toNat * 2 ^ (7 * i) := by
              rw [val_snoc, hacc, hlen, Nat.mod_eq_of_lt hx8, h128]
            rw [← hv, form_val _ _ hhi hx8 h0]
            have e3 : s.drop (i + 1) = b.drop (at' + i + 1) := by rw [hs, List.drop_drop]; congr 1
            rw [← e3, List.append_assoc, ← hs]
            exact split_at hxi
          · refine ow_cmp (hv := lss_f (by omega)) ?_
            (refine goM ?_)
            refine ow_int (hv := and_127 x.toNat_lt) ?_
            refine ow_conv ?_
            refine ow_move ?_
            refine ow_int (v := .int .i64 ((7 * i : Nat) : Int)) (hv := by simp only [intOp]; rw [IntWalk.i64_in _ (by omega)]; simp) ?_
            have hlt2 : acc + x.toNat % 128 * 2 ^ (7 * i) < 2 ^ (7 * (i + 1)) := by
              have e1 : 2 ^ (7 * (i + 1)) = 128 * 2 ^ (7 * i) := by rw [Nat.mul_succ, Nat.pow_add, Nat.mul_comm]
              rw [e1]
              have : x.toNat % 128 * 2 ^ (7 * i) ≤ 127 * 2 ^ (7 * i) := Nat.mul_le_mul_right _ (by omega)
              omega
            have hlt3 : 2 ^ (7 * (i + 1)) ≤ 2 ^ 63 := Nat.pow_le_pow_right (by decide) (by omega)
            refine ow_bin (v := .int .u64 ((x.toNat % 128 * 2 ^ (7 * i) : Nat) : Int)) rfl rfl (shl_u64 (by omega) (by omega) (by omega)) rfl rfl ?_
            refine ow_int (hv := or_shl hacc2 (by omega)) ?_
            (refine goM ?_)
            refine ow_int (hv := add_one (by omega)) ?_
            (refine goM ?_)
            refine dn_loop ?_
            refine (ih (i + 1, acc + x.toNat % 128 * 2 ^ (7 * i)) ⟨by simp only; omega, ?_, by simp only; omega, ?_⟩ (by simp only; omega)).weak ⟨rfl, rfl, rfl, rfl, rfl, trivial⟩
            · simp only
              rw [take_hi hxi, val_snoc, hacc, hlen, h128]
            · intro d hd
              simp only [take_hi hxi, List.mem_append, List.mem_singleton] at hd
              rcases hd with hd | rfl
              · exact hhi d hd
              · exact Nat.le_of_not_lt hx8
    · refine ow_cmp (hv := eql_f (by simp only; omega)) ?_
      have hsmall : x.toNat < 128 → acc + x.toNat * 2 ^ (7 * i) < 2 ^ 64 := fun hx => by
        have e1 : 2 ^ (7 * i) ≤ 2 ^ 56 := Nat.pow_le_pow_right (by decide) (by omega)
        have : x.toNat * 2 ^ (7 * i) ≤ 127 * 2 ^ 56 := Nat.mul_le_mul (by omega) e1
        omega
      (refine goM ?_)
      by_cases hi0 : 0 < i
      · refine ow_cmp (hv := gtr_t (by simp only; omega)) ?_
        (refine goM ?_)
        by_cases hx0 : x.toNat = 0
        · refine ow_cmp (hv := eql_t (by omega)) ?_
          have hno : ∀ n, n < 2 ^ 64 → ∀ rest, b.drop at' ≠ form n ++ rest := fun n hn rest => by
            rw [← hs, split_at hxi]
            exact no_nought hhi (by intro e; rw [e] at hlen; simp at hlen; omega) hx0 n rest
          (refine goM ?_)
          exact end_res (Nat.le_refl _) rfl ⟨rfl, .inr ⟨3, rfl, by decide, hno⟩⟩
        · refine ow_cmp (hv := eql_f (by omega)) ?_
          have h0 : s.take i ≠ [] → x.toNat ≠ 0 := fun _ => hx0
          (refine goM ?_)
          by_cases hx8 : x.toNat < 128
          · refine ow_cmp (hv := lss_t (by omega)) ?_
            (refine goM ?_)
            refine ow_int (v := .int .i64 ((7 * i : Nat) : Int)) (hv := by simp only [intOp]; rw [IntWalk.i64_in _ (by omega)]; simp) ?_
            have hlt := hsmall hx8
            refine ow_bin (v := .int .u64 ((x.toNat * 2 ^ (7 * i) : Nat) : Int)) rfl rfl (shl_u64 (by omega) (by omega) (by omega)) rfl rfl ?_
            refine ow_int (hv := or_shl hacc2 (hsmall hx8)) ?_
            (refine goM ?_)
            refine ow_int (v := .int .i64 ((at' + i : Nat) : Int)) (hv := by simp only [intOp]; rw [IntWalk.i64_in _ (by omega)]; simp) ?_
            refine ow_int (v := .int .i64 ((at' + i + 1 : Nat) : Int)) (hv := by simp only [intOp]; rw [IntWalk.i64_in _ (by omega)]; simp) ?_
            (refine goM ?_)
            refine end_res (Nat.le_refl _) rfl ⟨rfl, .inl ⟨_, _, rfl, hsmall hx8, by omega, by omega, ?_⟩⟩
            have hv : val (s.take i ++ [x]) = acc + x.toNat * 2 ^ (7 * i) := by
              rw [val_snoc, hacc, hlen, Nat.mod_eq_of_lt hx8, h128]
            rw [← hv, form_val _ _ hhi hx8 h0]
            have e3 : s.drop (i + 1) = b.drop (at' + i + 1) := by rw [hs, List.drop_drop]; congr 1
            rw [← e3, List.append_assoc, ← hs]
            exact split_at hxi
          · refine ow_cmp (hv := lss_f (by omega)) ?_
            (refine goM ?_)
            refine ow_int (hv := and_127 x.toNat_lt) ?_
            refine ow_conv ?_
            refine ow_move ?_
            refine ow_int (v := .int .i64 ((7 * i : Nat) : Int)) (hv := by simp only [intOp]; rw [IntWalk.i64_in _ (by omega)]; simp) ?_
            have hlt2 : acc + x.toNat % 128 * 2 ^ (7 * i) < 2 ^ (7 * (i + 1)) := by
              have e1 : 2 ^ (7 * (i + 1)) = 128 * 2 ^ (7 * i) := by rw [Nat.mul_succ, Nat.pow_add, Nat.mul_comm]
              rw [e1]
              have : x.toNat % 128 * 2 ^ (7 * i) ≤ 127 * 2 ^ (7 * i) := Nat.mul_le_mul_right _ (by omega)
              omega
            have hlt3 : 2 ^ (7 * (i + 1)) ≤ 2 ^ 63 := Nat.pow_le_pow_right (by decide) (by omega)
            refine ow_bin (v := .int .u64 ((x.toNat % 128 * 2 ^ (7 * i) : Nat) : Int)) rfl rfl (shl_u64 (by omega) (by omega) (by omega)) rfl rfl ?_
            refine ow_int (hv := or_shl hacc2 (by omega)) ?_
            (refine goM ?_)
            refine ow_int (hv := add_one (by omega)) ?_
            (refine goM ?_)
            refine dn_loop ?_
            refine (ih (i + 1, acc + x.toNat % 128 * 2 ^ (7 * i)) ⟨by simp only; omega, ?_, by simp only; omega, ?_⟩ (by simp only; omega)).weak ⟨rfl, rfl, rfl, rfl, rfl, trivial⟩
            · simp only
              rw [take_hi hxi, val_snoc, hacc, hlen, h128]
            · intro d hd
              simp only [take_hi hxi, List.mem_append, List.mem_singleton] at hd
              rcases hd with hd | rfl
              · exact hhi d hd
              · exact Nat.le_of_not_lt hx8
      · refine ow_cmp (hv := gtr_f (by simp only; omega)) ?_
        have h0 : s.take i ≠ [] → x.toNat ≠ 0 := fun q => absurd (by rw [show i = 0 by omega]; rfl) q
        (refine goM ?_)
        by_cases hx8 : x.toNat < 128
        · refine ow_cmp (hv := lss_t (by omega)) ?_
          (refine goM ?_)
          refine ow_int (v := .int .i64 ((7 * i : Nat) : Int)) (hv := by simp only [intOp]; rw [IntWalk.i64_in _ (by omega)]; simp) ?_
          have hlt := hsmall hx8
          refine ow_bin (v := .int .u64 ((x.toNat * 2 ^ (7 * i) : Nat) : Int)) rfl rfl (shl_u64 (by omega) (by omega) (by omega)) rfl rfl ?_
          refine ow_int (hv := or_shl hacc2 (hsmall hx8)) ?_
          (refine goM ?_)
          refine ow_int (v := .int .i64 ((at' + i : Nat) : Int)) (hv := by simp only [intOp]; rw [IntWalk.i64_in _ (by omega)]; simp) ?_
          refine ow_int (v := .int .i64 ((at' + i + 1 : Nat) : Int)) (hv := by simp only [intOp]; rw [IntWalk.i64_in _ (by omega)]; simp) ?_
          (refine goM ?_)
          refine end_res (Nat.le_refl _) rfl ⟨rfl, .inl ⟨_, _, rfl, hsmall hx8, by omega, by omega, ?_⟩⟩
          have hv : val (s.take i ++ [x]) = acc + x.toNat * 2 ^ (7 * i) := by
            rw [val_snoc, hacc, hlen, Nat.mod_eq_of_lt hx8, h128]
          rw [← hv, form_val _ _ hhi hx8 h0]
          have e3 : s.drop (i + 1) = b.drop (at' + i + 1) := by rw [hs, List.drop_drop]; congr 1
          rw [← e3, List.append_assoc, ← hs]
          exact split_at hxi
        · refine ow_cmp (hv := lss_f (by omega)) ?_
          (refine goM ?_)
          refine ow_int (hv := and_127 x.toNat_lt) ?_
          refine ow_conv ?_
          refine ow_move ?_
          refine ow_int (v := .int .i64 ((7 * i : Nat) : Int)) (hv := by simp only [intOp]; rw [IntWalk.i64_in _ (by omega)]; simp) ?_
          have hlt2 : acc + x.toNat % 128 * 2 ^ (7 * i) < 2 ^ (7 * (i + 1)) := by
            have e1 : 2 ^ (7 * (i + 1)) = 128 * 2 ^ (7 * i) := by rw [Nat.mul_succ, Nat.pow_add, Nat.mul_comm]
            rw [e1]
            have : x.toNat % 128 * 2 ^ (7 * i) ≤ 127 * 2 ^ (7 * i) := Nat.mul_le_mul_right _ (by omega)
            omega
          have hlt3 : 2 ^ (7 * (i + 1)) ≤ 2 ^ 63 := Nat.pow_le_pow_right (by decide) (by omega)
          refine ow_bin (v := .int .u64 ((x.toNat % 128 * 2 ^ (7 * i) : Nat) : Int)) rfl rfl (shl_u64 (by omega) (by omega) (by omega)) rfl rfl ?_
          refine ow_int (hv := or_shl hacc2 (by omega)) ?_
          (refine goM ?_)
          refine ow_int (hv := add_one (by omega)) ?_
          (refine goM ?_)
          refine dn_loop ?_
          refine (ih (i + 1, acc + x.toNat % 128 * 2 ^ (7 * i)) ⟨by simp only; omega, ?_, by simp only; omega, ?_⟩ (by simp only; omega)).weak ⟨rfl, rfl, rfl, rfl, rfl, trivial⟩
          · simp only
            rw [take_hi hxi, val_snoc, hacc, hlen, h128]
          · intro d hd
            simp only [take_hi hxi, List.mem_append, List.mem_singleton] at hd
            rcases hd with hd | rfl
            · exact hhi d hd
            · exact Nat.le_of_not_lt hx8
  · refine ow_cmp (hv := lss_f (by simp only; omega)) ?_
    have hno : ∀ n, n < 2 ^ 64 → ∀ rest, b.drop at' ≠ form n ++ rest := fun n hn rest => by
      have : s.take i = s := List.take_of_length_le (by omega)
      rw [this] at hhi
      rw [← hs]
      exact no_end hhi n rest
    (refine goM ?_)
    exact end_res (Nat.le_refl _) rfl ⟨rfl, .inr ⟨3, rfl, by decide, hno⟩⟩
end Go.Proofs.YtmaccpaiaidgpaaGreatDoor

/- Reading: numbers, one after the other. -/
namespace Go.Proofs.YtmaccpaiaidgpaaGreatDoor
open Go Go.Mir
set_option maxRecDepth 10000

/-- The reader at a place of its bytes. -/
abbrev RdAt (R : Nat) (bv : Value) (i : Nat) (bad : Bool) : Asn := blk R (.cells [bv, .int .i64 (i : Int), .bool bad] 0)

section
variable {h0 h : H} {S : Nat → Prop} {R : Nat} {bv : Value} {b : List UInt8} {i : Nat} {bad : Bool} {As : List Asn}

theorem Bs.now (q : Bs h0 S bv b) (st : St h0 S h As) : Bs h S bv b := q.to fun a ha => ⟨ha, st.same a ha⟩


set_option maxHeartbeats 1000000 in
theorem upto_ev (hb : Bs h0 S bv b) (hi : i ≤ b.length) (st : St h0 S h (RdAt R bv i bad :: As)) (most : Nat) :
    Cal cxo 137 [.pointer (some ⟨R, 0, none⟩), .int .u64 (most : Int)] h (fun r h' => ∃ (x i' : Nat) (bad' : Bool), r = .int .u64 (x : Int) ∧ St h0 S h' (RdAt R bv i' bad' :: As) ∧ ROut (fun n => n ≤ most ∧ n < 2 ^ 64) form b i bad i' bad' x) := by
  have st0 := st
  have hb := Bs.now hb st0
  have st := st0.rebase
  refine cal_intro (C := cxo) rfl rfl rfl rfl ?_
  (refine goM ?_)
  refine st_load (i := 0) st ?_
  (refine goM ?_)
  refine st_load (i := 0) st ?_
  refine ow_call (uint_ev (Bs.now hb st) hi) ?_; rintro r _ ⟨rfl, hp⟩
  have hpl : plain bv = true := by obtain ⟨_, a, c, rfl, _⟩ := hb; rfl
  rcases hp with ⟨n, nx, rfl, hn, hlt, hnx, he⟩ | ⟨e, rfl, he, hno⟩
  · (refine goM ?_)
    refine ow_end ?_ ?_
    · exact reads_quiet ⟨rfl, rfl, rfl, rfl, hpl, trivial⟩
    (refine goM ?_)
    refine ow_cmp (hv := neq_f rfl) ?_
    (refine goM ?_)
    by_cases hm : n ≤ most
    · refine ow_cmp (hv := gtr_f (by omega)) ?_
      (refine goM ?_)
      refine st_store (i := 0) st ?_; intro h1 st
      (refine goM ?_)
      refine end_res st.nx rfl ⟨n, nx, bad, rfl, st0.over st, hnx, fun q => q, fun q => .inl ⟨q, ⟨hm, hn⟩, he⟩⟩
    · refine ow_cmp (hv := gtr_t (by omega)) ?_
      (refine goM ?_)
      refine st_store (i := 0) st ?_; intro h1 st
      (refine goM ?_)
      refine end_res st.nx rfl ⟨0, i, true, rfl, st0.over st, hi, fun _ => rfl, fun _ => .inr ⟨rfl, fun y hy rest q => ?_⟩⟩
      rw [he] at q
      exact hm ((form_pc _ _ _ _ trivial trivial q).1 ▸ hy.1)
  · (refine goM ?_)
    refine ow_end ?_ ?_
    · exact reads_quiet ⟨rfl, rfl, rfl, rfl, hpl, trivial⟩
    (refine goM ?_)
    refine ow_cmp (hv := neq_t he) ?_
    (refine goM ?_)
    refine st_store (i := 0) st ?_; intro h1 st
    (refine goM ?_)
    refine end_res st.nx rfl ⟨0, i, true, rfl, st0.over st, hi, fun _ => rfl, fun _ => .inr ⟨rfl, fun y hy rest => hno y hy.2 rest⟩⟩
end
end Go.Proofs.YtmaccpaiaidgpaaGreatDoor

/- Reading whole numbers, flags, runes. -/
namespace Go.Proofs.YtmaccpaiaidgpaaGreatDoor
open Go Go.Mir
set_option maxRecDepth 10000

theorem zag_ev {h : H} {n : Nat} (hn : n < 2 ^ 64) : Cal cxo 247 [.int .u64 (n : Int)] h (fun r h' => r = .int .i64 (zag n) ∧ h = h') := by
  refine cal_intro (C := cxo) rfl rfl rfl rfl ?_
  (refine goM ?_)
  refine ow_bin (v := .int .u64 ((n / 2 : Nat) : Int)) rfl rfl shr1_u64 rfl rfl ?_
  (refine goM ?_)
  refine ow_int (hv := and1_u64 hn) ?_
  (refine goM ?_)
  refine ow_neg ?_
  refine ow_int (hv := zag_xor hn) ?_
  (refine goM ?_)
  exact end_res (Nat.le_refl _) rfl ⟨rfl, rfl⟩

/-- wire.Int. -/
def IntPost (b : List UInt8) (at' : Nat) (r : Value) : Prop :=
  (∃ (n : Int) (nx : Nat), r = .tuple ⟨[.int .i64 n, .int .i64 (nx : Int), .int .i64 0]⟩ ∧ i64ok n ∧ at' < nx ∧ nx ≤ b.length ∧ b.drop at' = wI n ++ b.drop nx) ∨
  (∃ e : Int, r = .tuple ⟨[.int .i64 0, .int .i64 0, .int .i64 e]⟩ ∧ e ≠ 0 ∧ ∀ n, i64ok n → ∀ rest, b.drop at' ≠ wI n ++ rest)

set_option maxHeartbeats 1000000 in
theorem wint_ev {h : H} {S : Nat → Prop} {bv : Value} {b : List UInt8} (hb : Bs h S bv b) {at' : Nat} (hat : at' ≤ b.length) : Cal cxo 139 [bv, .int .i64 (at' : Int)] h (fun r h' => h = h' ∧ IntPost b at' r) := by
  refine cal_intro (C := cxo) rfl rfl rfl rfl ?_
  (refine goM ?_)
  refine ow_call (uint_ev hb hat) ?_; rintro r _ ⟨rfl, hp⟩
  rcases hp with ⟨n, nx, rfl, hn, hlt, hnx, he⟩ | ⟨e, rfl, he, hno⟩
  · (refine goM ?_)
    refine ow_call (zag_ev hn) ?_; rintro _ _ ⟨rfl, rfl⟩
    (refine goM ?_)
    refine end_res (Nat.le_refl _) rfl ⟨rfl, .inl ⟨zag n, nx, rfl, zag_ok hn, hlt, hnx, ?_⟩⟩
    unfold wI; rw [zig_zag]; exact he
  · (refine goM ?_)
    refine ow_call (zag_ev (n := 0) (by decide)) ?_; rintro _ _ ⟨rfl, rfl⟩
    (refine goM ?_)
    exact end_res (Nat.le_refl _) rfl ⟨rfl, .inr ⟨e, rfl, he, fun m hm rest => hno _ (zig_lt hm) rest⟩⟩

section
variable {h0 h : H} {S : Nat → Prop} {R : Nat} {bv : Value} {b : List UInt8} {i : Nat} {bad : Bool} {As : List Asn}


set_option maxHeartbeats 1000000 in
theorem int_ev (hb : Bs h0 S bv b) (hi : i ≤ b.length) (st : St h0 S h (RdAt R bv i bad :: As)) :
    Cal cxo 66 [.pointer (some ⟨R, 0, none⟩)] h (fun r h' => ∃ (x : Int) (i' : Nat) (bad' : Bool), r = .int .i64 x ∧ St h0 S h' (RdAt R bv i' bad' :: As) ∧ ROut i64ok wI b i bad i' bad' x) := by
  have st0 := st
  have hb := Bs.now hb st0
  have st := st0.rebase
  refine cal_intro (C := cxo) rfl rfl rfl rfl ?_
  (refine goM ?_)
  refine st_load (i := 0) st ?_
  (refine goM ?_)
  refine st_load (i := 0) st ?_
  refine ow_call (wint_ev hb hi) ?_; rintro r _ ⟨rfl, hp⟩
  have hpl : plain bv = true := by obtain ⟨_, a, c, rfl, _⟩ := hb; rfl
  rcases hp with ⟨n, nx, rfl, hn, hlt, hnx, he⟩ | ⟨e, rfl, he, hno⟩
  · (refine goM ?_)
    refine ow_end ?_ ?_
    · exact reads_quiet ⟨rfl, rfl, rfl, rfl, hpl, trivial⟩
    (refine goM ?_)
    refine ow_cmp (hv := neq_f rfl) ?_
    (refine goM ?_)
    refine st_store (i := 0) st ?_; intro h1 st
    (refine goM ?_)
    refine end_res st.nx rfl ⟨n, nx, bad, rfl, st0.over st, hnx, fun q => q, fun q => .inl ⟨q, hn, he⟩⟩
  · (refine goM ?_)
    refine ow_end ?_ ?_
    · exact reads_quiet ⟨rfl, rfl, rfl, rfl, hpl, trivial⟩
    (refine goM ?_)
    refine ow_cmp (hv := neq_t he) ?_
    (refine goM ?_)
    refine st_store (i := 0) st ?_; intro h1 st
    (refine goM ?_)
    refine end_res st.nx rfl ⟨0, i, true, rfl, st0.over st, hi, fun _ => rfl, fun _ => .inr ⟨rfl, fun y hy rest => hno y hy rest⟩⟩

set_option maxHeartbeats 1000000 in
theorem flag_ev (hb : Bs h0 S bv b) (hi : i ≤ b.length) (st : St h0 S h (RdAt R bv i bad :: As)) :
    Cal cxo 138 [.pointer (some ⟨R, 0, none⟩)] h (fun r h' => ∃ (x : Bool) (i' : Nat) (bad' : Bool), r = .bool x ∧ St h0 S h' (RdAt R bv i' bad' :: As) ∧ ROut (fun _ => True) wF b i bad i' bad' x) := by
  have st0 := st
  have hb := Bs.now hb st0
  have st := st0.rebase
  refine cal_intro (C := cxo) rfl rfl rfl rfl ?_
  (refine goM ?_)
  refine ow_call (upto_ev hb hi st 1) ?_; rintro _ h1 ⟨x, i', bad', rfl, st, h2, h3, h4⟩
  have key : ∀ z : Bool, (x ≤ 1 → x = if z then 1 else 0) → ROut (fun _ => True) wF b i bad i' bad' z := fun z hz => ⟨h2, h3, fun q => by
    rcases h4 q with ⟨a1, a2, a3⟩ | ⟨a1, a2⟩
    · refine .inl ⟨a1, trivial, ?_⟩
      unfold wF; rw [← hz a2.1]; exact a3
    · exact .inr ⟨a1, fun y _ rest => a2 _ ⟨by cases y <;> simp, by cases y <;> simp⟩ rest⟩⟩
  by_cases h1 : x = 1
  · refine ow_cmp (hv := eql_t (by omega)) ?_
    (refine goM ?_)
    exact end_res st.nx rfl ⟨true, i', bad', rfl, st0.over st, key true (fun _ => by simp [h1])⟩
  · refine ow_cmp (hv := eql_f (by omega)) ?_
    (refine goM ?_)
    exact end_res st.nx rfl ⟨false, i', bad', rfl, st0.over st, key false (fun _ => by simp; omega)⟩

theorem wrap_i32 (n : Int) : i32ok (IntKind.i32.wrap n) ∧ (i32ok n → IntKind.i32.wrap n = n) := by
  rw [IntKind.wrap_i32]; unfold i32ok
  constructor
  · omega
  · intro _; omega

set_option maxHeartbeats 1000000 in
theorem rune_ev (hb : Bs h0 S bv b) (hi : i ≤ b.length) (st : St h0 S h (RdAt R bv i bad :: As)) :
    Cal cxo 249 [.pointer (some ⟨R, 0, none⟩)] h (fun r h' => ∃ (x : Int) (i' : Nat) (bad' : Bool), r = .int .i32 x ∧ St h0 S h' (RdAt R bv i' bad' :: As) ∧ ROut i32ok wI b i bad i' bad' x) := by
  have st0 := st
  have hb := Bs.now hb st0
  have st := st0.rebase
  refine cal_intro (C := cxo) rfl rfl rfl rfl ?_
  (refine goM ?_)
  refine ow_call (int_ev hb hi st) ?_; rintro _ h1 ⟨x, i', bad', rfl, st, h2, h3, h4⟩
  (refine goM ?_)
  have hw := wrap_i32 x
  have hw2 : IntKind.i64.wrap (IntKind.i32.wrap x) = IntKind.i32.wrap x := IntWalk.i64_in _ (by have := hw.1; unfold i32ok at this; omega)
  have toI : ∀ y, i32ok y → i64ok y := fun y hy => by unfold i32ok at hy; unfold i64ok; omega
  by_cases hx : IntKind.i32.wrap x = x
  · refine ow_cmp (hv := neq_f (by rw [hw2, hx])) ?_
    (refine goM ?_)
    refine end_res st.nx rfl ⟨_, i', bad', rfl, st0.over st, h2, h3, fun q => ?_⟩
    rw [hx]
    rcases h4 q with ⟨a1, a2, a3⟩ | ⟨a1, a2⟩
    · exact .inl ⟨a1, hx ▸ hw.1, a3⟩
    · exact .inr ⟨a1, fun y hy rest => a2 y (toI y hy) rest⟩
  · refine ow_cmp (hv := neq_t (by rw [hw2]; exact fun q => hx q.symm)) ?_
    (refine goM ?_)
    refine st_store (i := 0) st ?_; intro h1 st
    (refine goM ?_)
    refine end_res st.nx rfl ⟨_, i', true, rfl, st0.over st, h2, fun _ => rfl, fun q => .inr ⟨rfl, fun y hy rest q2 => ?_⟩⟩
    rcases h4 q with ⟨a1, a2, a3⟩ | ⟨a1, a2⟩
    · rw [a3] at q2
      have := (wI_pc _ _ _ _ trivial trivial q2).1
      exact hx (hw.2 (this ▸ hy))
    · exact a2 y (toI y hy) rest q2
end
end Go.Proofs.YtmaccpaiaidgpaaGreatDoor

/- Reading bytes. -/
namespace Go.Proofs.YtmaccpaiaidgpaaGreatDoor
open Go Go.Mir
set_option maxRecDepth 10000

/-- A slice that lies in none of these blocks. -/
def FrB (E : Nat → Prop) (v : Value) : Prop := ∀ b o n c, v = .slice (some ⟨b, o, none⟩) n c → 0 < n → ¬ E b
def SlB (E : Nat → Prop) (h : H) (S : Nat → Prop) (v : Value) (xs : List UInt8) : Prop := Sl h S 1 RByte v xs ∧ FrB E v
theorem SlB.gr {E S S' : Nat → Prop} {h h' : H} {v : Value} {xs : List UInt8} (q : SlB E h S v xs) (g : Gr S h S' h') : SlB E h' S' v xs := ⟨q.1.gr g, q.2⟩
theorem SlB.mono {E E' S : Nat → Prop} {h : H} {v : Value} {xs : List UInt8} (q : SlB E h S v xs) (g : ∀ a, E' a → E a) : SlB E' h S v xs := ⟨q.1, fun b o n c e h0 he => q.2 b o n c e h0 (g b he)⟩
theorem SlB.nil {E S : Nat → Prop} {h : H} : SlB E h S (.slice none 0 0) [] := ⟨⟨none, 0, 0, rfl, rfl, Nat.zero_le _, by decide, rfl, rfl⟩, fun _ _ _ _ e => nomatch e⟩
theorem buf_freezeB {h0 h : H} {S : Nat → Prop} {As : List Asn} {n i : Nat} {v : Value} {cs : List Value} {xs : List UInt8} (s : St h0 S h As) (hi : nth As i = some (Buf 1 n v cs)) (r : Go.Mir.Rows 1 RByte cs xs) (hn : n = xs.length) (h62 : n < 2 ^ 62) :
    ∃ S', Gr S h S' h ∧ SlB S h S' v xs ∧ St h S' h (eraseAt As i) := by
  obtain ⟨S', g, q, st⟩ := buf_freeze s hi r hn h62
  refine ⟨S', g, ⟨q, ?_⟩, st⟩
  obtain ⟨K, hf, _, hm⟩ := s.mine
  obtain ⟨K1, K2, K3, e, ha, _, _⟩ := hf.at hi
  subst e
  rintro b o m c rfl hpos
  rcases ha.2 with ⟨_, _, _, _, e⟩ | ⟨b', e, rfl⟩
  · simp only [Value.slice.injEq] at e; omega
  · simp only [Value.slice.injEq, Option.some.injEq, Addr.mk.injEq] at e
    rw [e.1.1]
    exact (hm (b', Blk.cells cs 1) (by simp)).2.2

theorem cut_cells {h : H} {S : Nat → Prop} {a : Option Addr} {bs : List UInt8} {c : Nat} (q : 0 < bs.length → Sl h S 1 RByte (.slice a bs.length c) bs) : firstCells h 1 bs.length (.slice a bs.length c) = some (bytesV bs) ∧ Go.Mir.lenOf (.slice a bs.length c) = some bs.length := by
  by_cases h0 : 0 < bs.length
  · exact sl_cells (q h0)
  · have : bs = [] := List.eq_nil_of_length_eq_zero (by omega)
    subst this
    exact ⟨by cases a <;> rfl, rfl⟩

theorem clone_ev {h : H} {S : Nat → Prop} {As : List Asn} {a : Option Addr} {bs : List UInt8} {c : Nat} (q : 0 < bs.length → Sl h S 1 RByte (.slice a bs.length c) bs) (hl : bs.length ≤ 2 ^ 39) (st : St h S h As) :
    Cal cxo 360 [.slice a bs.length c] h (fun r h' => ∃ S', Gr S h S' h' ∧ SlB S h' S' r bs ∧ St h' S' h' As) := by
  have st0 := st
  refine cal_intro (C := cxo) rfl rfl rfl rfl ?_
  cases a with
  | none =>
    have : bs = [] := by
      by_cases h0 : 0 < bs.length
      · obtain ⟨_, _, _, e, _, _, _, h4⟩ := q h0
        simp only [Value.slice.injEq] at e
        obtain ⟨rfl, rfl, rfl⟩ := e
        exact List.eq_nil_of_length_eq_zero h4.1
      · exact List.eq_nil_of_length_eq_zero (by omega)
    subst this
    (refine goM ?_)
    refine ow_eq (v := .bool true) ?_
    (refine goM ?_)
    exact end_res (Nat.le_refl _) rfl ⟨S, Gr.refl, SlB.nil, st⟩
  | some a =>
    (refine goM ?_)
    refine ow_eq (v := .bool false) ?_
    (refine goM ?_)
    refine st_buildS st ?_; intro b h1 st
    have st := (st.drop 0 rfl).nilBuf (w := 1) (a := some ⟨b, 0, none⟩)
    have q1 : 0 < bs.length → Sl h1 S 1 RByte (.slice (some a) bs.length c) bs := fun h0 => (q h0).to (fun x hx => ⟨hx, st.same x hx⟩) fun _ _ q => q
    (refine goM ?_)
    refine st_append (w := 1) (y := 1) (n := 0) 0 (cut_cells q1) (bytesV_one bs) (bytesV_len bs) (by omega) st ?_; intro v' h2 st
    (refine goM ?_)
    obtain ⟨S', g1, g2, g3⟩ := buf_freezeB st.rebase (i := 0) rfl (rows_bytes bs) (by omega) (by omega)
    exact end_res st.nx rfl ⟨S', st.gr.trans g1, g2, g3⟩

/-- wire.Bytes. -/
def BytesPost (S : Nat → Prop) (h : H) (As : List Asn) (b : List UInt8) (at' : Nat) (r : Value) (h' : H) : Prop :=
  (∃ (v : Value) (S' : Nat → Prop) (x : List UInt8) (nx : Nat), r = .tuple ⟨[v, .int .i64 (nx : Int), .int .i64 0]⟩ ∧ plain v = true ∧ Gr S h S' h' ∧ SlB S h' S' v x ∧ St h' S' h' As ∧ nx ≤ b.length ∧ b.drop at' = wB x ++ b.drop nx) ∨
  (∃ e : Int, r = .tuple ⟨[.slice none 0 0, .int .i64 0, .int .i64 e]⟩ ∧ e ≠ 0 ∧ h = h' ∧ ∀ x rest, b.drop at' ≠ wB x ++ rest)

set_option maxHeartbeats 1000000 in
theorem wbytes_ev {h : H} {S : Nat → Prop} {As : List Asn} {bv : Value} {b : List UInt8} (hb : Bs h S bv b) {at' : Nat} (hat : at' ≤ b.length) (hl : b.length ≤ 2 ^ 39) (st : St h S h As) :
    Cal cxo 252 [bv, .int .i64 (at' : Int), .int .i64 (b.length : Int)] h (BytesPost S h As b at') := by
  have hb0 := hb
  have hlB : ∀ (x rest : List UInt8), b.drop at' = wB x ++ rest → x.length ≤ b.length := fun x rest e => by
    have := congrArg List.length e
    unfold wB at this
    simp only [List.length_drop, List.length_append] at this
    omega
  refine cal_intro (C := cxo) rfl rfl rfl rfl ?_
  (refine goM ?_)
  refine ow_call (uint_ev hb hat) ?_; rintro r _ ⟨rfl, hp⟩
  rcases hp with ⟨n, nx, rfl, hn, hlt, hnx, he⟩ | ⟨e, rfl, he, hno⟩
  · (refine goM ?_)
    refine ow_cmp (hv := neq_f rfl) ?_
    (refine goM ?_)
    refine ow_cmp (hv := lss_f (by omega)) ?_
    (refine goM ?_)
    have hnB : (h2 : ¬ n + nx ≤ b.length) → ∀ x rest, b.drop at' ≠ wB x ++ rest := fun h2 x rest e => by
      have hx := hlB x rest e
      unfold wB at e
      rw [he, List.append_assoc] at e
      obtain ⟨e1, e2⟩ := form_pc _ _ _ _ trivial trivial e
      have := congrArg List.length e2
      simp only [List.length_drop, List.length_append] at this
      omega
    by_cases h1 : n ≤ b.length
    · refine ow_cmp (hv := gtr_f (by rw [wrap_u64 (by omega)]; omega)) ?_
      (refine goM ?_)
      obtain ⟨q1, a, c, rfl, q2, q3⟩ := hb0
      (refine goM ?_)
      refine ow_int (v := .int .i64 ((b.length - nx : Nat) : Int)) (hv := by simp only [intOp]; rw [IntWalk.i64_in _ (by omega)]; congr 2; omega) ?_
      (refine goM ?_)
      by_cases h2 : n + nx ≤ b.length
      · refine ow_cmp (hv := gtr_f (by rw [wrap_u64 (by omega)]; omega)) ?_
        (refine goM ?_)
        refine ow_int (v := .int .i64 ((nx + n : Nat) : Int)) (hv := by simp only [intOp]; rw [IntWalk.i64_in (n : Int) (by omega), IntWalk.i64_in _ (by omega)]; simp) ?_
        (refine goM ?_)
        refine ow_sliceB hb (l := nx) (m := nx + n) (by omega) (by omega) ?_; intro a' c' hs
        have hlen : ((b.drop nx).take (nx + n - nx)).length = nx + n - nx := by rw [List.length_take, List.length_drop]; omega
        have hs2 := hs
        rw [← hlen] at hs
        refine ow_call (hlen ▸ clone_ev (fun h0 => by rw [hlen] at h0; exact hlen.symm ▸ hs2 h0) (by rw [hlen]; omega) st) ?_; rintro v h1 ⟨S', g1, g2, g3⟩
        have hplain : plain v = true := by obtain ⟨⟨_, _, _, rfl, _⟩, _⟩ := g2; rfl
        (refine goM ?_)
        refine end_res g1.1 rfl (.inl ⟨v, S', _, nx + n, rfl, hplain, g1, g2, g3, by omega, ?_⟩)
        unfold wB
        rw [hlen, show nx + n - nx = n by omega, he, List.append_assoc, ← List.drop_drop, List.take_append_drop]
      · refine ow_cmp (hv := gtr_t (by rw [wrap_u64 (by omega)]; omega)) ?_
        (refine goM ?_)
        exact end_res (Nat.le_refl _) rfl (.inr ⟨3, rfl, by decide, rfl, hnB (by omega)⟩)
    · refine ow_cmp (hv := gtr_t (by rw [wrap_u64 (by omega)]; omega)) ?_
      (refine goM ?_)
      exact end_res (Nat.le_refl _) rfl (.inr ⟨3, rfl, by decide, rfl, hnB (by omega)⟩)
  · (refine goM ?_)
    refine ow_cmp (hv := neq_t he) ?_
    (refine goM ?_)
    exact end_res (Nat.le_refl _) rfl (.inr ⟨e, rfl, he, rfl, fun x rest q => hno x.length (by have := hlB x rest q; omega) _ (by rw [q]; unfold wB; rw [List.append_assoc])⟩)

section
variable {h : H} {S : Nat → Prop} {R : Nat} {bv : Value} {b : List UInt8} {i : Nat} {bad : Bool} {As : List Asn}

/-- What a reader of things comes to. -/
def RdPost {α : Type} (V : H → (Nat → Prop) → Value → α → Prop) (ok : α → Prop) (w : α → List UInt8) (S : Nat → Prop) (h : H) (R : Nat) (bv : Value) (b : List UInt8) (i : Nat) (bad : Bool) (As : List Asn) (r : Value) (h' : H) : Prop :=
  ∃ (S' : Nat → Prop) (x : α) (i' : Nat) (bad' : Bool), Gr S h S' h' ∧ V h' S' r x ∧ St h' S' h' (RdAt R bv i' bad' :: As) ∧ ROut ok w b i bad i' bad' x


set_option maxHeartbeats 1000000 in
theorem bytes_ev (hb : Bs h S bv b) (hl : b.length ≤ 2 ^ 39) (hi : i ≤ b.length) (st : St h S h (RdAt R bv i bad :: As)) :
    Cal cxo 143 [.pointer (some ⟨R, 0, none⟩)] h (RdPost (fun h' S' r x => SlB S h' S' r x) (fun _ => True) wB S h R bv b i bad As) := by
  have hb0 := hb
  have hpl : plain bv = true := by obtain ⟨_, a, c, rfl, _⟩ := hb; rfl
  refine cal_intro (C := cxo) rfl rfl rfl rfl ?_
  (refine goM ?_)
  refine st_load (i := 0) st ?_
  (refine goM ?_)
  refine st_load (i := 0) st ?_
  (refine goM ?_)
  refine st_load (i := 0) st ?_
  obtain ⟨q1, a, c, rfl, q2, q3⟩ := hb0
  (refine goM ?_)
  refine ow_call (wbytes_ev hb hi hl st) ?_; rintro r h1 hp
  rcases hp with ⟨v, S', x, nx, rfl, hv, g1, g2, st1, hnx, he⟩ | ⟨e, rfl, he, rfl, hno⟩
  · (refine goM ?_)
    refine ow_end ?_ ?_
    · exact reads_bound rfl ⟨rfl, rfl, rfl, rfl, rfl, rfl, rfl, rfl, rfl, rfl, rfl, rfl, trivial⟩
    (refine goM ?_)
    refine ow_cmp (hv := neq_f rfl) ?_
    (refine goM ?_)
    refine st_store (i := 0) st1 ?_; intro h2 st2
    (refine goM ?_)
    exact end_res (Nat.le_trans g1.1 st2.nx) rfl ⟨S', x, nx, bad, g1.trans st2.gr, g2.gr st2.gr, st2.rebase, hnx, fun q => q, fun q => .inl ⟨q, trivial, he⟩⟩
  · (refine goM ?_)
    refine ow_end ?_ ?_
    · exact reads_bound rfl ⟨rfl, rfl, rfl, rfl, rfl, rfl, rfl, rfl, rfl, rfl, rfl, rfl, trivial⟩
    (refine goM ?_)
    refine ow_cmp (hv := neq_t he) ?_
    (refine goM ?_)
    refine st_store (i := 0) st ?_; intro h2 st2
    (refine goM ?_)
    exact end_res st2.nx rfl ⟨S, [], i, true, st2.gr, SlB.nil, st2.rebase, hi, fun _ => rfl, fun _ => .inr ⟨rfl, fun y _ rest => hno y rest⟩⟩
end
end Go.Proofs.YtmaccpaiaidgpaaGreatDoor

/- Reading values, attributes, changes, keys. -/
namespace Go.Proofs.YtmaccpaiaidgpaaGreatDoor
open Go Go.Mir
set_option maxRecDepth 10000

/-- An object of cells. -/
def VAgg {α : Type} (f : α → List Value) : H → (Nat → Prop) → Value → α → Prop := fun _ _ r x => r = .agg ⟨f x⟩

section
variable {h : H} {S : Nat → Prop} {R : Nat} {bv : Value} {b : List UInt8} {i : Nat} {bad : Bool} {As : List Asn}

theorem form_le_ne {n : Nat} {r : List UInt8} : form n ++ r ≠ [] := by
  intro h
  exact form_ne n (List.append_eq_nil_iff.1 h).1

set_option maxHeartbeats 2000000 in
theorem value_ev (hb : Bs h S bv b) (hl : b.length ≤ 2 ^ 39) (hi : i ≤ b.length) (st : St h S h (RdAt R bv i bad :: As)) :
    Cal cxo 253 [.pointer (some ⟨R, 0, none⟩)] h (RdPost (VAgg PVal.cells) PVal.okR wVal S h R bv b i bad As) := by
  refine cal_intro (C := cxo) rfl rfl rfl rfl ?_
  (refine goM ?_)
  refine st_alloc st ?_; intro b0 h1 st
  (refine goM ?_)
  have st := st.pull 1 rfl
  refine ow_call (upto_ev hb hi st 255) ?_; rintro _ h2 ⟨x1, i1, bad1, rfl, st, o1⟩
  (refine goM ?_)
  refine ow_call (int_ev hb o1.1 st) ?_; rintro _ h3 ⟨x2, i2, bad2, rfl, st, o2⟩
  (refine goM ?_)
  refine ow_call (upto_ev hb o2.1 st 18446744073709551615) ?_; rintro _ h4 ⟨x3, i3, bad3, rfl, st, o3⟩
  (refine goM ?_)
  refine ow_call (bytes_ev (Bs.now hb st) hl o3.1 st.rebase) ?_; rintro r h5 ⟨S', x4, i4, bad4, g, q4, st5, o4⟩
  refine ow_strB (Byt.sl q4.1) ?_
  refine ow_build ?_
  have st6 := st5.pull 1 rfl
  refine st_store (i := 0) st6 ?_; intro h6 st7
  (refine goM ?_)
  refine end_cellA rfl (Nat.le_trans (Nat.le_trans st.nx g.1) st7.nx) (readOf (st7.get 0 rfl) rfl) ⟨S', ⟨IntKind.u8.wrap x1, x2, x3, ⟨⟨x4⟩⟩⟩, i4, bad4, (st.gr.trans g).trans st7.gr, rfl, (st7.drop 0 rfl).rebase, ?_⟩
  have o := o1.seq (o2.seq (o3.seq o4 (fun x y r s _ _ => form_pc x y r s trivial trivial)) (fun x y r s _ _ => wI_pc x y r s trivial trivial)) (fun x y r s _ _ => form_pc x y r s trivial trivial)
  refine o.map (β := PVal) (ok2 := PVal.okR) (w2 := wVal) (fun z => ⟨IntKind.u8.wrap z.1, z.2.1, z.2.2.1, ⟨⟨z.2.2.2⟩⟩⟩) (fun v => (v.kind.toNat, v.n, v.f.toNat, v.s.data.toList)) ?_ ?_
  · rintro ⟨a, b, c, d⟩ ⟨h1, h2, h3, _⟩
    simp only at h1 h2 h3 ⊢
    have e : IntKind.u8.wrap (a : Int) = a := wrap_u8 (by omega)
    refine ⟨⟨by rw [e]; unfold u8ok; simp only; omega, h2, by unfold u64ok; simp only; omega⟩, ?_⟩
    unfold wVal wU
    simp only [e]
    rfl
  · rintro ⟨k, n, f, s⟩ ⟨h1, h2, h3⟩
    unfold u8ok at h1; unfold u64ok at h3
    simp only at h1 h2 h3 ⊢
    refine ⟨⟨⟨by omega, by omega⟩, h2, ⟨by omega, by omega⟩, trivial⟩, ?_⟩
    rfl

theorem wI_pc' : PC i64ok wI := fun x y r s _ _ => wI_pc x y r s trivial trivial
theorem wF_pc' : PC (fun _ => True) wF := wF_pc
theorem form_pc' {ok : Nat → Prop} : PC ok form := fun x y r s _ _ => form_pc x y r s trivial trivial

set_option maxHeartbeats 2000000 in
theorem attr_ev (hb : Bs h S bv b) (hl : b.length ≤ 2 ^ 39) (hi : i ≤ b.length) (st : St h S h (RdAt R bv i bad :: As)) :
    Cal cxo 251 [.pointer (some ⟨R, 0, none⟩)] h (RdPost (VAgg PAttr.cells) PAttr.okR wAttr S h R bv b i bad As) := by
  refine cal_intro (C := cxo) rfl rfl rfl rfl ?_
  (refine goM ?_)
  refine st_alloc st ?_; intro b0 h1 st
  (refine goM ?_)
  have st := st.pull 1 rfl
  refine ow_call (int_ev hb hi st) ?_; rintro _ h2 ⟨x1, i1, bad1, rfl, st, o1⟩
  (refine goM ?_)
  refine ow_call (value_ev (Bs.now hb st) hl o1.1 st.rebase) ?_; rintro _ h5 ⟨S', x2, i2, bad2, g, rfl, st5, o2⟩
  refine ow_build ?_
  have st6 := st5.pull 1 rfl
  refine st_store (i := 0) st6 ?_; intro h6 st7
  (refine goM ?_)
  refine end_cellA rfl (Nat.le_trans (Nat.le_trans st.nx g.1) st7.nx) (readOf (st7.get 0 rfl) rfl) ⟨S', ⟨x1, x2⟩, i2, bad2, (st.gr.trans g).trans st7.gr, rfl, (st7.drop 0 rfl).rebase, ?_⟩
  exact (o1.seq o2 wI_pc').map (β := PAttr) (fun z => ⟨z.1, z.2⟩) (fun a => (a.key, a.v)) (fun _ h => ⟨h, rfl⟩) (fun _ h => ⟨h, rfl⟩)

set_option maxHeartbeats 2000000 in
theorem change_ev (hb : Bs h S bv b) (hl : b.length ≤ 2 ^ 39) (hi : i ≤ b.length) (st : St h S h (RdAt R bv i bad :: As)) :
    Cal cxo 145 [.pointer (some ⟨R, 0, none⟩)] h (RdPost (VAgg PChg.cells) PChg.okR wChg S h R bv b i bad As) := by
  refine cal_intro (C := cxo) rfl rfl rfl rfl ?_
  (refine goM ?_)
  refine st_alloc st ?_; intro b0 h1 st
  (refine goM ?_)
  have st := st.pull 1 rfl
  refine ow_call (int_ev hb hi st) ?_; rintro _ h2 ⟨x1, i1, bad1, rfl, st, o1⟩
  (refine goM ?_)
  refine ow_call (flag_ev hb o1.1 st) ?_; rintro _ h3 ⟨x2, i2, bad2, rfl, st, o2⟩
  (refine goM ?_)
  refine ow_call (value_ev (Bs.now hb st) hl o2.1 st.rebase) ?_; rintro _ h5 ⟨S', x3, i3, bad3, g, rfl, st5, o3⟩
  refine ow_build ?_
  have st6 := st5.pull 1 rfl
  refine st_store (i := 0) st6 ?_; intro h6 st7
  (refine goM ?_)
  refine end_cellA rfl (Nat.le_trans (Nat.le_trans st.nx g.1) st7.nx) (readOf (st7.get 0 rfl) rfl) ⟨S', ⟨x1, x2, x3⟩, i3, bad3, (st.gr.trans g).trans st7.gr, rfl, (st7.drop 0 rfl).rebase, ?_⟩
  exact (o1.seq (o2.seq o3 wF_pc') wI_pc').map (β := PChg) (fun z => ⟨z.1, z.2.1, z.2.2⟩) (fun a => (a.key, a.gone, a.v)) (fun _ h => ⟨⟨h.1, h.2.2⟩, rfl⟩) (fun _ h => ⟨⟨h.1, trivial, h.2⟩, rfl⟩)

def _root_.Go.Mir.PKey.cells (k : PKey) : List Value := [.int .i64 k.id, .bool k.block, .int .u8 k.kind, .bool k.aft, .bool k.bef, .int .i64 k.group]

set_option maxHeartbeats 2000000 in
theorem key_ev (hb : Bs h S bv b) (hi : i ≤ b.length) (st : St h S h (RdAt R bv i bad :: As)) :
    Cal cxo 65 [.pointer (some ⟨R, 0, none⟩)] h (RdPost (VAgg PKey.cells) PKey.okR wKey S h R bv b i bad As) := by
  refine cal_intro (C := cxo) rfl rfl rfl rfl ?_
  (refine goM ?_)
  refine st_alloc st ?_; intro b0 h1 st
  (refine goM ?_)
  have st := st.pull 1 rfl
  refine ow_call (int_ev hb hi st) ?_; rintro _ h2 ⟨x1, i1, bad1, rfl, st, o1⟩
  refine ow_build ?_
  refine st_alloc st ?_; intro b1 h3 st
  refine st_store (i := 0) st ?_; intro h4 st
  (refine goM ?_)
  have st := st.pull 1 rfl
  refine ow_call (flag_ev hb o1.1 st) ?_; rintro _ h5 ⟨x2, i2, bad2, rfl, st, o2⟩
  (refine goM ?_)
  refine st_store (i := 1) st ?_; intro h6 st
  (refine goM ?_)
  refine ow_call (upto_ev hb o2.1 st 255) ?_; rintro _ h7 ⟨x3, i3, bad3, rfl, st, o3⟩
  (refine goM ?_)
  refine st_store (i := 1) st ?_; intro h8 st
  (refine goM ?_)
  refine ow_call (flag_ev hb o3.1 st) ?_; rintro _ h9 ⟨x4, i4, bad4, rfl, st, o4⟩
  (refine goM ?_)
  refine st_store (i := 1) st ?_; intro h10 st
  (refine goM ?_)
  refine ow_call (flag_ev hb o4.1 st) ?_; rintro _ h11 ⟨x5, i5, bad5, rfl, st, o5⟩
  (refine goM ?_)
  refine st_store (i := 1) st ?_; intro h12 st
  (refine goM ?_)
  refine ow_call (int_ev hb o5.1 st) ?_; rintro _ h13 ⟨x6, i6, bad6, rfl, st, o6⟩
  (refine goM ?_)
  refine st_store (i := 1) st ?_; intro h14 st
  (refine goM ?_)
  refine st_loadA (i := 1) st ?_
  refine st_store (i := 2) st ?_; intro h15 st
  (refine goM ?_)
  refine end_cellA rfl st.nx (readOf (st.get 2 rfl) rfl) ⟨S, ⟨x1, x2, IntKind.u8.wrap x3, x4, x5, x6⟩, i6, bad6, st.gr, rfl, ((st.drop 1 rfl).drop 1 rfl).rebase, ?_⟩
  refine (o1.seq (o2.seq (o3.seq (o4.seq (o5.seq o6 wF_pc') wF_pc') form_pc') wF_pc') wI_pc').map (β := PKey) (fun z => ⟨z.1, z.2.1, IntKind.u8.wrap z.2.2.1, z.2.2.2.1, z.2.2.2.2.1, z.2.2.2.2.2⟩) (fun k => (k.id, k.block, k.kind.toNat, k.aft, k.bef, k.group)) ?_ ?_
  · rintro ⟨a, b, c, d, e, f⟩ ⟨h1, _, h3, _, _, h6⟩
    simp only at h1 h3 h6 ⊢
    have e : IntKind.u8.wrap (c : Int) = c := wrap_u8 (by omega)
    refine ⟨⟨h1, by rw [e]; unfold u8ok; simp only; omega, h6⟩, ?_⟩
    unfold wKey wU
    simp only [e]
    rfl
  · rintro ⟨a, b, c, d, e, f⟩ ⟨h1, h2, h3⟩
    unfold u8ok at h2
    simp only at h1 h2 h3 ⊢
    exact ⟨⟨h1, trivial, ⟨by omega, by omega⟩, trivial, trivial, h3⟩, rfl⟩
end
end Go.Proofs.YtmaccpaiaidgpaaGreatDoor

/- Reading several things. -/
namespace Go.Proofs.YtmaccpaiaidgpaaGreatDoor
open Go Go.Mir
set_option maxRecDepth 10000

structure SevSt (α : Type) where
  S : Nat → Prop
  h : H
  v : Value
  cs : List Value
  xs : List α
  i : Nat
  bad : Bool
  m : Nat

abbrev LRune : H → (Nat → Prop) → Int → List Value → Prop := fun _ _ x cs => RRune x cs
abbrev LAttr : H → (Nat → Prop) → PAttr → List Value → Prop := fun _ _ x cs => RAttr x cs
abbrev LChg : H → (Nat → Prop) → PChg → List Value → Prop := fun _ _ x cs => RChg x cs
abbrev LKey : H → (Nat → Prop) → PKey → List Value → Prop := fun _ _ x cs => cs = x.cells

theorem wI_ne (n : Int) (l : List UInt8) : wI n ++ l ≠ [] := fun h => form_ne _ (List.append_eq_nil_iff.1 h).1
theorem wU_ne (n : Int) (l : List UInt8) : wU n ++ l ≠ [] := fun h => form_ne _ (List.append_eq_nil_iff.1 h).1

section
variable {h : H} {S : Nat → Prop} {R : Nat} {bv : Value} {b : List UInt8} {i : Nat} {bad : Bool} {As : List Asn}

theorem rune_ev2 (hb : Bs h S bv b) (hi : i ≤ b.length) (st : St h S h (RdAt R bv i bad :: As)) :
    Cal cxo 249 [.pointer (some ⟨R, 0, none⟩)] h (RdPost (fun _ _ r x => r = .int .i32 x) i32ok wI S h R bv b i bad As) :=
  (rune_ev hb hi st).mono fun _ _ ⟨x, i', bad', e, s, o⟩ => ⟨S, x, i', bad', s.gr, e, s.rebase, o⟩

set_option maxHeartbeats 4000000 in
theorem sev_rune (hb : Bs h S bv b) (hl : b.length ≤ 2 ^ 20) (hi : i ≤ b.length) (st : St h S h (RdAt R bv i bad :: As)) :
    Cal cxo 248 [.pointer (some ⟨R, 0, none⟩), .func (.func 249) ⟨[.pointer (some ⟨R, 0, none⟩)]⟩ ⟨[]⟩] h (RdPost (fun h S r l => Sl h S 1 (LRune h S) r l) (fun l : List Int => ∀ x ∈ l, i32ok x) (wL wI) S h R bv b i bad As) := by
  have hb0 := hb
  have hpl : plain bv = true := by obtain ⟨_, a, c, rfl, _⟩ := hb; rfl
  refine cal_intro (C := cxo) rfl rfl rfl rfl ?_
  (refine goM ?_)
  refine st_load (i := 0) st ?_
  obtain ⟨q1, a, c, rfl, q2, q3⟩ := hb0
  (refine goM ?_)
  refine ow_call ((wrap_u64 (n := (b.length : Int)) (by omega)).symm ▸ upto_ev hb hi st b.length) ?_; rintro _ h1 ⟨n, i1, bad1, rfl, st, o1⟩
  (refine goM ?_)
  refine WK.weak (L' := [(0, .pointer (some ⟨R, 0, none⟩)), (1, .func (.func 249) ⟨[.pointer (some ⟨R, 0, none⟩)]⟩ ⟨[]⟩), (4, .slice none 0 0), (5, .int .u64 (n : Int))]) ?_ ⟨rfl, rfl, rfl, rfl, trivial⟩
  refine wk_inv (ι := SevSt Int) (fun s => [(0, .pointer (some ⟨R, 0, none⟩)), (1, .func (.func 249) ⟨[.pointer (some ⟨R, 0, none⟩)]⟩ ⟨[]⟩), (4, s.v), (5, .int .u64 (s.m : Int))]) (fun s => s.h)
    (fun s => Gr S h s.S s.h ∧ St s.h s.S s.h (Buf 1 s.xs.length s.v s.cs :: RdAt R (.slice a b.length c) s.i s.bad :: As) ∧ Go.Mir.Rows 1 (LRune s.h s.S) s.cs s.xs ∧ s.xs.length ≤ b.length ∧ RMany i32ok wI b n i1 bad1 s.i s.bad s.xs s.m) (fun s => s.m) ?_
    ⟨S, h1, .slice none 0 0, [], [], i1, bad1, n⟩ ⟨st.gr, st.rebase.nilBuf, Rows.nil, Nat.zero_le _, RMany.start o1.1⟩
  rintro ⟨S1, h2, v, cs, xs, i2, bad2, m⟩ ⟨g1, st, rw1, xl, rm⟩ ih
  simp only at g1 st rw1 rm ih xl ⊢
  have hfin : (m = 0 ∨ bad2 = true) → ∃ S', Gr S h S' h2 ∧ Sl h2 S' 1 (LRune h2 S') v xs ∧ St h2 S' h2 (RdAt R (.slice a b.length c) i2 bad2 :: As) ∧ ROut (fun l : List Int => ∀ x ∈ l, i32ok x) (wL wI) b i bad i2 bad2 xs := fun hm => by
    obtain ⟨S', f1, f2, f3⟩ := buf_freeze st (i := 0) rfl rw1 rfl (by omega)
    exact ⟨S', g1.trans f1, f2.to (fun a ha => ⟨ha, rfl⟩) (fun x cs q => q), f3, rm.done o1 hm (fun x _ => form_ne _) (by omega)⟩
  (refine goM ?_)
  by_cases hm : 0 < m
  · refine ow_cmp (hv := gtr_t (by omega)) ?_
    (refine goM ?_)
    refine st_load (i := 1) st ?_
    cases bad2 with
    | false =>
      (refine goM ?_)
      have hx := rm.left
      have hb2 := hb.gr g1
      obtain ⟨m, rfl⟩ : ∃ m', m = m' + 1 := ⟨m - 1, by omega⟩
      have hn : n ≤ b.length := by
        cases hq : bad with
        | true => exact absurd (rm.2.1 (o1.2.1 hq)) (by simp)
        | false =>
          rcases o1.2.2 hq with h9 | h9
          · exact h9.2.1.1
          · exact absurd (rm.2.1 h9.1) (by simp)
      refine ow_callV (rune_ev2 hb2  rm.1 (st.pull 1 rfl)) ?_; rintro r h3 ⟨S3, x, i3, bad3, g3, hv, st3, ro⟩
      obtain rfl := hv
      refine st_buildS st3 ?_; intro b1 h4 st4
      refine st_append1 (w := 1) (y := 4) (n := xs.length) (v := v) (cs := cs) 2 0 (by omega) st4 ?_; intro v' h5 st5
      (refine goM ?_)
      refine ow_int (v := .int .u64 (m : Int)) (hv := by simp only [intOp]; rw [IntWalk.u64_in _ (by omega)]; congr 2; omega) ?_
      (refine goM ?_)
      refine dn_loop ?_
      have st6 := st5.drop 1 rfl
      have g5 := g3.trans st5.gr
      refine (ih ⟨S3, h5, v', _, xs ++ [x], i3, bad3, m⟩ ⟨g1.trans g5, ?_, (rw1.mono fun x c q => q).snoc rfl rfl, by simp; omega, rm.step ro (fun x y r s _ _ => wI_pc x y r s trivial trivial)⟩ (by simp)).weak ⟨rfl, rfl, rfl, rfl, trivial⟩
      simp only [List.length_append, List.length_singleton]
      exact st6.rebase
    | true =>
      obtain ⟨S', f1, f2, f3, f4⟩ := hfin (.inr rfl)
      (refine goM ?_)
      exact end_res f1.1 rfl ⟨S', xs, i2, true, f1, f2, f3, f4⟩
  · refine ow_cmp (hv := gtr_f (by omega)) ?_
    obtain ⟨S', f1, f2, f3, f4⟩ := hfin (.inl (by omega))
    (refine goM ?_)
    exact end_res f1.1 rfl ⟨S', xs, i2, bad2, f1, f2, f3, f4⟩

set_option maxHeartbeats 4000000 in
theorem sev_attr (hb : Bs h S bv b) (hl : b.length ≤ 2 ^ 20) (hi : i ≤ b.length) (st : St h S h (RdAt R bv i bad :: As)) :
    Cal cxo 250 [.pointer (some ⟨R, 0, none⟩), .func (.func 251) ⟨[.pointer (some ⟨R, 0, none⟩)]⟩ ⟨[]⟩] h (RdPost (fun h S r l => Sl h S 5 (LAttr h S) r l) (fun l : List PAttr => ∀ x ∈ l, PAttr.okR x) (wL wAttr) S h R bv b i bad As) := by
  have hb0 := hb
  have hpl : plain bv = true := by obtain ⟨_, a, c, rfl, _⟩ := hb; rfl
  refine cal_intro (C := cxo) rfl rfl rfl rfl ?_
  (refine goM ?_)
  refine st_load (i := 0) st ?_
  obtain ⟨q1, a, c, rfl, q2, q3⟩ := hb0
  (refine goM ?_)
  refine ow_call ((wrap_u64 (n := (b.length : Int)) (by omega)).symm ▸ upto_ev hb hi st b.length) ?_; rintro _ h1 ⟨n, i1, bad1, rfl, st, o1⟩
  (refine goM ?_)
  refine WK.weak (L' := [(0, .pointer (some ⟨R, 0, none⟩)), (1, .func (.func 251) ⟨[.pointer (some ⟨R, 0, none⟩)]⟩ ⟨[]⟩), (4, .slice none 0 0), (5, .int .u64 (n : Int))]) ?_ ⟨rfl, rfl, rfl, rfl, trivial⟩
  refine wk_inv (ι := SevSt PAttr) (fun s => [(0, .pointer (some ⟨R, 0, none⟩)), (1, .func (.func 251) ⟨[.pointer (some ⟨R, 0, none⟩)]⟩ ⟨[]⟩), (4, s.v), (5, .int .u64 (s.m : Int))]) (fun s => s.h)
    (fun s => Gr S h s.S s.h ∧ St s.h s.S s.h (Buf 5 s.xs.length s.v s.cs :: RdAt R (.slice a b.length c) s.i s.bad :: As) ∧ Go.Mir.Rows 5 (LAttr s.h s.S) s.cs s.xs ∧ s.xs.length ≤ b.length ∧ RMany PAttr.okR wAttr b n i1 bad1 s.i s.bad s.xs s.m) (fun s => s.m) ?_
    ⟨S, h1, .slice none 0 0, [], [], i1, bad1, n⟩ ⟨st.gr, st.rebase.nilBuf, Rows.nil, Nat.zero_le _, RMany.start o1.1⟩
  rintro ⟨S1, h2, v, cs, xs, i2, bad2, m⟩ ⟨g1, st, rw1, xl, rm⟩ ih
  simp only at g1 st rw1 rm ih xl ⊢
  have hfin : (m = 0 ∨ bad2 = true) → ∃ S', Gr S h S' h2 ∧ Sl h2 S' 5 (LAttr h2 S') v xs ∧ St h2 S' h2 (RdAt R (.slice a b.length c) i2 bad2 :: As) ∧ ROut (fun l : List PAttr => ∀ x ∈ l, PAttr.okR x) (wL wAttr) b i bad i2 bad2 xs := fun hm => by
    obtain ⟨S', f1, f2, f3⟩ := buf_freeze st (i := 0) rfl rw1 rfl (by omega)
    exact ⟨S', g1.trans f1, f2.to (fun a ha => ⟨ha, rfl⟩) (fun x cs q => q), f3, rm.done o1 hm (fun x _ => wI_ne _ _) (by omega)⟩
  (refine goM ?_)
  by_cases hm : 0 < m
  · refine ow_cmp (hv := gtr_t (by omega)) ?_
    (refine goM ?_)
    refine st_load (i := 1) st ?_
    cases bad2 with
    | false =>
      (refine goM ?_)
      have hx := rm.left
      have hb2 := hb.gr g1
      obtain ⟨m, rfl⟩ : ∃ m', m = m' + 1 := ⟨m - 1, by omega⟩
      have hn : n ≤ b.length := by
        cases hq : bad with
        | true => exact absurd (rm.2.1 (o1.2.1 hq)) (by simp)
        | false =>
          rcases o1.2.2 hq with h9 | h9
          · exact h9.2.1.1
          · exact absurd (rm.2.1 h9.1) (by simp)
      refine ow_callV (attr_ev hb2 (by omega) rm.1 (st.pull 1 rfl)) ?_; rintro r h3 ⟨S3, x, i3, bad3, g3, hv, st3, ro⟩
      obtain rfl := hv
      refine st_buildS st3 ?_; intro b1 h4 st4
      refine st_append1 (w := 5) (y := 48) (n := xs.length) (v := v) (cs := cs) 2 0 (by omega) st4 ?_; intro v' h5 st5
      (refine goM ?_)
      refine ow_int (v := .int .u64 (m : Int)) (hv := by simp only [intOp]; rw [IntWalk.u64_in _ (by omega)]; congr 2; omega) ?_
      (refine goM ?_)
      refine dn_loop ?_
      have st6 := st5.drop 1 rfl
      have g5 := g3.trans st5.gr
      refine (ih ⟨S3, h5, v', _, xs ++ [x], i3, bad3, m⟩ ⟨g1.trans g5, ?_, (rw1.mono fun x c q => q).snoc rfl rfl, by simp; omega, rm.step ro wAttr_pc⟩ (by simp)).weak ⟨rfl, rfl, rfl, rfl, trivial⟩
      simp only [List.length_append, List.length_singleton]
      exact st6.rebase
    | true =>
      obtain ⟨S', f1, f2, f3, f4⟩ := hfin (.inr rfl)
      (refine goM ?_)
      exact end_res f1.1 rfl ⟨S', xs, i2, true, f1, f2, f3, f4⟩
  · refine ow_cmp (hv := gtr_f (by omega)) ?_
    obtain ⟨S', f1, f2, f3, f4⟩ := hfin (.inl (by omega))
    (refine goM ?_)
    exact end_res f1.1 rfl ⟨S', xs, i2, bad2, f1, f2, f3, f4⟩

set_option maxHeartbeats 4000000 in
theorem sev_chg (hb : Bs h S bv b) (hl : b.length ≤ 2 ^ 20) (hi : i ≤ b.length) (st : St h S h (RdAt R bv i bad :: As)) :
    Cal cxo 144 [.pointer (some ⟨R, 0, none⟩), .func (.func 145) ⟨[.pointer (some ⟨R, 0, none⟩)]⟩ ⟨[]⟩] h (RdPost (fun h S r l => Sl h S 6 (LChg h S) r l) (fun l : List PChg => ∀ x ∈ l, PChg.okR x) (wL wChg) S h R bv b i bad As) := by
  have hb0 := hb
  have hpl : plain bv = true := by obtain ⟨_, a, c, rfl, _⟩ := hb; rfl
  refine cal_intro (C := cxo) rfl rfl rfl rfl ?_
  (refine goM ?_)
  refine st_load (i := 0) st ?_
  obtain ⟨q1, a, c, rfl, q2, q3⟩ := hb0
  (refine goM ?_)
  refine ow_call ((wrap_u64 (n := (b.length : Int)) (by omega)).symm ▸ upto_ev hb hi st b.length) ?_; rintro _ h1 ⟨n, i1, bad1, rfl, st, o1⟩
  (refine goM ?_)
  refine WK.weak (L' := [(0, .pointer (some ⟨R, 0, none⟩)), (1, .func (.func 145) ⟨[.pointer (some ⟨R, 0, none⟩)]⟩ ⟨[]⟩), (4, .slice none 0 0), (5, .int .u64 (n : Int))]) ?_ ⟨rfl, rfl, rfl, rfl, trivial⟩
  refine wk_inv (ι := SevSt PChg) (fun s => [(0, .pointer (some ⟨R, 0, none⟩)), (1, .func (.func 145) ⟨[.pointer (some ⟨R, 0, none⟩)]⟩ ⟨[]⟩), (4, s.v), (5, .int .u64 (s.m : Int))]) (fun s => s.h)
    (fun s => Gr S h s.S s.h ∧ St s.h s.S s.h (Buf 6 s.xs.length s.v s.cs :: RdAt R (.slice a b.length c) s.i s.bad :: As) ∧ Go.Mir.Rows 6 (LChg s.h s.S) s.cs s.xs ∧ s.xs.length ≤ b.length ∧ RMany PChg.okR wChg b n i1 bad1 s.i s.bad s.xs s.m) (fun s => s.m) ?_
    ⟨S, h1, .slice none 0 0, [], [], i1, bad1, n⟩ ⟨st.gr, st.rebase.nilBuf, Rows.nil, Nat.zero_le _, RMany.start o1.1⟩
  rintro ⟨S1, h2, v, cs, xs, i2, bad2, m⟩ ⟨g1, st, rw1, xl, rm⟩ ih
  simp only at g1 st rw1 rm ih xl ⊢
  have hfin : (m = 0 ∨ bad2 = true) → ∃ S', Gr S h S' h2 ∧ Sl h2 S' 6 (LChg h2 S') v xs ∧ St h2 S' h2 (RdAt R (.slice a b.length c) i2 bad2 :: As) ∧ ROut (fun l : List PChg => ∀ x ∈ l, PChg.okR x) (wL wChg) b i bad i2 bad2 xs := fun hm => by
    obtain ⟨S', f1, f2, f3⟩ := buf_freeze st (i := 0) rfl rw1 rfl (by omega)
    exact ⟨S', g1.trans f1, f2.to (fun a ha => ⟨ha, rfl⟩) (fun x cs q => q), f3, rm.done o1 hm (fun x _ => wI_ne _ _) (by omega)⟩
  (refine goM ?_)
  by_cases hm : 0 < m
  · refine ow_cmp (hv := gtr_t (by omega)) ?_
    (refine goM ?_)
    refine st_load (i := 1) st ?_
    cases bad2 with
    | false =>
      (refine goM ?_)
      have hx := rm.left
      have hb2 := hb.gr g1
      obtain ⟨m, rfl⟩ : ∃ m', m = m' + 1 := ⟨m - 1, by omega⟩
      have hn : n ≤ b.length := by
        cases hq : bad with
        | true => exact absurd (rm.2.1 (o1.2.1 hq)) (by simp)
        | false =>
          rcases o1.2.2 hq with h9 | h9
          · exact h9.2.1.1
          · exact absurd (rm.2.1 h9.1) (by simp)
      refine ow_callV (change_ev hb2 (by omega) rm.1 (st.pull 1 rfl)) ?_; rintro r h3 ⟨S3, x, i3, bad3, g3, hv, st3, ro⟩
      obtain rfl := hv
      refine st_buildS st3 ?_; intro b1 h4 st4
      refine st_append1 (w := 6) (y := 56) (n := xs.length) (v := v) (cs := cs) 2 0 (by omega) st4 ?_; intro v' h5 st5
      (refine goM ?_)
      refine ow_int (v := .int .u64 (m : Int)) (hv := by simp only [intOp]; rw [IntWalk.u64_in _ (by omega)]; congr 2; omega) ?_
      (refine goM ?_)
      refine dn_loop ?_
      have st6 := st5.drop 1 rfl
      have g5 := g3.trans st5.gr
      refine (ih ⟨S3, h5, v', _, xs ++ [x], i3, bad3, m⟩ ⟨g1.trans g5, ?_, (rw1.mono fun x c q => q).snoc rfl rfl, by simp; omega, rm.step ro wChg_pc⟩ (by simp)).weak ⟨rfl, rfl, rfl, rfl, trivial⟩
      simp only [List.length_append, List.length_singleton]
      exact st6.rebase
    | true =>
      obtain ⟨S', f1, f2, f3, f4⟩ := hfin (.inr rfl)
      (refine goM ?_)
      exact end_res f1.1 rfl ⟨S', xs, i2, true, f1, f2, f3, f4⟩
  · refine ow_cmp (hv := gtr_f (by omega)) ?_
    obtain ⟨S', f1, f2, f3, f4⟩ := hfin (.inl (by omega))
    (refine goM ?_)
    exact end_res f1.1 rfl ⟨S', xs, i2, bad2, f1, f2, f3, f4⟩

set_option maxHeartbeats 4000000 in
theorem sev_key (hb : Bs h S bv b) (hl : b.length ≤ 2 ^ 20) (hi : i ≤ b.length) (st : St h S h (RdAt R bv i bad :: As)) :
    Cal cxo 64 [.pointer (some ⟨R, 0, none⟩), .func (.func 65) ⟨[.pointer (some ⟨R, 0, none⟩)]⟩ ⟨[]⟩] h (RdPost (fun h S r l => Sl h S 6 (LKey h S) r l) (fun l : List PKey => ∀ x ∈ l, PKey.okR x) (wL wKey) S h R bv b i bad As) := by
  have hb0 := hb
  have hpl : plain bv = true := by obtain ⟨_, a, c, rfl, _⟩ := hb; rfl
  refine cal_intro (C := cxo) rfl rfl rfl rfl ?_
  (refine goM ?_)
  refine st_load (i := 0) st ?_
  obtain ⟨q1, a, c, rfl, q2, q3⟩ := hb0
  (refine goM ?_)
  refine ow_call ((wrap_u64 (n := (b.length : Int)) (by omega)).symm ▸ upto_ev hb hi st b.length) ?_; rintro _ h1 ⟨n, i1, bad1, rfl, st, o1⟩
  (refine goM ?_)
  refine WK.weak (L' := [(0, .pointer (some ⟨R, 0, none⟩)), (1, .func (.func 65) ⟨[.pointer (some ⟨R, 0, none⟩)]⟩ ⟨[]⟩), (4, .slice none 0 0), (5, .int .u64 (n : Int))]) ?_ ⟨rfl, rfl, rfl, rfl, trivial⟩
  refine wk_inv (ι := SevSt PKey) (fun s => [(0, .pointer (some ⟨R, 0, none⟩)), (1, .func (.func 65) ⟨[.pointer (some ⟨R, 0, none⟩)]⟩ ⟨[]⟩), (4, s.v), (5, .int .u64 (s.m : Int))]) (fun s => s.h)
    (fun s => Gr S h s.S s.h ∧ St s.h s.S s.h (Buf 6 s.xs.length s.v s.cs :: RdAt R (.slice a b.length c) s.i s.bad :: As) ∧ Go.Mir.Rows 6 (LKey s.h s.S) s.cs s.xs ∧ s.xs.length ≤ b.length ∧ RMany PKey.okR wKey b n i1 bad1 s.i s.bad s.xs s.m) (fun s => s.m) ?_
    ⟨S, h1, .slice none 0 0, [], [], i1, bad1, n⟩ ⟨st.gr, st.rebase.nilBuf, Rows.nil, Nat.zero_le _, RMany.start o1.1⟩
  rintro ⟨S1, h2, v, cs, xs, i2, bad2, m⟩ ⟨g1, st, rw1, xl, rm⟩ ih
  simp only at g1 st rw1 rm ih xl ⊢
  have hfin : (m = 0 ∨ bad2 = true) → ∃ S', Gr S h S' h2 ∧ Sl h2 S' 6 (LKey h2 S') v xs ∧ St h2 S' h2 (RdAt R (.slice a b.length c) i2 bad2 :: As) ∧ ROut (fun l : List PKey => ∀ x ∈ l, PKey.okR x) (wL wKey) b i bad i2 bad2 xs := fun hm => by
    obtain ⟨S', f1, f2, f3⟩ := buf_freeze st (i := 0) rfl rw1 rfl (by omega)
    exact ⟨S', g1.trans f1, f2.to (fun a ha => ⟨ha, rfl⟩) (fun x cs q => q), f3, rm.done o1 hm (fun x _ => wI_ne _ _) (by omega)⟩
  (refine goM ?_)
  by_cases hm : 0 < m
  · refine ow_cmp (hv := gtr_t (by omega)) ?_
    (refine goM ?_)
    refine st_load (i := 1) st ?_
    cases bad2 with
    | false =>
      (refine goM ?_)
      have hx := rm.left
      have hb2 := hb.gr g1
      obtain ⟨m, rfl⟩ : ∃ m', m = m' + 1 := ⟨m - 1, by omega⟩
      have hn : n ≤ b.length := by
        cases hq : bad with
        | true => exact absurd (rm.2.1 (o1.2.1 hq)) (by simp)
        | false =>
          rcases o1.2.2 hq with h9 | h9
          · exact h9.2.1.1
          · exact absurd (rm.2.1 h9.1) (by simp)
      refine ow_callV (key_ev hb2  rm.1 (st.pull 1 rfl)) ?_; rintro r h3 ⟨S3, x, i3, bad3, g3, hv, st3, ro⟩
      obtain rfl := hv
      refine st_buildS st3 ?_; intro b1 h4 st4
      refine st_append1 (w := 6) (y := 24) (n := xs.length) (v := v) (cs := cs) 2 0 (by omega) st4 ?_; intro v' h5 st5
      (refine goM ?_)
      refine ow_int (v := .int .u64 (m : Int)) (hv := by simp only [intOp]; rw [IntWalk.u64_in _ (by omega)]; congr 2; omega) ?_
      (refine goM ?_)
      refine dn_loop ?_
      have st6 := st5.drop 1 rfl
      have g5 := g3.trans st5.gr
      refine (ih ⟨S3, h5, v', _, xs ++ [x], i3, bad3, m⟩ ⟨g1.trans g5, ?_, (rw1.mono fun x c q => q).snoc rfl rfl, by simp; omega, rm.step ro wKey_pc⟩ (by simp)).weak ⟨rfl, rfl, rfl, rfl, trivial⟩
      simp only [List.length_append, List.length_singleton]
      exact st6.rebase
    | true =>
      obtain ⟨S', f1, f2, f3, f4⟩ := hfin (.inr rfl)
      (refine goM ?_)
      exact end_res f1.1 rfl ⟨S', xs, i2, true, f1, f2, f3, f4⟩
  · refine ow_cmp (hv := gtr_f (by omega)) ?_
    obtain ⟨S', f1, f2, f3, f4⟩ := hfin (.inl (by omega))
    (refine goM ?_)
    exact end_res f1.1 rfl ⟨S', xs, i2, bad2, f1, f2, f3, f4⟩
end
end Go.Proofs.YtmaccpaiaidgpaaGreatDoor

/- Reading an op. -/
namespace Go.Proofs.YtmaccpaiaidgpaaGreatDoor
open Go Go.Mir
set_option maxRecDepth 10000

section
variable {h : H} {S : Nat → Prop} {R : Nat} {bv : Value} {b : List UInt8} {i : Nat} {bad : Bool} {As : List Asn}

set_option maxHeartbeats 4000000 in
theorem op_ev (hb : Bs h S bv b) (hl : b.length ≤ 2 ^ 20) (hi : i ≤ b.length) (st : St h S h (RdAt R bv i bad :: As)) :
    Cal cxo 142 [.pointer (some ⟨R, 0, none⟩)] h (RdPost (fun h S r x => ∃ cs, r = .agg ⟨cs⟩ ∧ Go.Mir.ROp h S x cs) POp.okR wOp S h R bv b i bad As) := by
  refine cal_intro (C := cxo) rfl rfl rfl rfl ?_
  (refine goM ?_)
  refine st_alloc st ?_; intro b0 h1 st
  (refine goM ?_)
  have st := st.pull 1 rfl
  refine ow_call (upto_ev hb hi st 255) ?_; rintro _ h2 ⟨x1, i1, bad1, rfl, st, o1⟩
  (refine goM ?_)
  refine ow_build ?_
  refine st_alloc st ?_; intro b1 h3 st
  refine st_store (i := 0) st ?_; intro h4 st
  (refine goM ?_)
  have st := st.pull 1 rfl
  refine ow_call (int_ev hb o1.1 st) ?_; rintro _ h5 ⟨x2, i2, bad2, rfl, st, o2⟩
  (refine goM ?_)
  refine st_store (i := 1) st ?_; intro h6 st
  (refine goM ?_)
  refine ow_call (sev_rune (Bs.now hb st) hl o2.1 st.rebase) ?_; rintro v3 h7 ⟨S3, x3, i3, bad3, g3, q3, st3, o3⟩
  obtain ⟨a3, n3, c3, rfl, q3'⟩ := q3
  have q3 : Sl h7 S3 1 (LRune h7 S3) (.slice a3 n3 c3) x3 := ⟨a3, n3, c3, rfl, q3'⟩
  (refine goM ?_)
  refine st_store (i := 1) st3 ?_; intro h8 st4
  (refine goM ?_)
  refine ow_call (sev_attr (((Bs.now hb st).gr g3).gr st4.gr) hl o3.1 st4.rebase) ?_; rintro v4 h9 ⟨S5, x4, i4, bad4, g5, q5, st5, o4⟩
  obtain ⟨a4, n4, c4, rfl, q4'⟩ := q5
  have q5 : Sl h9 S5 5 (LAttr h9 S5) (.slice a4 n4 c4) x4 := ⟨a4, n4, c4, rfl, q4'⟩
  (refine goM ?_)
  refine st_store (i := 1) st5 ?_; intro h10 st6
  (refine goM ?_)
  refine ow_call (sev_chg (((((Bs.now hb st).gr g3).gr st4.gr).gr g5).gr st6.gr) hl o4.1 st6.rebase) ?_; rintro v5 h11 ⟨S7, x5, i5, bad5, g7, q7, st7, o5⟩
  obtain ⟨a5, n5, c5, rfl, q5'⟩ := q7
  have q7 : Sl h11 S7 6 (LChg h11 S7) (.slice a5 n5 c5) x5 := ⟨a5, n5, c5, rfl, q5'⟩
  (refine goM ?_)
  refine st_store (i := 1) st7 ?_; intro h12 st8
  (refine goM ?_)
  refine st_loadA (i := 1) st8 ?_
  refine st_store (i := 2) st8 ?_; intro h13 st9
  (refine goM ?_)
  have G9 := st9.gr
  have G6 := (st6.gr.trans g7).trans G9
  have G4 := (st4.gr.trans g5).trans G6
  have G0 := (st.gr.trans g3).trans G4
  refine end_cellA rfl G0.1 (readOf (st9.get 2 rfl) rfl) ⟨S7, ⟨IntKind.u8.wrap x1, x2, x3, x4, x5⟩, i5, bad5, G0, ⟨_, rfl, _, _, _, rfl, q3.gr G4, q5.gr G6, q7.gr G9⟩, ((st9.drop 1 rfl).drop 1 rfl).rebase, ?_⟩
  refine (o1.seq (o2.seq (o3.seq (o4.seq o5 (wL_pc wAttr_pc)) (fun x y r s _ _ => wL_pc wI_pc x y r s (fun _ _ => trivial) (fun _ _ => trivial))) wI_pc') form_pc').map (β := POp) (fun z => ⟨IntKind.u8.wrap z.1, z.2.1, z.2.2.1, z.2.2.2.1, z.2.2.2.2⟩) (fun k => (k.kind.toNat, k.n, k.runes, k.set, k.patch)) ?_ ?_
  · rintro ⟨a, b, c, d, e⟩ ⟨h1, h2, h3, h4, h5⟩
    simp only at h1 h2 h3 h4 h5 ⊢
    have e : IntKind.u8.wrap (a : Int) = a := wrap_u8 (by omega)
    refine ⟨⟨by rw [e]; unfold u8ok; simp only; omega, h2, h3, h4, h5⟩, ?_⟩
    unfold wOp wU
    simp only [e]
    rfl
  · rintro ⟨a, b, c, d, e⟩ ⟨h1, h2, h3, h4, h5⟩
    unfold u8ok at h1
    simp only at h1 h2 h3 h4 h5 ⊢
    exact ⟨⟨⟨by omega, by omega⟩, h2, h3, h4, h5⟩, rfl⟩
end
end Go.Proofs.YtmaccpaiaidgpaaGreatDoor

/- Reading several ops. -/
namespace Go.Proofs.YtmaccpaiaidgpaaGreatDoor
open Go Go.Mir
set_option maxRecDepth 10000

section
variable {h : H} {S : Nat → Prop} {R : Nat} {bv : Value} {b : List UInt8} {i : Nat} {bad : Bool} {As : List Asn}

set_option maxHeartbeats 4000000 in
theorem sev_op (hb : Bs h S bv b) (hl : b.length ≤ 2 ^ 20) (hi : i ≤ b.length) (st : St h S h (RdAt R bv i bad :: As)) :
    Cal cxo 141 [.pointer (some ⟨R, 0, none⟩), .func (.func 142) ⟨[.pointer (some ⟨R, 0, none⟩)]⟩ ⟨[]⟩] h (RdPost (fun h S r l => Sl h S 5 (Go.Mir.ROp h S) r l) (fun l : List POp => ∀ x ∈ l, POp.okR x) (wL wOp) S h R bv b i bad As) := by
  have hb0 := hb
  have hpl : plain bv = true := by obtain ⟨_, a, c, rfl, _⟩ := hb; rfl
  refine cal_intro (C := cxo) rfl rfl rfl rfl ?_
  (refine goM ?_)
  refine st_load (i := 0) st ?_
  obtain ⟨q1, a, c, rfl, q2, q3⟩ := hb0
  (refine goM ?_)
  refine ow_call ((wrap_u64 (n := (b.length : Int)) (by omega)).symm ▸ upto_ev hb hi st b.length) ?_; rintro _ h1 ⟨n, i1, bad1, rfl, st, o1⟩
  (refine goM ?_)
  refine WK.weak (L' := [(0, .pointer (some ⟨R, 0, none⟩)), (1, .func (.func 142) ⟨[.pointer (some ⟨R, 0, none⟩)]⟩ ⟨[]⟩), (4, .slice none 0 0), (5, .int .u64 (n : Int))]) ?_ ⟨rfl, rfl, rfl, rfl, trivial⟩
  refine wk_inv (ι := SevSt POp) (fun s => [(0, .pointer (some ⟨R, 0, none⟩)), (1, .func (.func 142) ⟨[.pointer (some ⟨R, 0, none⟩)]⟩ ⟨[]⟩), (4, s.v), (5, .int .u64 (s.m : Int))]) (fun s => s.h)
    (fun s => Gr S h s.S s.h ∧ St s.h s.S s.h (Buf 5 s.xs.length s.v s.cs :: RdAt R (.slice a b.length c) s.i s.bad :: As) ∧ Go.Mir.Rows 5 (Go.Mir.ROp s.h s.S) s.cs s.xs ∧ s.xs.length ≤ b.length ∧ RMany POp.okR wOp b n i1 bad1 s.i s.bad s.xs s.m) (fun s => s.m) ?_
    ⟨S, h1, .slice none 0 0, [], [], i1, bad1, n⟩ ⟨st.gr, st.rebase.nilBuf, Rows.nil, Nat.zero_le _, RMany.start o1.1⟩
  rintro ⟨S1, h2, v, cs, xs, i2, bad2, m⟩ ⟨g1, st, rw1, xl, rm⟩ ih
  simp only at g1 st rw1 rm ih xl ⊢
  have hfin : (m = 0 ∨ bad2 = true) → ∃ S', Gr S h S' h2 ∧ Sl h2 S' 5 (Go.Mir.ROp h2 S') v xs ∧ St h2 S' h2 (RdAt R (.slice a b.length c) i2 bad2 :: As) ∧ ROut (fun l : List POp => ∀ x ∈ l, POp.okR x) (wL wOp) b i bad i2 bad2 xs := fun hm => by
    obtain ⟨S', f1, f2, f3⟩ := buf_freeze st (i := 0) rfl rw1 rfl (by omega)
    exact ⟨S', g1.trans f1, f2.to (fun a ha => ⟨ha, rfl⟩) (fun x cs q => q.gr f1), f3, rm.done o1 hm (fun x _ => wU_ne _ _) (by omega)⟩
  (refine goM ?_)
  by_cases hm : 0 < m
  · refine ow_cmp (hv := gtr_t (by omega)) ?_
    (refine goM ?_)
    refine st_load (i := 1) st ?_
    cases bad2 with
    | false =>
      (refine goM ?_)
      have hx := rm.left
      have hb2 := hb.gr g1
      obtain ⟨m, rfl⟩ : ∃ m', m = m' + 1 := ⟨m - 1, by omega⟩
      have hn : n ≤ b.length := by
        cases hq : bad with
        | true => exact absurd (rm.2.1 (o1.2.1 hq)) (by simp)
        | false =>
          rcases o1.2.2 hq with h9 | h9
          · exact h9.2.1.1
          · exact absurd (rm.2.1 h9.1) (by simp)
      refine ow_callV (op_ev hb2 (by omega) rm.1 (st.pull 1 rfl)) ?_; rintro r h3 ⟨S3, x, i3, bad3, g3, hv, st3, ro⟩
      obtain ⟨_, rfl, xr, xs0, xp, rfl, hop1, hop2, hop3⟩ := hv; have hop1k := hop1; have hop2k := hop2; have hop3k := hop3; obtain ⟨ra, rn, rc, rfl, _⟩ := hop1; obtain ⟨sa, sn, sc, rfl, _⟩ := hop2; obtain ⟨pa, pn, pc, rfl, _⟩ := hop3
      refine st_buildS st3 ?_; intro b1 h4 st4
      refine st_append1 (w := 5) (y := 88) (n := xs.length) (v := v) (cs := cs) 2 0 (by omega) st4 ?_; intro v' h5 st5
      (refine goM ?_)
      refine ow_int (v := .int .u64 (m : Int)) (hv := by simp only [intOp]; rw [IntWalk.u64_in _ (by omega)]; congr 2; omega) ?_
      (refine goM ?_)
      refine dn_loop ?_
      have st6 := st5.drop 1 rfl
      have g5 := g3.trans st5.gr
      refine (ih ⟨S3, h5, v', _, xs ++ [x], i3, bad3, m⟩ ⟨g1.trans g5, ?_, (rw1.mono fun x c q => q.gr g5).snoc rfl ⟨_, _, _, rfl, hop1k.gr st5.gr, hop2k.gr st5.gr, hop3k.gr st5.gr⟩, by simp; omega, rm.step ro wOp_pc⟩ (by simp)).weak ⟨rfl, rfl, rfl, rfl, trivial⟩
      simp only [List.length_append, List.length_singleton]
      exact st6.rebase
    | true =>
      obtain ⟨S', f1, f2, f3, f4⟩ := hfin (.inr rfl)
      (refine goM ?_)
      exact end_res f1.1 rfl ⟨S', xs, i2, true, f1, f2, f3, f4⟩
  · refine ow_cmp (hv := gtr_f (by omega)) ?_
    obtain ⟨S', f1, f2, f3, f4⟩ := hfin (.inl (by omega))
    (refine goM ?_)
    exact end_res f1.1 rfl ⟨S', xs, i2, bad2, f1, f2, f3, f4⟩
end
end Go.Proofs.YtmaccpaiaidgpaaGreatDoor

