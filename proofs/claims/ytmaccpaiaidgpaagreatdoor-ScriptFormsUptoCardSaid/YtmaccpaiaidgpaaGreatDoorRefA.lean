/- The reference of layer 29: forms of values, sets, patches; may a script be. -/
import Derived.Test.YtmaccpaiaidgpaaGreatDoorTabsO
import Derived.Test.YtmaccpaiaidgpaaGreatDoorScrA
import Derived.Test.YtmaccpaiaidgpaaGreatDoorReadA
import Derived.Test.YtmaccpaiaidgpaaGreatDoorReadB
/- The reference's forms. -/
namespace Go.Proofs.YtmaccpaiaidgpaaGreatDoor
open Go Go.Mir
set_option maxRecDepth 10000

section
variable {h0 h : H} {S : Nat → Prop} {As : List Asn}

set_option maxHeartbeats 2000000 in
theorem form_ev {n : Nat} (hn : n < 2 ^ 64) (st : St h0 S h As) : Cal cxo 71 [.int .u64 (n : Int)] h (fun r h' => St h0 S h' (BufB r (form n) :: As)) := by
  have hl10 := form_len64 hn
  have stA := st
  have st := st.rebase
  refine cal_intro (C := cxo) rfl rfl rfl rfl ?_
  (refine goM ?_)
  refine WK.weak (L' := [(0, .int .u64 (n : Int)), (3, .slice none 0 0)]) ?_ ⟨rfl, rfl, trivial⟩
  refine wk_inv (ι := Value × List UInt8 × Nat × H) (fun s => [(0, .int .u64 (s.2.2.1 : Int)), (3, s.1)]) (fun s => s.2.2.2) (fun s => s.2.2.1 < 2 ^ 64 ∧ form n = s.2.1 ++ form s.2.2.1 ∧ St h S s.2.2.2 (BufB s.1 s.2.1 :: As)) (fun s => s.2.2.1) ?_ (.slice none 0 0, [], n, h) ⟨hn, rfl, st.nilBuf⟩
  rintro ⟨v, p, m, h1⟩ ⟨hm, he, st⟩ ih
  simp only at hm he st ih ⊢
  have hp : p.length ≤ 10 := by
    have := congrArg List.length he
    rw [List.length_append] at this; omega
  (refine goM ?_)
  refine ow_int (hv := rem128) ?_
  refine ow_convTo (n' := ((m % 128 : Nat) : Int)) (wrap_u8 (by omega)) ?_
  (refine goM ?_)
  refine ow_int (hv := quo128 hm) ?_
  (refine goM ?_)
  by_cases h0 : m / 128 = 0
  · refine ow_cmp (hv := eql_t (by omega)) ?_
    (refine goM ?_)
    refine st_buildS st ?_; intro b h2 st2
    have hs : m < 128 := by omega
    refine st_appB (p := p) (l := [UInt8.ofNat (m % 128)]) 1 (blk_src st2 (i := 0) rfl (byteV (n := m % 128) (by omega)).symm (by simp) (by simp; decide)) (by simp; omega) st2 ?_; intro v' h3 st3
    (refine goM ?_)
    refine end_res st3.nx rfl ?_
    rw [he, form_small hs]
    have : m % 128 = m := by omega
    rw [this] at st3
    exact stA.over (st3.drop 1 rfl)
  · refine ow_cmp (hv := eql_f (by omega)) ?_
    (refine goM ?_)
    refine ow_int (v := .int .u8 ((m % 128 + 128 : Nat) : Int)) (hv := by simp only [intOp]; rw [wrap_u8 (by omega)]; rfl) ?_
    refine st_buildS st ?_; intro b h2 st2
    refine st_appB (p := p) (l := [UInt8.ofNat (m % 128 + 128)]) 1 (blk_src st2 (i := 0) rfl (byteV (n := m % 128 + 128) (by omega)).symm (by simp) (by simp; decide)) (by simp; omega) st2 ?_; intro v' h3 st3
    (refine goM ?_)
    refine dn_loop ?_
    refine (ih (v', p ++ [UInt8.ofNat (m % 128 + 128)], m / 128, h3) ⟨by simp only; omega, ?_, st3.drop 1 rfl⟩ (by simp only; omega)).weak ⟨rfl, rfl, trivial⟩
    rw [he, form_great (by omega), List.append_assoc]; rfl

theorem Whole_ev {x : Int} (hx : i64ok x) : Cal cxo 148 [.int .i64 x] h (fun r h' => h = h' ∧ r = .int .u64 (zig x : Int)) := by
  unfold i64ok at hx
  refine cal_intro (C := cxo) rfl rfl rfl rfl ?_
  (refine goM ?_)
  by_cases h0 : 0 ≤ x
  · refine ow_cmp (hv := geq_t h0) ?_
    (refine goM ?_)
    refine ow_int (v := .int .u64 (zig x : Int)) (hv := by
      simp only [intOp]
      rw [u64_mod, u64_mod]
      unfold zig
      rw [if_pos h0]
      congr 2; omega) ?_
    (refine goM ?_)
    exact end_res (Nat.le_refl _) rfl ⟨rfl, rfl⟩
  · refine ow_cmp (hv := geq_f h0) ?_
    (refine goM ?_)
    refine ow_int (v := .int .i64 (x + 1)) (hv := by simp only [intOp]; rw [IntWalk.i64_in _ (by omega)]) ?_
    refine ow_neg ?_
    (refine goM ?_)
    refine ow_int (v := .int .u64 (-2 * x - 2)) (hv := by
      simp only [intOp]
      rw [IntWalk.i64_in (0 - (x + 1)) (by omega), u64_mod, u64_mod]
      congr 2; omega) ?_
    refine ow_int (v := .int .u64 (zig x : Int)) (hv := by
      simp only [intOp]
      rw [u64_mod]
      unfold zig
      rw [if_neg h0]
      congr 2; omega) ?_
    (refine goM ?_)
    exact end_res (Nat.le_refl _) rfl ⟨rfl, rfl⟩

theorem whole_ev {x : Int} (hx : i64ok x) (st : St h0 S h As) : Cal cxo 72 [.int .i64 x] h (fun r h' => St h0 S h' (BufB r (wI x) :: As)) := by
  have stA := st
  have st := st.rebase
  refine cal_intro (C := cxo) rfl rfl rfl rfl ?_
  (refine goM ?_)
  refine ow_call (Whole_ev hx) ?_; rintro _ _ ⟨rfl, rfl⟩
  refine ow_call (form_ev (zig_lt hx) st) ?_; intro r h1 st1
  (refine goM ?_)
  exact end_res st1.nx rfl (stA.over st1)

theorem wF_true : bytesV (wF true) = [.int .u8 1] := by unfold wF; rw [if_pos rfl, form_small (by decide)]; rfl
theorem wF_false : bytesV (wF false) = [.int .u8 0] := by
  have : wF false = form 0 := rfl
  rw [this, form_small (by decide)]; rfl

theorem rflag_ev {f : Bool} (st : St h0 S h As) : Cal cxo 73 [.bool f] h (fun r h' => ∃ b, r = .slice (some ⟨b, 0, none⟩) 1 1 ∧ St h0 S h' (blk b (.cells (bytesV (wF f)) 0) :: As)) := by
  have stA := st
  have st := st.rebase
  refine cal_intro (C := cxo) rfl rfl rfl rfl ?_
  cases f with
  | true =>
    (refine goM ?_)
    refine st_buildS st ?_; intro b h2 st2
    (refine goM ?_)
    exact end_res st2.nx rfl ⟨b, rfl, by rw [wF_true]; exact stA.over st2⟩
  | false =>
    (refine goM ?_)
    refine st_buildS st ?_; intro b h2 st2
    (refine goM ?_)
    exact end_res st2.nx rfl ⟨b, rfl, by rw [wF_false]; exact stA.over st2⟩

theorem text_ev {v : Value} {l : List UInt8} (q : Byt h v l) (hk : Sl h S 1 RByte v l) (hl : l.length ≤ 2 ^ 39) (st : St h0 S h As) : Cal cxo 77 [v] h (fun r h' => St h0 S h' (BufB r (wB l) :: As)) := by
  have stA := st
  have st := st.rebase
  obtain ⟨a, n, c, rfl⟩ := q.2
  have hn : n = l.length := by simpa [Go.Mir.lenOf] using q.1.2
  subst hn
  refine cal_intro (C := cxo) rfl rfl rfl rfl ?_
  (refine goM ?_)
  refine ow_call ((wrap_u64 (n := (l.length : Int)) (by omega)).symm ▸ form_ev (n := l.length) (by omega) st) ?_; intro r h1 st1
  (refine goM ?_)
  have hf := form_len64 (n := l.length) (by omega)
  refine st_appB (p := form l.length) (l := l) 0 (sl_cells (hk.gr st1.gr)) (by omega) st1 ?_; intro v' h3 st3
  (refine goM ?_)
  exact end_res st3.nx rfl (stA.over st3)

set_option maxHeartbeats 2000000 in
theorem rvalue_ev {x : PVal} (hx : x.okR) (hl : x.s.data.toList.length ≤ 2 ^ 38) (st : St h0 S h As) : Cal cxo 149 [.agg ⟨x.cells⟩] h (fun r h' => St h0 S h' (BufB r (wVal x) :: As)) := by
  have stA := st
  have st := st.rebase
  obtain ⟨k, n, f, ⟨⟨s⟩⟩⟩ := x
  obtain ⟨⟨k1, k2⟩, hn, f1, f2⟩ := hx
  simp only at k1 k2 hn f1 f2 hl
  obtain ⟨k, rfl⟩ := Int.eq_ofNat_of_zero_le k1
  obtain ⟨f, rfl⟩ := Int.eq_ofNat_of_zero_le f1
  refine cal_intro (C := cxo) rfl rfl rfl rfl ?_
  (refine goM ?_)
  refine st_box st ?_; intro b h1 st1
  (refine goM ?_)
  refine st_load (i := 0) st1 ?_
  refine ow_convTo (n' := (k : Int)) (wrap_u64 (by omega)) ?_
  refine ow_call (form_ev (n := k) (by omega) st1) ?_; intro r1 h2 st2
  (refine goM ?_)
  refine st_load (i := 1) st2 ?_
  refine ow_call (Whole_ev hn) ?_; rintro _ _ ⟨rfl, rfl⟩
  refine ow_call (form_ev (zig_lt hn) st2) ?_; intro r2 h3 st3
  have l1 := form_len64 (n := k) (by omega)
  have l2 := form_len64 (zig_lt hn)
  have l3 := form_len64 (n := f) (by omega)
  refine st_appB (p := form k) (l := form (zig n)) 1 (buf_src st3 (i := 0) rfl) (by omega) st3 ?_; intro v4 h4 st4
  (refine goM ?_)
  refine ow_end ?_ ?_
  · exact reads_gen rfl ⟨rfl, .bnd rfl (.inl rfl) rfl, rfl, .go rfl (agn_load (loadOf (st1.get 0 rfl) rfl)) (.bnd rfl (.inl rfl) rfl), trivial⟩
  (refine goM ?_)
  have st4 := st4.drop 1 rfl
  refine st_load (i := 1) st4 ?_
  refine ow_call (form_ev (n := f) (by omega) st4) ?_; intro r5 h5 st5
  refine st_appB (p := form k ++ form (zig n)) (l := form f) 1 (buf_src st5 (i := 0) rfl) (by simp; omega) st5 ?_; intro v6 h6 st6
  (refine goM ?_)
  have st6 := st6.drop 1 rfl
  refine st_load (i := 1) st6 ?_
  refine st_strB (l := s) (by omega) st6 ?_; intro v7 h7 st7
  obtain ⟨S8, g8, q8, st8⟩ := buf_freeze (α := UInt8) (R := RByte) st7 (i := 0) rfl (rows_bytes s) rfl (by omega)
  refine ow_call (text_ev (Byt.sl q8) q8 (by omega) st8) ?_; intro r9 h9 st9
  have l4 : (wB s).length ≤ 10 + s.length := by
    unfold wB; rw [List.length_append]
    have := form_len64 (n := s.length) (by omega); omega
  refine st_appB (p := form k ++ form (zig n) ++ form f) (l := wB s) 1 (buf_src st9 (i := 0) rfl) (by simp; omega) st9 ?_; intro v10 h10 st10
  (refine goM ?_)
  have g := (st7.gr.trans g8).trans st10.gr
  have stF := (st10.drop 1 rfl).drop 1 rfl
  refine end_res g.1 rfl ?_
  have e : wVal ⟨(k : Int), n, (f : Int), ⟨⟨s⟩⟩⟩ = form k ++ form (zig n) ++ form f ++ wB s := by
    show form k ++ (form (zig n) ++ (form f ++ wB s)) = _
    simp only [List.append_assoc]
  rw [e]
  exact (stA.over (stF.back (st7.gr.trans g8) st.lt))
end
end Go.Proofs.YtmaccpaiaidgpaaGreatDoor

/- The reference's forms of sets and patches. -/
namespace Go.Proofs.YtmaccpaiaidgpaaGreatDoor
open Go Go.Mir
set_option maxRecDepth 10000

theorem wVal_len (x : PVal) : x.s.data.toList.length ≤ (wVal x).length := by
  unfold wVal wB; simp only [List.length_append]; omega

section
variable {h0 h : H} {S : Nat → Prop} {As : List Asn}

set_option maxHeartbeats 4000000 in
theorem rset_ev {v : Value} {l : List PAttr} (q : Sl h S 5 RAttr v l) (hok : ∀ a ∈ l, a.okR) (hl : (wL wAttr l).length ≤ 2 ^ 38) (st : St h0 S h As) : Cal cxo 75 [v] h (fun r h' => St h0 S h' (BufB r (wL wAttr l) :: As)) := by
  have stA := st
  have st := st.rebase
  have q0 := q
  obtain ⟨a, n, c, rfl, hn, h62⟩ := q.inv
  obtain ⟨hc, h62, _⟩ := h62
  subst hn
  unfold wL at hl
  rw [List.length_append] at hl
  refine cal_intro (C := cxo) rfl rfl rfl rfl ?_
  (refine goM ?_)
  refine ow_call ((wrap_u64 (n := (l.length : Int)) (by omega)).symm ▸ form_ev (n := l.length) (by omega) st) ?_; intro r h1 st1
  (refine goM ?_)
  refine WK.weak (L' := [(0, .slice a l.length c), (3, r), (4, .int .i64 ((0 : Nat) : Int))]) ?_ ⟨rfl, rfl, rfl, trivial⟩
  refine wk_inv (ι := Value × Nat × H) (fun s => [(0, .slice a l.length c), (3, s.1), (4, .int .i64 (s.2.1 : Int))]) (fun s => s.2.2) (fun s => s.2.1 ≤ l.length ∧ St h S s.2.2 (BufB s.1 (form l.length ++ (l.take s.2.1).flatMap wAttr) :: As)) (fun s => l.length - s.2.1) ?_ (r, 0, h1) ⟨Nat.zero_le _, by simpa using st1⟩
  rintro ⟨v, i, h2⟩ ⟨hi, st⟩ ih
  simp only at hi st ih ⊢
  (refine goM ?_)
  by_cases hlt : i < l.length
  · refine ow_cmp (hv := lss_t (by omega)) ?_
    (refine goM ?_)
    obtain ⟨b, o, x, xcs, rfl, hS, hcap, hxi, hxl, rfl, hrd⟩ := q0.at hlt
    have hmem : x ∈ l := List.mem_of_getElem? hxi
    have hle := flat_take_le (w := wAttr) hxi
    have hwx : (wAttr x).length = (wI x.key).length + (wVal x.v).length := by unfold wAttr; rw [List.length_append]
    have hsv := wVal_len x.v
    have hrd2 : h2.read ⟨b, o + i * 5, none⟩ 5 = some x.cells := by rw [st.read hS]; exact hrd
    refine ow_index hlt hcap ?_
    (refine goM ?_)
    refine ow_load (v := .int .i64 x.key) (read_load hrd2 (k := 0) (by decide)) ?_
    refine ow_call (whole_ev (hok x hmem).1 st) ?_; intro r3 h3 st3
    refine st_appB (p := form l.length ++ (l.take i).flatMap wAttr) (l := wI x.key) 1 (buf_src st3 (i := 0) rfl) (by rw [List.length_append]; omega) st3 ?_; intro v4 h4 st4
    (refine goM ?_)
    have st4 := st4.drop 1 rfl
    have hrd4 : h4.read ⟨b, o + i * 5, none⟩ 5 = some x.cells := by rw [st4.read hS]; exact hrd
    refine ow_index hlt hcap ?_
    (refine goM ?_)
    refine ow_loadA (cs := x.v.cells) (read_part hrd4 (k := 1) (m := 4) rfl) ?_
    refine ow_call (rvalue_ev (hok x hmem).2 (by omega) st4) ?_; intro r5 h5 st5
    refine st_appB (p := form l.length ++ (l.take i).flatMap wAttr ++ wI x.key) (l := wVal x.v) 1 (buf_src st5 (i := 0) rfl) (by simp only [List.length_append]; omega) st5 ?_; intro v6 h6 st6
    (refine goM ?_)
    refine ow_int (hv := add_one (by omega)) ?_
    (refine goM ?_)
    have st6 := st6.drop 1 rfl
    refine dn_loop ?_
    refine (ih (v6, i + 1, h6) ⟨hlt, ?_⟩ (by simp only; omega)).weak ⟨rfl, rfl, rfl, trivial⟩
    simp only
    have e : form l.length ++ (l.take (i + 1)).flatMap wAttr = form l.length ++ (l.take i).flatMap wAttr ++ wI x.key ++ wVal x.v := by
      rw [flat_take hxi]; unfold wAttr; simp [List.append_assoc]
    rw [e]; exact st6
  · refine ow_cmp (hv := lss_f (by omega)) ?_
    (refine goM ?_)
    refine end_res st.nx rfl ?_
    have : i = l.length := by omega
    subst this
    rw [List.take_length] at st
    exact stA.over st

theorem wF_len (f : Bool) : (wF f).length = 1 := by
  cases f
  · have : wF false = form 0 := rfl
    rw [this, form_small (by decide)]; rfl
  · unfold wF; rw [if_pos rfl, form_small (by decide)]; rfl
theorem flag_src {b : Nat} {f : Bool} {i : Nat} (s : St h0 S h As) (hi : nth As i = some (blk b (.cells (bytesV (wF f)) 0))) : firstCells h 1 (wF f).length (.slice (some ⟨b, 0, none⟩) 1 1) = some (bytesV (wF f)) ∧ Go.Mir.lenOf (.slice (some ⟨b, 0, none⟩) 1 1) = some (wF f).length := by
  have := blk_src s hi rfl (by rw [wF_len]; decide) (by rw [wF_len]; decide)
  rw [wF_len] at this ⊢
  exact this

set_option maxHeartbeats 4000000 in
theorem rpatch_ev {v : Value} {l : List PChg} (q : Sl h S 6 RChg v l) (hok : ∀ a ∈ l, a.okR) (hl : (wL wChg l).length ≤ 2 ^ 38) (st : St h0 S h As) : Cal cxo 76 [v] h (fun r h' => St h0 S h' (BufB r (wL wChg l) :: As)) := by
  have stA := st
  have st := st.rebase
  have q0 := q
  obtain ⟨a, n, c, rfl, hn, h62⟩ := q.inv
  obtain ⟨hc, h62, _⟩ := h62
  subst hn
  unfold wL at hl
  rw [List.length_append] at hl
  refine cal_intro (C := cxo) rfl rfl rfl rfl ?_
  (refine goM ?_)
  refine ow_call ((wrap_u64 (n := (l.length : Int)) (by omega)).symm ▸ form_ev (n := l.length) (by omega) st) ?_; intro r h1 st1
  (refine goM ?_)
  refine WK.weak (L' := [(0, .slice a l.length c), (3, r), (4, .int .i64 ((0 : Nat) : Int))]) ?_ ⟨rfl, rfl, rfl, trivial⟩
  refine wk_inv (ι := Value × Nat × H) (fun s => [(0, .slice a l.length c), (3, s.1), (4, .int .i64 (s.2.1 : Int))]) (fun s => s.2.2) (fun s => s.2.1 ≤ l.length ∧ St h S s.2.2 (BufB s.1 (form l.length ++ (l.take s.2.1).flatMap wChg) :: As)) (fun s => l.length - s.2.1) ?_ (r, 0, h1) ⟨Nat.zero_le _, by simpa using st1⟩
  rintro ⟨v, i, h2⟩ ⟨hi, st⟩ ih
  simp only at hi st ih ⊢
  (refine goM ?_)
  by_cases hlt : i < l.length
  · refine ow_cmp (hv := lss_t (by omega)) ?_
    (refine goM ?_)
    obtain ⟨b, o, x, xcs, rfl, hS, hcap, hxi, hxl, rfl, hrd⟩ := q0.at hlt
    have hmem : x ∈ l := List.mem_of_getElem? hxi
    have hle := flat_take_le (w := wChg) hxi
    have hwx : (wChg x).length = (wI x.key).length + ((wF x.gone).length + (wVal x.v).length) := by unfold wChg; rw [List.length_append, List.length_append]
    have hsv := wVal_len x.v
    have hrd2 : h2.read ⟨b, o + i * 6, none⟩ 6 = some x.cells := by rw [st.read hS]; exact hrd
    refine ow_index hlt hcap ?_
    (refine goM ?_)
    refine ow_load (v := .int .i64 x.key) (read_load hrd2 (k := 0) (by decide)) ?_
    refine ow_call (whole_ev (hok x hmem).1 st) ?_; intro r3 h3 st3
    refine st_appB (p := form l.length ++ (l.take i).flatMap wChg) (l := wI x.key) 1 (buf_src st3 (i := 0) rfl) (by rw [List.length_append]; omega) st3 ?_; intro v4 h4 st4
    (refine goM ?_)
    have st4 := st4.drop 1 rfl
    have hrd4 : h4.read ⟨b, o + i * 6, none⟩ 6 = some x.cells := by rw [st4.read hS]; exact hrd
    refine ow_index hlt hcap ?_
    (refine goM ?_)
    refine ow_load (v := .bool x.gone) (read_load hrd4 (k := 1) (by decide)) ?_
    refine ow_call (rflag_ev st4) ?_; rintro _ h7 ⟨fb, rfl, st7⟩
    refine st_appB (p := form l.length ++ (l.take i).flatMap wChg ++ wI x.key) (l := wF x.gone) 1 (flag_src st7 (i := 0) rfl) (by simp only [List.length_append]; omega) st7 ?_; intro v8 h8 st8
    (refine goM ?_)
    have st8 := st8.drop 1 rfl
    have hrd8 : h8.read ⟨b, o + i * 6, none⟩ 6 = some x.cells := by rw [st8.read hS]; exact hrd
    refine ow_index hlt hcap ?_
    (refine goM ?_)
    refine ow_loadA (cs := x.v.cells) (read_part hrd8 (k := 2) (m := 4) rfl) ?_
    refine ow_call (rvalue_ev (hok x hmem).2 (by omega) st8) ?_; intro r5 h5 st5
    refine st_appB (p := form l.length ++ (l.take i).flatMap wChg ++ wI x.key ++ wF x.gone) (l := wVal x.v) 1 (buf_src st5 (i := 0) rfl) (by simp only [List.length_append]; omega) st5 ?_; intro v6 h6 st6
    (refine goM ?_)
    refine ow_int (hv := add_one (by omega)) ?_
    (refine goM ?_)
    have st6 := st6.drop 1 rfl
    refine dn_loop ?_
    refine (ih (v6, i + 1, h6) ⟨hlt, ?_⟩ (by simp only; omega)).weak ⟨rfl, rfl, rfl, trivial⟩
    simp only
    have e : form l.length ++ (l.take (i + 1)).flatMap wChg = form l.length ++ (l.take i).flatMap wChg ++ wI x.key ++ wF x.gone ++ wVal x.v := by
      rw [flat_take hxi]; unfold wChg; simp [List.append_assoc]
    rw [e]; exact st6
  · refine ow_cmp (hv := lss_f (by omega)) ?_
    (refine goM ?_)
    refine end_res st.nx rfl ?_
    have : i = l.length := by omega
    subst this
    rw [List.take_length] at st
    exact stA.over st
end
end Go.Proofs.YtmaccpaiaidgpaaGreatDoor

/- The reference: which fields a kind has; may a command be. -/
namespace Go.Proofs.YtmaccpaiaidgpaaGreatDoor
open Go Go.Mir
set_option maxRecDepth 10000

def hasV (fs : List UInt8) : Value := .tuple ⟨[.bool (decide (105 ∈ fs)), .bool (decide (106 ∈ fs)), .bool (decide (107 ∈ fs)), .bool (decide (111 ∈ fs)), .bool (decide (98 ∈ fs)), .bool (decide (112 ∈ fs)), .bool (!decide (fs = []))]⟩

set_option maxHeartbeats 4000000 in
theorem Has_ev {h : H} {k : Int} : Cal cxo 74 [.int .u8 k] h (fun r h' => h = h' ∧ r = hasV (fieldsOf k)) := by
  by_cases h1 : k = 1
  · subst h1
    refine cal_intro (C := cxo) rfl rfl rfl rfl ?_
    (refine goA ?_)
    exact end_res (Nat.le_refl _) rfl ⟨rfl, rfl⟩
  by_cases h2 : k = 2
  · subst h2
    refine cal_intro (C := cxo) rfl rfl rfl rfl ?_
    (refine goA ?_)
    exact end_res (Nat.le_refl _) rfl ⟨rfl, rfl⟩
  by_cases h3 : k = 3
  · subst h3
    refine cal_intro (C := cxo) rfl rfl rfl rfl ?_
    (refine goA ?_)
    exact end_res (Nat.le_refl _) rfl ⟨rfl, rfl⟩
  by_cases h4 : k = 4
  · subst h4
    refine cal_intro (C := cxo) rfl rfl rfl rfl ?_
    (refine goA ?_)
    exact end_res (Nat.le_refl _) rfl ⟨rfl, rfl⟩
  by_cases h5 : k = 5
  · subst h5
    refine cal_intro (C := cxo) rfl rfl rfl rfl ?_
    (refine goA ?_)
    exact end_res (Nat.le_refl _) rfl ⟨rfl, rfl⟩
  by_cases h6 : k = 6
  · subst h6
    refine cal_intro (C := cxo) rfl rfl rfl rfl ?_
    (refine goA ?_)
    exact end_res (Nat.le_refl _) rfl ⟨rfl, rfl⟩
  by_cases h7 : k = 7
  · subst h7
    refine cal_intro (C := cxo) rfl rfl rfl rfl ?_
    (refine goA ?_)
    exact end_res (Nat.le_refl _) rfl ⟨rfl, rfl⟩
  by_cases h8 : k = 8
  · subst h8
    refine cal_intro (C := cxo) rfl rfl rfl rfl ?_
    (refine goA ?_)
    exact end_res (Nat.le_refl _) rfl ⟨rfl, rfl⟩
  by_cases h9 : k = 9
  · subst h9
    refine cal_intro (C := cxo) rfl rfl rfl rfl ?_
    (refine goA ?_)
    exact end_res (Nat.le_refl _) rfl ⟨rfl, rfl⟩
  by_cases h10 : k = 10
  · subst h10
    refine cal_intro (C := cxo) rfl rfl rfl rfl ?_
    (refine goA ?_)
    exact end_res (Nat.le_refl _) rfl ⟨rfl, rfl⟩
  by_cases h11 : k = 11
  · subst h11
    refine cal_intro (C := cxo) rfl rfl rfl rfl ?_
    (refine goA ?_)
    exact end_res (Nat.le_refl _) rfl ⟨rfl, rfl⟩
  by_cases h12 : k = 12
  · subst h12
    refine cal_intro (C := cxo) rfl rfl rfl rfl ?_
    (refine goA ?_)
    exact end_res (Nat.le_refl _) rfl ⟨rfl, rfl⟩
  by_cases h13 : k = 13
  · subst h13
    refine cal_intro (C := cxo) rfl rfl rfl rfl ?_
    (refine goA ?_)
    exact end_res (Nat.le_refl _) rfl ⟨rfl, rfl⟩
  by_cases h14 : k = 14
  · subst h14
    refine cal_intro (C := cxo) rfl rfl rfl rfl ?_
    (refine goA ?_)
    exact end_res (Nat.le_refl _) rfl ⟨rfl, rfl⟩
  by_cases h15 : k = 15
  · subst h15
    refine cal_intro (C := cxo) rfl rfl rfl rfl ?_
    (refine goA ?_)
    exact end_res (Nat.le_refl _) rfl ⟨rfl, rfl⟩
  by_cases h16 : k = 16
  · subst h16
    refine cal_intro (C := cxo) rfl rfl rfl rfl ?_
    (refine goA ?_)
    exact end_res (Nat.le_refl _) rfl ⟨rfl, rfl⟩
  by_cases h17 : k = 17
  · subst h17
    refine cal_intro (C := cxo) rfl rfl rfl rfl ?_
    (refine goA ?_)
    exact end_res (Nat.le_refl _) rfl ⟨rfl, rfl⟩
  by_cases h18 : k = 18
  · subst h18
    refine cal_intro (C := cxo) rfl rfl rfl rfl ?_
    (refine goA ?_)
    exact end_res (Nat.le_refl _) rfl ⟨rfl, rfl⟩
  by_cases h19 : k = 19
  · subst h19
    refine cal_intro (C := cxo) rfl rfl rfl rfl ?_
    (refine goA ?_)
    exact end_res (Nat.le_refl _) rfl ⟨rfl, rfl⟩
  by_cases h20 : k = 20
  · subst h20
    refine cal_intro (C := cxo) rfl rfl rfl rfl ?_
    (refine goA ?_)
    exact end_res (Nat.le_refl _) rfl ⟨rfl, rfl⟩
  by_cases h21 : k = 21
  · subst h21
    refine cal_intro (C := cxo) rfl rfl rfl rfl ?_
    (refine goA ?_)
    exact end_res (Nat.le_refl _) rfl ⟨rfl, rfl⟩
  have hf : fieldsOf k = [] := by
    unfold fieldsOf
    rw [if_neg h1, if_neg h2, if_neg h3, if_neg h4, if_neg h5, if_neg h6, if_neg h7, if_neg h8, if_neg h9, if_neg h10, if_neg (by omega), if_neg h19, if_neg h20, if_neg h21]
  rw [hf]
  refine cal_intro (C := cxo) rfl rfl rfl rfl ?_
  (refine goM ?_)
  refine ow_cmp (hv := eql_f h1) ?_
  (refine goM ?_)
  refine ow_cmp (hv := eql_f h2) ?_
  (refine goM ?_)
  refine ow_cmp (hv := eql_f h3) ?_
  (refine goM ?_)
  refine ow_cmp (hv := eql_f h4) ?_
  (refine goM ?_)
  refine ow_cmp (hv := eql_f h8) ?_
  (refine goM ?_)
  refine ow_cmp (hv := eql_f h9) ?_
  (refine goM ?_)
  refine ow_cmp (hv := eql_f h5) ?_
  (refine goM ?_)
  refine ow_cmp (hv := eql_f h6) ?_
  (refine goM ?_)
  refine ow_cmp (hv := eql_f h7) ?_
  (refine goM ?_)
  refine ow_cmp (hv := eql_f h10) ?_
  (refine goM ?_)
  refine ow_cmp (hv := eql_f h19) ?_
  (refine goM ?_)
  refine ow_cmp (hv := eql_f h20) ?_
  (refine goM ?_)
  refine ow_cmp (hv := eql_f h11) ?_
  (refine goM ?_)
  refine ow_cmp (hv := eql_f h12) ?_
  (refine goM ?_)
  refine ow_cmp (hv := eql_f h13) ?_
  (refine goM ?_)
  refine ow_cmp (hv := eql_f h14) ?_
  (refine goM ?_)
  refine ow_cmp (hv := eql_f h15) ?_
  (refine goM ?_)
  refine ow_cmp (hv := eql_f h16) ?_
  (refine goM ?_)
  refine ow_cmp (hv := eql_f h17) ?_
  (refine goM ?_)
  refine ow_cmp (hv := eql_f h18) ?_
  (refine goM ?_)
  refine ow_cmp (hv := eql_f h21) ?_
  (refine goM ?_)
  exact end_res (Nat.le_refl _) rfl ⟨rfl, rfl⟩
end Go.Proofs.YtmaccpaiaidgpaaGreatDoor

/- The reference: may a command, a script be. -/
namespace Go.Proofs.YtmaccpaiaidgpaaGreatDoor
open Go Go.Mir
set_option maxRecDepth 10000

theorem mayC_bare {c : PCmd} (h : mayC c) : BareL (fieldsOf c.kind) c := by
  obtain ⟨_, e⟩ := h
  have f1 := congrArg PCmd.i e
  have f2 := congrArg PCmd.j e
  have f3 := congrArg PCmd.key e
  have f4 := congrArg PCmd.by' e
  have f5 := congrArg PCmd.ops e
  have f6 := congrArg PCmd.bytes e
  have f7 := congrArg PCmd.patch e
  simp only [bareC] at f1 f2 f3 f4 f5 f6 f7
  refine ⟨fun q => ?_, fun q => ?_, fun q => ?_, fun q => ?_, fun q => ?_, fun q => ?_, fun q => ?_⟩
  · rw [f1, if_neg q]
  · rw [f2, if_neg q]
  · rw [f3, if_neg q]
  · rw [f4, if_neg q]
  · rw [f5, if_neg q]
  · rw [f6, if_neg q]
  · rw [f7, if_neg q]


section
variable {h0 h : H} {S : Nat → Prop} {As : List Asn}

set_option maxHeartbeats 8000000 in
theorem may_ev {c : PCmd} {cs : List Value} (q : RCmd h S c cs) (hm : mayC c) (st : St h0 S h As) : Cal cxo 70 [.agg ⟨cs⟩] h (fun r h' => r = .bool true ∧ St h0 S h' As) := by
  have stA := st
  have st := st.rebase
  obtain ⟨o, bt, p, rfl, q1, q2, q3⟩ := q
  obtain ⟨oa, on, oc, rfl, on2, _⟩ := q1
  obtain ⟨ta, tn, tc, rfl, tn2, _⟩ := q2
  obtain ⟨pa, pn, pc, rfl, pn2, _⟩ := q3
  obtain ⟨e1, e2, e3, e4, e5, e6, e7⟩ := mayC_bare hm
  have hne := hm.1
  obtain ⟨k, hk⟩ : ∃ k, k = fieldsOf c.kind := ⟨_, rfl⟩
  have mem := fields_forms c.kind
  have has := Has_ev (h := h) (k := c.kind)
  rw [← hk] at e1 e2 e3 e4 e5 e6 e7 hne mem
  have e5 : 111 ∉ k → ((on : Nat) : Int) = 0 := fun q => by rw [on2, e5 q]; rfl
  have e6 : 98 ∉ k → ((tn : Nat) : Int) = 0 := fun q => by rw [tn2, e6 q]; rfl
  have e7 : 112 ∉ k → ((pn : Nat) : Int) = 0 := fun q => by rw [pn2, e7 q]; rfl
  refine cal_intro (C := cxo) rfl rfl rfl rfl ?_
  (refine goM ?_)
  refine st_box st ?_; intro b h1 st
  (refine goM ?_)
  refine st_load (i := 0) st ?_
  refine ow_call Has_ev ?_; rintro _ _ ⟨rfl, rfl⟩
  rw [← hk]
  simp only [forms, List.mem_cons, List.not_mem_nil, or_false] at mem
  rcases mem with rfl | rfl | rfl | rfl | rfl | rfl | rfl | rfl | rfl
  · exact absurd rfl hne
  all_goals
    skip
    repeat (first | refine ow_move ?_ | refine ow_assign ?_ | refine ow_field ?_ | refine wk_seq ?_ | refine wk_region ?_ | refine ow_nil ?_ | refine dn_seq ?_ | refine dn_block ?_ | refine ow_extract ?_ | refine ow_nilCheck ?_ | refine ow_len ?_ | refine ow_lenS ?_ | refine ow_conv ?_ | refine ow_func ?_ | refine ow_not ?_ | refine ow_pickT ?_ | refine ow_pickF ?_ | refine ow_off ?_ | refine wk_block ?_ | refine wk_skip ?_ | refine wk_true ?_ | refine wk_false ?_ | refine wk_exit ?_ | refine dx_seq ?_ | refine dx_loop ?_ | refine dx_here ?_ | refine dx_on ?_ | refine wk_ret ?_ | refine dr_seq ?_ | refine dr_block ?_ | refine dr_loop ?_ | refine wk_scope ?_ | refine st_load (i := 0) st ?_ | refine ow_cmp (hv := neq_f (e1 (by decide))) ?_ | refine ow_cmp (hv := neq_f (e2 (by decide))) ?_ | refine ow_cmp (hv := neq_f (e3 (by decide))) ?_ | refine ow_cmp (hv := neq_f (e4 (by decide))) ?_ | refine ow_cmp (hv := eql_t (e5 (by decide))) ?_ | refine ow_cmp (hv := eql_t (e6 (by decide))) ?_ | refine ow_cmp (hv := eql_t (e7 (by decide))) ?_)
    exact end_res st.nx rfl ⟨rfl, stA.over (st.drop 0 rfl)⟩
end
end Go.Proofs.YtmaccpaiaidgpaaGreatDoor

/- The reference: may a script be. -/
namespace Go.Proofs.YtmaccpaiaidgpaaGreatDoor
open Go Go.Mir
set_option maxRecDepth 10000

section
variable {h0 h : H} {S : Nat → Prop} {As : List Asn}

set_option maxHeartbeats 2000000 in
theorem rmay_ev {s : PScr} {cs : List Value} (q : RScr h S s cs) (hm : mayS s) (st : St h0 S h As) : Cal cxo 25 [.agg ⟨cs⟩] h (fun r h' => r = .bool true ∧ St h0 S h' As) := by
  have stA := st
  have st := st.rebase
  obtain ⟨kv, cv, rfl, _, qc⟩ := q
  have qc0 := qc
  obtain ⟨a, n, c, rfl, hn, hc, h62, _⟩ := qc
  subst hn
  refine cal_intro (C := cxo) rfl rfl rfl rfl ?_
  (refine goM ?_)
  refine st_box st ?_; intro b h1 st
  (refine goM ?_)
  refine WK.weak (L' := [(1, .pointer (some ⟨b, 0, none⟩)), (3, .int .i64 ((0 : Nat) : Int))]) ?_ ⟨rfl, rfl, trivial⟩
  refine wk_inv (ι := Nat × H) (fun s => [(1, .pointer (some ⟨b, 0, none⟩)), (3, .int .i64 (s.1 : Int))]) (fun s => s.2) (fun z => z.1 ≤ s.cmds.length ∧ St h S z.2 (blk b (.cells [kv, .int .i64 s.maxLen, .int .i64 s.maxUndo, .slice a s.cmds.length c] 0) :: As)) (fun z => s.cmds.length - z.1) ?_ (0, h1) ⟨Nat.zero_le _, st⟩
  rintro ⟨i, h2⟩ ⟨hi, st⟩ ih
  simp only at hi st ih ⊢
  (refine goM ?_)
  refine st_load (i := 0) st ?_
  (refine goM ?_)
  by_cases hlt : i < s.cmds.length
  · refine ow_cmp (hv := lss_t (by omega)) ?_
    (refine goM ?_)
    obtain ⟨b3, o, x, xcs, rfl, hS, hcap, hxi, hxl, hR, hrd⟩ := qc0.at hlt
    have hrd2 : h2.read ⟨b3, o + i * 8, none⟩ 8 = some xcs := by rw [st.read hS]; exact hrd
    refine st_load (i := 0) st ?_
    (refine goM ?_)
    refine ow_index hlt hcap ?_
    refine ow_loadA hrd2 ?_
    refine ow_call (may_ev (hR.gr st.gr) (hm x (List.mem_of_getElem? hxi)) st) ?_; rintro _ h3 ⟨rfl, st3⟩
    (refine goM ?_)
    refine ow_int (hv := add_one (by omega)) ?_
    (refine goM ?_)
    refine dn_loop ?_
    exact (ih (i + 1, h3) ⟨hlt, st3⟩ (by simp only; omega)).weak ⟨rfl, rfl, trivial⟩
  · refine ow_cmp (hv := lss_f (by omega)) ?_
    (refine goM ?_)
    exact end_res st.nx rfl ⟨rfl, stA.over (st.drop 0 rfl)⟩
end
end Go.Proofs.YtmaccpaiaidgpaaGreatDoor

