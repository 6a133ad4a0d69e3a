/- The reference compares and copies scripts; may a script be, both answers. -/
import Derived.Test.YtmaccpaiaidgpaaGreatDoorEqA
import Derived.Test.YtmaccpaiaidgpaaGreatDoorScrA
import Derived.Test.YtmaccpaiaidgpaaGreatDoorReadB
import Derived.Test.YtmaccpaiaidgpaaGreatDoorLawZ
import Derived.Test.YtmaccpaiaidgpaaGreatDoorRefA
/- The reference compares: changes, attributes, runes, ops. -/
namespace Go.Proofs.YtmaccpaiaidgpaaGreatDoor
open Go Go.Mir
set_option maxRecDepth 10000
theorem take_eq_iff {α : Type} {xs ys : List α} {i : Nat} {y z : α} (hy : xs[i]? = some y) (hz : ys[i]? = some z) (he : xs.take i = ys.take i) : xs.take (i + 1) = ys.take (i + 1) ↔ y = z := by
  rw [List.take_add_one, List.take_add_one, hy, hz, he]; simp

theorem rsm_chg {h : H} {S : Nat → Prop} {va vb : Value} {xs ys : List PChg} (qa : Sl h S 6 (LChg h S) va xs) (qb : Sl h S 6 (LChg h S) vb ys) : Cal cxo 69 [va, vb] h (fun r h' => h = h' ∧ ∃ b, r = .bool b ∧ (b = true ↔ xs = ys)) := by
  have qa0 := qa
  have qb0 := qb
  obtain ⟨a, n, c, rfl, hn, hcc, h62, _⟩ := qa
  obtain ⟨a2, n2, c2, rfl, hn2, hcc2, h622, _⟩ := qb
  subst hn hn2
  refine cal_intro (C := cxo) rfl rfl rfl rfl ?_
  by_cases hlen : xs.length = ys.length
  · refine go ?_
    refine WK.weak (L' := [(0, .slice a xs.length c), (1, .slice a2 ys.length c2), (5, .int .i64 ((0 : Nat) : Int))]) ?_ ⟨rfl, rfl, rfl, trivial⟩
    refine wk_inv (ι := Nat) (fun i => [(0, .slice a xs.length c), (1, .slice a2 ys.length c2), (5, .int .i64 (i : Int))]) (fun _ => h) (fun i => i ≤ xs.length ∧ xs.take i = ys.take i) (fun i => xs.length - i) ?_ 0 ⟨Nat.zero_le _, by simp⟩
    rintro i ⟨hi, he⟩ ih
    by_cases hlt : i < xs.length
    · have hlt2 : i < ys.length := by omega
      obtain ⟨b, o, y, ycs, rfl, hS, hcap, hyi, hyl, hR, hrd⟩ := qa0.at hlt
      obtain ⟨b2, o2, z, zcs, rfl, hS2, hcap2, hzi, hzl, hR2, hrd2⟩ := qb0.at hlt2
      obtain rfl : ycs = y.cells := hR
      obtain rfl : zcs = z.cells := hR2
      have hnext := take_eq_iff hyi hzi he
      refine go ?_
      refine ow_eq (hv := neq_chg y z) ?_
      cases hq : eqChg y z with
      | true =>
        refine go ?_
        refine dn_loop ?_
        exact (ih (i + 1) ⟨hlt, hnext.2 ((eqChg_iff y z).1 hq)⟩ (by omega)).weak ⟨rfl, rfl, rfl, trivial⟩
      | false =>
        refine go ?_
        refine end_res (Nat.le_refl _) rfl ⟨rfl, false, rfl, ⟨(fun q => nomatch q), fun q => ?_⟩⟩
        have := hnext.1 (by rw [q])
        rw [(eqChg_iff y z).2 this] at hq
        cases hq
    · have hi2 : i = xs.length := by omega
      refine go ?_
      refine end_res (Nat.le_refl _) rfl ⟨rfl, true, rfl, ⟨fun _ => ?_, fun _ => rfl⟩⟩
      rw [hi2, List.take_length, hlen, List.take_length] at he
      exact he
  · refine go ?_
    exact end_res (Nat.le_refl _) rfl ⟨rfl, false, rfl, ⟨(fun q => nomatch q), fun q => absurd (by rw [q]) hlen⟩⟩

theorem rsm_attr {h : H} {S : Nat → Prop} {va vb : Value} {xs ys : List PAttr} (qa : Sl h S 5 (LAttr h S) va xs) (qb : Sl h S 5 (LAttr h S) vb ys) : Cal cxo 147 [va, vb] h (fun r h' => h = h' ∧ ∃ b, r = .bool b ∧ (b = true ↔ xs = ys)) := by
  have qa0 := qa
  have qb0 := qb
  obtain ⟨a, n, c, rfl, hn, hcc, h62, _⟩ := qa
  obtain ⟨a2, n2, c2, rfl, hn2, hcc2, h622, _⟩ := qb
  subst hn hn2
  refine cal_intro (C := cxo) rfl rfl rfl rfl ?_
  by_cases hlen : xs.length = ys.length
  · refine go ?_
    refine WK.weak (L' := [(0, .slice a xs.length c), (1, .slice a2 ys.length c2), (5, .int .i64 ((0 : Nat) : Int))]) ?_ ⟨rfl, rfl, rfl, trivial⟩
    refine wk_inv (ι := Nat) (fun i => [(0, .slice a xs.length c), (1, .slice a2 ys.length c2), (5, .int .i64 (i : Int))]) (fun _ => h) (fun i => i ≤ xs.length ∧ xs.take i = ys.take i) (fun i => xs.length - i) ?_ 0 ⟨Nat.zero_le _, by simp⟩
    rintro i ⟨hi, he⟩ ih
    by_cases hlt : i < xs.length
    · have hlt2 : i < ys.length := by omega
      obtain ⟨b, o, y, ycs, rfl, hS, hcap, hyi, hyl, hR, hrd⟩ := qa0.at hlt
      obtain ⟨b2, o2, z, zcs, rfl, hS2, hcap2, hzi, hzl, hR2, hrd2⟩ := qb0.at hlt2
      obtain rfl : ycs = y.cells := hR
      obtain rfl : zcs = z.cells := hR2
      have hnext := take_eq_iff hyi hzi he
      refine go ?_
      refine ow_eq (hv := neq_attr y z) ?_
      cases hq : eqAttr y z with
      | true =>
        refine go ?_
        refine dn_loop ?_
        exact (ih (i + 1) ⟨hlt, hnext.2 ((eqAttr_iff y z).1 hq)⟩ (by omega)).weak ⟨rfl, rfl, rfl, trivial⟩
      | false =>
        refine go ?_
        refine end_res (Nat.le_refl _) rfl ⟨rfl, false, rfl, ⟨(fun q => nomatch q), fun q => ?_⟩⟩
        have := hnext.1 (by rw [q])
        rw [(eqAttr_iff y z).2 this] at hq
        cases hq
    · have hi2 : i = xs.length := by omega
      refine go ?_
      refine end_res (Nat.le_refl _) rfl ⟨rfl, true, rfl, ⟨fun _ => ?_, fun _ => rfl⟩⟩
      rw [hi2, List.take_length, hlen, List.take_length] at he
      exact he
  · refine go ?_
    exact end_res (Nat.le_refl _) rfl ⟨rfl, false, rfl, ⟨(fun q => nomatch q), fun q => absurd (by rw [q]) hlen⟩⟩

theorem rsm_rune {h : H} {S : Nat → Prop} {va vb : Value} {xs ys : List Int} (qa : Sl h S 1 RRune va xs) (qb : Sl h S 1 RRune vb ys) : Cal cxo 146 [va, vb] h (fun r h' => h = h' ∧ ∃ b, r = .bool b ∧ (b = true ↔ xs = ys)) := by
  have qa0 := qa
  have qb0 := qb
  obtain ⟨a, n, c, rfl, hn, hcc, h62, _⟩ := qa
  obtain ⟨a2, n2, c2, rfl, hn2, hcc2, h622, _⟩ := qb
  subst hn hn2
  refine cal_intro (C := cxo) rfl rfl rfl rfl ?_
  by_cases hlen : xs.length = ys.length
  · refine go ?_
    refine WK.weak (L' := [(0, .slice a xs.length c), (1, .slice a2 ys.length c2), (5, .int .i64 ((0 : Nat) : Int))]) ?_ ⟨rfl, rfl, rfl, trivial⟩
    refine wk_inv (ι := Nat) (fun i => [(0, .slice a xs.length c), (1, .slice a2 ys.length c2), (5, .int .i64 (i : Int))]) (fun _ => h) (fun i => i ≤ xs.length ∧ xs.take i = ys.take i) (fun i => xs.length - i) ?_ 0 ⟨Nat.zero_le _, by simp⟩
    rintro i ⟨hi, he⟩ ih
    by_cases hlt : i < xs.length
    · have hlt2 : i < ys.length := by omega
      obtain ⟨b, o, y, ycs, rfl, hS, hcap, hyi, hyl, hR, hrd⟩ := qa0.at hlt
      obtain ⟨b2, o2, z, zcs, rfl, hS2, hcap2, hzi, hzl, hR2, hrd2⟩ := qb0.at hlt2
      obtain rfl : ycs = [.int .i32 y] := hR
      obtain rfl : zcs = [.int .i32 z] := hR2
      have g1 := read_load hrd (k := 0) (by decide)
      have g2 := read_load hrd2 (k := 0) (by decide)
      have hnext := take_eq_iff hyi hzi he
      by_cases hq : y = z
      · refine go ?_
        refine dn_loop ?_
        exact (ih (i + 1) ⟨hlt, hnext.2 hq⟩ (by omega)).weak ⟨rfl, rfl, rfl, trivial⟩
      · refine go ?_
        exact end_res (Nat.le_refl _) rfl ⟨rfl, false, rfl, ⟨(fun q => nomatch q), fun q => absurd (hnext.1 (by rw [q])) hq⟩⟩
    · have hi2 : i = xs.length := by omega
      refine go ?_
      refine end_res (Nat.le_refl _) rfl ⟨rfl, true, rfl, ⟨fun _ => ?_, fun _ => rfl⟩⟩
      rw [hi2, List.take_length, hlen, List.take_length] at he
      exact he
  · refine go ?_
    exact end_res (Nat.le_refl _) rfl ⟨rfl, false, rfl, ⟨(fun q => nomatch q), fun q => absurd (by rw [q]) hlen⟩⟩

section
variable {h0 h : H} {S : Nat → Prop} {As : List Asn}
theorem slRune_gr {h' : H} {S' : Nat → Prop} {v : Value} {xs : List Int} (q : Sl h S 1 RRune v xs) (g : Gr S h S' h') : Sl h' S' 1 RRune v xs := q.gr g

set_option maxHeartbeats 4000000 in
theorem rsm_op {va vb : Value} {xs ys : List POp} (qa : Sl h S 5 (Go.Mir.ROp h S) va xs) (qb : Sl h S 5 (Go.Mir.ROp h S) vb ys) (st : St h0 S h As) : Cal cxo 68 [va, vb] h (fun r h' => ∃ b, r = .bool b ∧ (b = true ↔ xs = ys) ∧ St h0 S h' As) := by
  have stA := st
  have st := st.rebase
  have qa0 := qa
  have qb0 := qb
  obtain ⟨a, n, c, rfl, hn, hcc, h62, _⟩ := qa
  obtain ⟨a2, n2, c2, rfl, hn2, hcc2, h622, _⟩ := qb
  subst hn hn2
  refine cal_intro (C := cxo) rfl rfl rfl rfl ?_
  by_cases hlen : xs.length = ys.length
  · refine go ?_
    refine WK.weak (L' := [(0, .slice a xs.length c), (1, .slice a2 ys.length c2), (5, .int .i64 ((0 : Nat) : Int))]) ?_ ⟨rfl, rfl, rfl, trivial⟩
    refine wk_inv (ι := Nat × H) (fun z => [(0, .slice a xs.length c), (1, .slice a2 ys.length c2), (5, .int .i64 (z.1 : Int))]) (fun z => z.2) (fun z => z.1 ≤ xs.length ∧ xs.take z.1 = ys.take z.1 ∧ St h S z.2 As) (fun z => xs.length - z.1) ?_ (0, h) ⟨Nat.zero_le _, by simp, st⟩
    clear st
    rintro ⟨i, h2⟩ ⟨hi, he, st⟩ ih
    simp only at hi he st ih ⊢
    by_cases hlt : i < xs.length
    · have hlt2 : i < ys.length := by omega
      obtain ⟨b, o, y, ycs, rfl, hS, hcap, hyi, hyl, ⟨r1, s1, p1, rfl, qr1, qs1, qp1⟩, hrd⟩ := qa0.at hlt
      obtain ⟨b2, o2, z, zcs, rfl, hS2, hcap2, hzi, hzl, ⟨r2, s2, p2, rfl, qr2, qs2, qp2⟩, hrd2⟩ := qb0.at hlt2
      have hnext := take_eq_iff hyi hzi he
      have kr1 := qr1
      have ks1 := qs1
      have kp1 := qp1
      have kr2 := qr2
      have ks2 := qs2
      have kp2 := qp2
      obtain ⟨_, _, _, rfl, _⟩ := qr1
      obtain ⟨_, _, _, rfl, _⟩ := qs1
      obtain ⟨_, _, _, rfl, _⟩ := qp1
      obtain ⟨_, _, _, rfl, _⟩ := qr2
      obtain ⟨_, _, _, rfl, _⟩ := qs2
      obtain ⟨_, _, _, rfl, _⟩ := qp2
      have no : y ≠ z → xs ≠ ys := fun q e => q (hnext.1 (by rw [e]))
      refine go ?_
      refine st_alloc st ?_; intro b6 h3 st
      refine st_alloc st ?_; intro b7 h4 st
      refine st_put st ?_; intro h5 st
      refine st_put st ?_; intro h6 st
      refine goE ?_
      by_cases f1 : y.kind = z.kind
      · by_cases f2 : y.n = z.n
        · refine go ?_
          refine ow_call (rsm_rune (kr1.gr st.gr) (kr2.gr st.gr)) ?_; rintro _ _ ⟨rfl, e1, rfl, i1⟩
          cases e1 with
          | false =>
            refine go ?_
            exact end_res st.nx rfl ⟨false, rfl, ⟨(fun q => nomatch q), fun q => absurd q (no fun e => by have := i1.2 (by rw [e]); cases this)⟩, stA.over ((st.drop 0 rfl).drop 0 rfl)⟩
          | true =>
            refine go ?_
            refine ow_call (rsm_attr (ks1.gr st.gr) (ks2.gr st.gr)) ?_; rintro _ _ ⟨rfl, e2, rfl, i2⟩
            cases e2 with
            | false =>
              refine go ?_
              exact end_res st.nx rfl ⟨false, rfl, ⟨(fun q => nomatch q), fun q => absurd q (no fun e => by have := i2.2 (by rw [e]); cases this)⟩, stA.over ((st.drop 0 rfl).drop 0 rfl)⟩
            | true =>
              refine go ?_
              refine ow_call (rsm_chg (kp1.gr st.gr) (kp2.gr st.gr)) ?_; rintro _ _ ⟨rfl, e3, rfl, i3⟩
              cases e3 with
              | false =>
                refine go ?_
                exact end_res st.nx rfl ⟨false, rfl, ⟨(fun q => nomatch q), fun q => absurd q (no fun e => by have := i3.2 (by rw [e]); cases this)⟩, stA.over ((st.drop 0 rfl).drop 0 rfl)⟩
              | true =>
                refine go ?_
                refine dn_loop ?_
                refine (ih (i + 1, h6) ⟨hlt, hnext.2 ?_, (st.drop 0 rfl).drop 0 rfl⟩ (by simp only; omega)).weak ⟨rfl, rfl, rfl, trivial⟩
                have j1 := i1.1 rfl
                have j2 := i2.1 rfl
                have j3 := i3.1 rfl
                obtain ⟨_, _, _, _, _⟩ := y
                obtain ⟨_, _, _, _, _⟩ := z
                simp only at f1 f2 j1 j2 j3
                rw [f1, f2, j1, j2, j3]
        · refine go ?_
          exact end_res st.nx rfl ⟨false, rfl, ⟨(fun q => nomatch q), fun q => absurd q (no fun e => f2 (by rw [e]))⟩, stA.over ((st.drop 0 rfl).drop 0 rfl)⟩
      · refine go ?_
        exact end_res st.nx rfl ⟨false, rfl, ⟨(fun q => nomatch q), fun q => absurd q (no fun e => f1 (by rw [e]))⟩, stA.over ((st.drop 0 rfl).drop 0 rfl)⟩
    · have hi2 : i = xs.length := by omega
      refine go ?_
      refine end_res st.nx rfl ⟨true, rfl, ⟨fun _ => ?_, fun _ => rfl⟩, stA.over st⟩
      rw [hi2, List.take_length, hlen, List.take_length] at he
      exact he
  · refine go ?_
    exact end_res st.nx rfl ⟨false, rfl, ⟨(fun q => nomatch q), fun q => absurd (by rw [q]) hlen⟩, stA.over st⟩
end
end Go.Proofs.YtmaccpaiaidgpaaGreatDoor

/- The reference compares scripts. -/
namespace Go.Proofs.YtmaccpaiaidgpaaGreatDoor
open Go Go.Mir
set_option maxRecDepth 10000
section
variable {h0 h : H} {S : Nat → Prop} {As : List Asn}


set_option maxHeartbeats 16000000 in
theorem rsame_ev {x y : PScr} {cs1 cs2 : List Value} (qx : RScr h S x cs1) (qy : RScr h S y cs2) (st : St h0 S h As) : Cal cxo 24 [.agg ⟨cs1⟩, .agg ⟨cs2⟩] h (fun r h' => ∃ b, r = .bool b ∧ (b = true ↔ x = y) ∧ St h0 S h' As) := by
  have stA := st
  have st := st.rebase
  obtain ⟨xk, xc, rfl, x1, x2⟩ := qx
  obtain ⟨yk, yc, rfl, y1, y2⟩ := qy
  have x1k := x1
  have x2k := x2
  have y1k := y1
  have y2k := y2
  obtain ⟨a1, n1, c1, rfl, hn1, hc1, _, _⟩ := x1
  obtain ⟨a2, n2, c2, rfl, hn2, hc2, h62, _⟩ := x2
  obtain ⟨a3, n3, c3, rfl, hn3, hc3, _, _⟩ := y1
  obtain ⟨a4, n4, c4, rfl, hn4, hc4, _, _⟩ := y2
  subst hn1 hn2 hn3 hn4
  refine cal_intro (C := cxo) rfl rfl rfl rfl ?_
  refine go ?_
  refine st_box st ?_; intro b1 h1 st
  refine st_box st ?_; intro b2 h2 st
  have no : x ≠ y → (x = y → False) := fun q e => q e
  have stB := fun (_ : Unit) => stA.over ((st.drop 0 rfl).drop 0 rfl)
  by_cases f1 : x.keys.length = y.keys.length
  rotate_left
  · refine go ?_
    exact end_res st.nx rfl ⟨false, rfl, ⟨(fun q => nomatch q), fun q => absurd (by rw [q]) f1⟩, stB ()⟩
  by_cases f2 : x.maxLen = y.maxLen
  rotate_left
  · refine go ?_
    exact end_res st.nx rfl ⟨false, rfl, ⟨(fun q => nomatch q), fun q => absurd (by rw [q]) f2⟩, stB ()⟩
  by_cases f3 : x.maxUndo = y.maxUndo
  rotate_left
  · refine go ?_
    exact end_res st.nx rfl ⟨false, rfl, ⟨(fun q => nomatch q), fun q => absurd (by rw [q]) f3⟩, stB ()⟩
  by_cases f4 : x.cmds.length = y.cmds.length
  rotate_left
  · refine go ?_
    exact end_res st.nx rfl ⟨false, rfl, ⟨(fun q => nomatch q), fun q => absurd (by rw [q]) f4⟩, stB ()⟩
  refine go ?_
  refine WK.weak (L' := [(2, .pointer (some ⟨b1, 0, none⟩)), (3, .pointer (some ⟨b2, 0, none⟩)), (5, .int .i64 ((0 : Nat) : Int))]) ?_ ⟨rfl, rfl, rfl, trivial⟩
  refine wk_inv (ι := Nat) (fun i => [(2, .pointer (some ⟨b1, 0, none⟩)), (3, .pointer (some ⟨b2, 0, none⟩)), (5, .int .i64 (i : Int))]) (fun _ => h2) (fun i => i ≤ x.keys.length ∧ x.keys.take i = y.keys.take i) (fun i => x.keys.length - i) ?_ 0 ⟨Nat.zero_le _, by simp⟩
  rintro i ⟨hi, he⟩ ih
  by_cases hlt : i < x.keys.length
  · have hlt2 : i < y.keys.length := by omega
    obtain ⟨b, o, u, ucs, rfl, hS, hcap, hui, hul, hR, hrd⟩ := x1k.at hlt
    obtain ⟨b', o2, z, zcs, rfl, hS2, hcap2, hzi, hzl, hR2, hrd2⟩ := y1k.at hlt2
    obtain rfl : ucs = u.cells := hR
    obtain rfl : zcs = z.cells := hR2
    have hnext := take_eq_iff hui hzi he
    refine go ?_
    refine ow_eq (hv := neq_key u z) ?_
    cases hq : eqKey u z with
    | true =>
      refine go ?_
      refine dn_loop ?_
      exact (ih (i + 1) ⟨hlt, hnext.2 ((eqKey_iff u z).1 hq)⟩ (by omega)).weak ⟨rfl, rfl, rfl, trivial⟩
    | false =>
      refine go ?_
      refine end_res st.nx rfl ⟨false, rfl, ⟨(fun q => nomatch q), fun q => ?_⟩, stB ()⟩
      have := hnext.1 (by rw [q])
      rw [(eqKey_iff u z).2 this] at hq
      cases hq
  have hi2 : i = x.keys.length := by omega
  have hk : x.keys = y.keys := by
    rw [hi2, List.take_length, f1, List.take_length] at he
    exact he
  refine go ?_
  clear ih
  refine WK.weak (L' := [(2, .pointer (some ⟨b1, 0, none⟩)), (3, .pointer (some ⟨b2, 0, none⟩)), (6, .int .i64 ((0 : Nat) : Int))]) ?_ ⟨rfl, rfl, rfl, trivial⟩
  refine wk_inv (ι := Nat × H) (fun z => [(2, .pointer (some ⟨b1, 0, none⟩)), (3, .pointer (some ⟨b2, 0, none⟩)), (6, .int .i64 (z.1 : Int))]) (fun z => z.2) (fun z => z.1 ≤ x.cmds.length ∧ x.cmds.take z.1 = y.cmds.take z.1 ∧ St h S z.2 (blk b2 (.cells [.slice a3 y.keys.length c3, .int .i64 y.maxLen, .int .i64 y.maxUndo, .slice a4 y.cmds.length c4] 0) :: blk b1 (.cells [.slice a1 x.keys.length c1, .int .i64 x.maxLen, .int .i64 x.maxUndo, .slice a2 x.cmds.length c2] 0) :: As)) (fun z => x.cmds.length - z.1) ?_ (0, h2) ⟨Nat.zero_le _, by simp, st⟩
  clear st stB
  rintro ⟨i, h3⟩ ⟨hi, he, st⟩ ih
  simp only at hi he st ih ⊢
  by_cases hlt : i < x.cmds.length
  · have hlt2 : i < y.cmds.length := by omega
    obtain ⟨b, o, u, ucs, rfl, hS, hcap, hui, hul, ⟨o1, t1, p1, rfl, qo1, qt1, qp1⟩, hrd⟩ := x2k.at hlt
    obtain ⟨b', o2, z, zcs, rfl, hS2, hcap2, hzi, hzl, ⟨o3, t2, p2, rfl, qo2, qt2, qp2⟩, hrd2⟩ := y2k.at hlt2
    have hnext := take_eq_iff hui hzi he
    have ko1 := qo1
    have kt1 := qt1
    have kp1 := qp1
    have ko2 := qo2
    have kt2 := qt2
    have kp2 := qp2
    obtain ⟨_, _, _, rfl, _⟩ := qo1
    obtain ⟨_, _, _, rfl, _⟩ := qt1
    obtain ⟨_, _, _, rfl, _⟩ := qp1
    obtain ⟨_, _, _, rfl, _⟩ := qo2
    obtain ⟨_, _, _, rfl, _⟩ := qt2
    obtain ⟨_, _, _, rfl, _⟩ := qp2
    have no : u ≠ z → ¬ x = y := fun q e => q (hnext.1 (by rw [e]))
    refine go ?_
    refine st_alloc st ?_; intro b6 h4 st
    refine st_alloc st ?_; intro b7 h5 st
    refine st_put st ?_; intro h6 st
    refine st_put st ?_; intro h7 st
    refine goE ?_
    have stB := fun (_ : Unit) => stA.over ((((st.drop 0 rfl).drop 0 rfl).drop 0 rfl).drop 0 rfl)
    by_cases g1 : u.kind = z.kind
    rotate_left
    · refine go ?_
      exact end_res st.nx rfl ⟨false, rfl, ⟨(fun q => nomatch q), fun q => absurd q (no fun e => g1 (by rw [e]))⟩, stB ()⟩
    by_cases g2 : u.i = z.i
    rotate_left
    · refine go ?_
      exact end_res st.nx rfl ⟨false, rfl, ⟨(fun q => nomatch q), fun q => absurd q (no fun e => g2 (by rw [e]))⟩, stB ()⟩
    by_cases g3 : u.j = z.j
    rotate_left
    · refine go ?_
      exact end_res st.nx rfl ⟨false, rfl, ⟨(fun q => nomatch q), fun q => absurd q (no fun e => g3 (by rw [e]))⟩, stB ()⟩
    by_cases g4 : u.key = z.key
    rotate_left
    · refine go ?_
      exact end_res st.nx rfl ⟨false, rfl, ⟨(fun q => nomatch q), fun q => absurd q (no fun e => g4 (by rw [e]))⟩, stB ()⟩
    by_cases g5 : u.by' = z.by'
    rotate_left
    · refine go ?_
      exact end_res st.nx rfl ⟨false, rfl, ⟨(fun q => nomatch q), fun q => absurd q (no fun e => g5 (by rw [e]))⟩, stB ()⟩
    refine go ?_
    refine ow_strB (Byt.sl (kt1.gr st.gr)) ?_
    refine go ?_
    refine ow_strB (Byt.sl (kt2.gr st.gr)) ?_
    refine ow_neS ?_
    by_cases g6 : u.bytes = z.bytes
    rotate_left
    · rw [decide_eq_false g6]
      refine go ?_
      exact end_res st.nx rfl ⟨false, rfl, ⟨(fun q => nomatch q), fun q => absurd q (no fun e => g6 (by rw [e]))⟩, stB ()⟩
    rw [decide_eq_true g6]
    refine go ?_
    refine ow_call (rsm_op (slOp_gr ko1 st.gr) (slOp_gr ko2 st.gr) st) ?_; rintro _ h8 ⟨e1, rfl, i1, st⟩
    have stB := fun (_ : Unit) => stA.over ((((st.drop 0 rfl).drop 0 rfl).drop 0 rfl).drop 0 rfl)
    cases e1 with
    | false =>
      refine go ?_
      exact end_res st.nx rfl ⟨false, rfl, ⟨(fun q => nomatch q), fun q => absurd q (no fun e => by have := i1.2 (by rw [e]); cases this)⟩, stB ()⟩
    | true =>
      refine go ?_
      refine ow_call (rsm_chg (kp1.gr st.gr) (kp2.gr st.gr)) ?_; rintro _ _ ⟨rfl, e3, rfl, i3⟩
      cases e3 with
      | false =>
        refine go ?_
        exact end_res st.nx rfl ⟨false, rfl, ⟨(fun q => nomatch q), fun q => absurd q (no fun e => by have := i3.2 (by rw [e]); cases this)⟩, stB ()⟩
      | true =>
        refine go ?_
        refine dn_loop ?_
        refine (ih (i + 1, h8) ⟨hlt, hnext.2 ?_, (st.drop 0 rfl).drop 0 rfl⟩ (by simp only; omega)).weak ⟨rfl, rfl, rfl, trivial⟩
        have j1 := i1.1 rfl
        have j3 := i3.1 rfl
        obtain ⟨_, _, _, _, _, _, _, _⟩ := u
        obtain ⟨_, _, _, _, _, _, _, _⟩ := z
        simp only at g1 g2 g3 g4 g5 g6 j1 j3
        rw [g1, g2, g3, g4, g5, g6, j1, j3]
  · have hi2 : i = x.cmds.length := by omega
    refine go ?_
    refine end_res st.nx rfl ⟨true, rfl, ⟨fun _ => ?_, fun _ => rfl⟩, stA.over ((st.drop 0 rfl).drop 0 rfl)⟩
    rw [hi2, List.take_length, f4, List.take_length] at he
    obtain ⟨_, _, _, _⟩ := x
    obtain ⟨_, _, _, _⟩ := y
    simp only at hk f2 f3 he
    rw [hk, f2, f3, he]
end
end Go.Proofs.YtmaccpaiaidgpaaGreatDoor

/- The reference copies: ops, a script. -/
namespace Go.Proofs.YtmaccpaiaidgpaaGreatDoor
open Go Go.Mir
set_option maxRecDepth 10000
section
variable {h0 h : H} {S : Nat → Prop} {As : List Asn}

theorem one_rune : ∀ (x : Int) cs, RRune x cs → allB oneCell cs = true := fun _ _ e => by rw [show _ = _ from e]; rfl
theorem one_byte : ∀ (x : UInt8) cs, RByte x cs → allB oneCell cs = true := fun _ _ e => by rw [show _ = _ from e]; rfl
theorem one_attr : ∀ (x : PAttr) cs, RAttr x cs → allB oneCell cs = true := fun _ _ e => by rw [show _ = _ from e]; rfl
theorem one_chg : ∀ (x : PChg) cs, RChg x cs → allB oneCell cs = true := fun _ _ e => by rw [show _ = _ from e]; rfl
theorem one_key : ∀ (x : PKey) cs, cs = x.cells → allB oneCell cs = true := fun _ _ e => by rw [e]; rfl

set_option maxHeartbeats 8000000 in
theorem rcopy_op {va : Value} {xs : List POp} (qa : Sl h S 5 (Go.Mir.ROp h S) va xs) (hB : (xs.map nOp).sum < 2 ^ 30) (st : St h S h As) : Cal cxo 79 [va] h (fun r h' => ∃ S', Gr S h S' h' ∧ Sl h' S' 5 (Go.Mir.ROp h' S') r xs ∧ St h' S' h' As) := by
  have qa0 := qa
  obtain ⟨a, n, c, rfl, hn, hcc, h62, _⟩ := qa
  subst hn
  have hlen : xs.length ≤ (xs.map nOp).sum := len_le_sum (f := nOp) (fun x => by unfold nOp; omega) xs
  refine cal_intro (C := cxo) rfl rfl rfl rfl ?_
  refine go ?_
  refine WK.weak (L' := [(0, .slice a xs.length c), (3, .slice none 0 0), (4, .int .i64 ((0 : Nat) : Int))]) ?_ ⟨rfl, rfl, rfl, trivial⟩
  refine wk_inv (ι := Nat × (Nat → Prop) × H × Value × List Value) (fun z => [(0, .slice a xs.length c), (3, z.2.2.2.1), (4, .int .i64 (z.1 : Int))]) (fun z => z.2.2.1)
    (fun z => z.1 ≤ xs.length ∧ Gr S h z.2.1 z.2.2.1 ∧ St z.2.2.1 z.2.1 z.2.2.1 (Buf 5 z.1 z.2.2.2.1 z.2.2.2.2 :: As) ∧ Go.Mir.Rows 5 (Go.Mir.ROp z.2.2.1 z.2.1) z.2.2.2.2 (xs.take z.1)) (fun z => xs.length - z.1) ?_ (0, S, h, .slice none 0 0, []) ⟨Nat.zero_le _, Gr.refl, st.nilBuf, by simp only [List.take_zero]; exact Rows.nil⟩
  clear st
  rintro ⟨i, S1, h1, v, cs⟩ ⟨hi, g1, st, rw1⟩ ih
  simp only at hi g1 st rw1 ih ⊢
  by_cases hlt : i < xs.length
  · obtain ⟨va, vc, rfl⟩ := Buf.lenOf st (i := 0) rfl
    obtain ⟨b, o, y, ycs, rfl, hS, hcap, hyi, hyl, hR, hrd⟩ := (slOp_gr qa0 g1).at hlt
    obtain ⟨r1, s1, p1, rfl, qr1, qs1, qp1⟩ := hR
    have kr1 := qr1
    have ks1 := qs1
    have kp1 := qp1
    obtain ⟨ra, rn, rc, rfl, hrn, _⟩ := qr1
    obtain ⟨sa, sn, sc, rfl, hsn, _⟩ := qs1
    obtain ⟨pa, pn, pc, rfl, hpn, _⟩ := qp1
    subst hrn hsn hpn
    have hy := mem_sum (f := nOp) (List.mem_of_getElem? hyi)
    have hyo : nOp y = 1 + y.runes.length + (y.set.map nAttr).sum + (y.patch.map nChg).sum := rfl
    have l1 := len_le_sum (f := nAttr) (fun x => by unfold nAttr; omega) y.set
    have l2 := len_le_sum (f := nChg) (fun x => by unfold nChg; omega) y.patch
    refine go ?_
    refine st_alloc st ?_; intro b5 h2 st
    refine st_put st ?_; intro h3 st
    refine go ?_
    refine st_buildS st ?_; intro b6 h4 st4
    have st := (st4.drop 0 rfl).nilBuf (w := 1) (a := some ⟨b6, 0, none⟩)
    refine go ?_
    obtain ⟨ys1, e1, e2, e3, e4⟩ := sl_rows one_rune (kr1.gr st.gr)
    refine st_append (w := 1) (y := 4) (n := 0) 0 ⟨e1, e2⟩ e3 e4.1 (by omega) st ?_; intro v6 h5 st5
    obtain ⟨a6, c6, rfl⟩ := Buf.lenOf st5 (i := 0) rfl
    refine go ?_
    refine st_buildS st5 ?_; intro b7 h6 st6
    have st := (st6.drop 0 rfl).nilBuf (w := 5) (a := some ⟨b7, 0, none⟩)
    refine go ?_
    obtain ⟨ys2, e5, e6, e7, e8⟩ := sl_rows one_attr (ks1.gr st.gr)
    refine st_append (w := 5) (y := 48) (n := 0) 0 ⟨e5, e6⟩ e7 e8.1 (by omega) st ?_; intro v7 h7 st7
    obtain ⟨a7, c7, rfl⟩ := Buf.lenOf st7 (i := 0) rfl
    refine go ?_
    refine st_buildS st7 ?_; intro b8 h8 st8
    have st := (st8.drop 0 rfl).nilBuf (w := 6) (a := some ⟨b8, 0, none⟩)
    refine go ?_
    obtain ⟨ys3, e9, e10, e11, e12⟩ := sl_rows one_chg (kp1.gr st.gr)
    refine st_append (w := 6) (y := 56) (n := 0) 0 ⟨e9, e10⟩ e11 e12.1 (by omega) st ?_; intro v8 h9 st9
    obtain ⟨a8, c8, rfl⟩ := Buf.lenOf st9 (i := 0) rfl
    refine go ?_
    refine st_buildS st9 ?_; intro b9 h10 st10
    refine st_append1 (w := 5) (y := 88) (n := i) (v := .slice va i vc) (cs := cs) 5 0 (by omega) st10 ?_; intro v9 h11 st11
    obtain ⟨a9, c9, rfl⟩ := Buf.lenOf st11 (i := 0) rfl
    refine go ?_
    refine goE ?_
    refine go ?_
    refine dn_loop ?_
    obtain ⟨S2, G2, q2, st12⟩ := buf_freeze st11 (i := 4) (xs := y.runes) (R := RRune) rfl (by simpa using e4) (by omega) (by omega)
    obtain ⟨S3, G3, q3, st13⟩ := buf_freeze st12 (i := 3) (xs := y.set) (R := RAttr) rfl (by simpa using e8) (by omega) (by omega)
    obtain ⟨S4, G4, q4, st14⟩ := buf_freeze st13 (i := 2) (xs := y.patch) (R := RChg) rfl (by simpa using e12) (by omega) (by omega)
    have G := st11.gr.trans (G2.trans (G3.trans G4))
    refine (ih (i + 1, S4, h11, _, _) ⟨hlt, g1.trans G, ((st14.drop 2 rfl).drop 1 rfl).rebase, ?_⟩ (by simp only; omega)).weak ⟨rfl, rfl, rfl, trivial⟩
    simp only
    rw [List.take_add_one, hyi]
    simp only [Option.toList_some]
    refine (rw1.mono fun x c q => q.gr G).snoc rfl ⟨_, _, _, rfl, ?_, ?_, ?_⟩
    · simpa using (q2.gr (G3.trans G4))
    · simpa using (q3.gr G4)
    · simpa using q4
  · have hi2 : i = xs.length := by omega
    subst hi2
    rw [List.take_length] at rw1
    refine go ?_
    obtain ⟨S2, G2, q2, st2⟩ := buf_freeze st (i := 0) rfl rw1 rfl h62
    exact end_res (g1.trans G2).1 rfl ⟨S2, g1.trans G2, q2.to (fun a ha => ⟨ha, rfl⟩) (fun x c q => q.gr G2), st2⟩

set_option maxHeartbeats 16000000 in
theorem rcopy_ev {s : PScr} {cs0 : List Value} (q : RScr h S s cs0) (hB : nScr s < 2 ^ 30) (st : St h S h As) : Cal cxo 28 [.agg ⟨cs0⟩] h (fun r h' => ∃ S' cs, r = .agg ⟨cs⟩ ∧ Gr S h S' h' ∧ RScr h' S' s cs ∧ St h' S' h' As) := by
  obtain ⟨k, c, rfl, x1, x2⟩ := q
  have x1k := x1
  have x2k := x2
  obtain ⟨ka, kn, kc, rfl, hkn, _⟩ := x1
  obtain ⟨ca, cn, cc, rfl, hcn, _, hc62, _⟩ := x2
  subst hkn hcn
  have hBk : s.keys.length + s.cmds.length + (s.cmds.map nCmd).sum < 2 ^ 30 := hB
  refine cal_intro (C := cxo) rfl rfl rfl rfl ?_
  refine go ?_
  refine st_box st ?_; intro b1 h1 st
  refine st_alloc st ?_; intro b2 h2 st
  refine go ?_
  refine st_alloc st ?_; intro b3 h3 st
  refine st_put st ?_; intro h4 st
  refine go ?_
  have st := st.nilBuf (w := 6) (a := none)
  obtain ⟨ys1, e1, e2, e3, e4⟩ := sl_rows one_key (x1k.gr st.gr)
  refine st_append (w := 6) (y := 24) (n := 0) 0 ⟨e1, e2⟩ e3 e4.1 (by omega) st ?_; intro v6 h5 st
  obtain ⟨a6, c6, rfl⟩ := Buf.lenOf st (i := 0) rfl
  refine go ?_
  refine st_put st ?_; intro h6 st
  refine go ?_
  obtain ⟨S1, G1, qk, st1⟩ := buf_freeze st (i := 0) (xs := s.keys) (R := LKey h S) rfl (by simpa using e4) (by omega) (by omega)
  have G1 := st.gr.trans G1
  have st1 := st1.nilBuf (w := 8) (a := none)
  refine WK.weak (L' := [(1, .pointer (some ⟨b1, 0, none⟩)), (2, .pointer (some ⟨b2, 0, none⟩)), (3, .pointer (some ⟨b3, 0, none⟩)), (4, .int .i64 ((0 : Nat) : Int))]) ?_ ⟨rfl, rfl, rfl, rfl, trivial⟩
  refine wk_inv (ι := Nat × (Nat → Prop) × H × Value × List Value) (fun z => [(1, .pointer (some ⟨b1, 0, none⟩)), (2, .pointer (some ⟨b2, 0, none⟩)), (3, .pointer (some ⟨b3, 0, none⟩)), (4, .int .i64 (z.1 : Int))]) (fun z => z.2.2.1)
    (fun z => z.1 ≤ s.cmds.length ∧ Gr S h z.2.1 z.2.2.1 ∧ St z.2.2.1 z.2.1 z.2.2.1 (Buf 8 z.1 z.2.2.2.1 z.2.2.2.2 :: blk b3 (.cells [.slice a6 (0 + s.keys.length) c6, .int .i64 s.maxLen, .int .i64 s.maxUndo, z.2.2.2.1] 0) :: blk b2 (.cells [.slice none 0 0, .int .i64 0, .int .i64 0, .slice none 0 0] 0) :: blk b1 (.cells [.slice ka s.keys.length kc, .int .i64 s.maxLen, .int .i64 s.maxUndo, .slice ca s.cmds.length cc] 0) :: As) ∧ Go.Mir.Rows 8 (RCmd z.2.2.1 z.2.1) z.2.2.2.2 (s.cmds.take z.1) ∧ Sl z.2.2.1 z.2.1 6 (LKey z.2.2.1 z.2.1) (.slice a6 (0 + s.keys.length) c6) s.keys) (fun z => s.cmds.length - z.1) ?_ (0, S1, h6, .slice none 0 0, []) ⟨Nat.zero_le _, G1, st1.rebase, by simp only [List.take_zero]; exact Rows.nil, qk⟩
  clear st st1
  rintro ⟨i, S1, h1, v, cs⟩ ⟨hi, g1, st, rw1, qk⟩ ih
  simp only at hi g1 st rw1 qk ih ⊢
  obtain ⟨va, vc, rfl⟩ := Buf.lenOf st (i := 0) rfl
  by_cases hlt : i < s.cmds.length
  · obtain ⟨b, o, y, ycs, rfl, hS, hcap, hyi, hyl, hR, hrd⟩ := (slCmd_gr x2k g1).at hlt
    obtain ⟨o1, t1, p1, rfl, qo, qt, qp⟩ := hR
    have ko := qo
    have kt := qt
    have kp := qp
    obtain ⟨oa, on, oc, rfl, _⟩ := qo
    obtain ⟨ta, tn, tc, rfl, htn, _⟩ := qt
    obtain ⟨pa, pn, pc, rfl, hpn, _⟩ := qp
    subst htn hpn
    have hy := mem_sum (f := nCmd) (List.mem_of_getElem? hyi)
    have hyo : nCmd y = (y.ops.map nOp).sum + y.bytes.length + (y.patch.map nChg).sum := rfl
    have l2 := len_le_sum (f := nChg) (fun x => by unfold nChg; omega) y.patch
    refine go ?_
    refine st_alloc st ?_; intro b5 h2 st
    refine st_put st ?_; intro h3 st
    refine go ?_
    refine ow_call (rcopy_op (slOp_gr ko st.gr) (by omega) st.rebase) ?_; rintro vo h4 ⟨S2, G2, q2, st4⟩
    have q2k := q2
    obtain ⟨oa2, on2, oc2, rfl, _⟩ := q2
    refine go ?_
    refine st_put st4 ?_; intro h5 st5
    refine go ?_
    refine st_buildS st5 ?_; intro b6 h6 st6
    have st7 := (st6.drop 0 rfl).nilBuf (w := 1) (a := some ⟨b6, 0, none⟩)
    refine go ?_
    obtain ⟨ys1, e1, e2, e3, e4⟩ := sl_rows one_byte (kt.gr (st.gr.trans (G2.trans st7.gr)))
    refine st_append (w := 1) (y := 1) (n := 0) 0 ⟨e1, e2⟩ e3 e4.1 (by omega) st7 ?_; intro v7 h7 st7
    obtain ⟨a7, c7, rfl⟩ := Buf.lenOf st7 (i := 0) rfl
    refine go ?_
    refine st_put st7 ?_; intro h8 st8
    refine go ?_
    refine st_buildS st8 ?_; intro b7 h9 st9
    have st9 := (st9.drop 0 rfl).nilBuf (w := 6) (a := some ⟨b7, 0, none⟩)
    refine go ?_
    obtain ⟨ys2, e5, e6, e7, e8⟩ := sl_rows one_chg (kp.gr (st.gr.trans (G2.trans st9.gr)))
    refine st_append (w := 6) (y := 56) (n := 0) 0 ⟨e5, e6⟩ e7 e8.1 (by omega) st9 ?_; intro v8 h10 st10
    obtain ⟨a8, c8, rfl⟩ := Buf.lenOf st10 (i := 0) rfl
    refine go ?_
    refine st_put st10 ?_; intro h11 st11
    refine go ?_
    refine st_buildS st11 ?_; intro b9 h12 st12
    refine st_append1 (w := 8) (y := 112) (n := i) (v := .slice va i vc) (cs := cs) 4 0 (by omega) st12 ?_; intro v9 h13 st13
    obtain ⟨a9, c9, rfl⟩ := Buf.lenOf st13 (i := 0) rfl
    refine go ?_
    refine st_put st13 ?_; intro h14 st14
    refine go ?_
    refine dn_loop ?_
    obtain ⟨S3, G3, q3, st15⟩ := buf_freeze st14 (i := 3) (xs := y.bytes) (R := RByte) rfl (by simpa using e4) (by omega) (by omega)
    obtain ⟨S4, G4, q4, st16⟩ := buf_freeze st15 (i := 2) (xs := y.patch) (R := LChg h S) rfl (by simpa using e8) (by omega) (by omega)
    have GG := st.gr.trans (G2.trans (st14.gr.trans (G3.trans G4)))
    refine (ih (i + 1, S4, h14, _, _) ⟨hlt, g1.trans GG, ((st16.drop 2 rfl).drop 1 rfl).rebase, ?_, qk.gr GG⟩ (by simp only; omega)).weak ⟨rfl, rfl, rfl, rfl, trivial⟩
    simp only
    rw [List.take_add_one, hyi]
    simp only [Option.toList_some]
    refine (rw1.mono fun x c q => q.gr GG).snoc rfl ⟨_, _, _, rfl, ?_, ?_, ?_⟩
    · exact slOp_gr q2k (st14.gr.trans (G3.trans G4))
    · simpa using q3.gr G4
    · simpa using q4
  · have hi2 : i = s.cmds.length := by omega
    subst hi2
    rw [List.take_length] at rw1
    refine go ?_
    refine st_put st ?_; intro h2 st2
    refine go ?_
    obtain ⟨S2, G2, q2, st3⟩ := buf_freeze st2 (i := 0) rfl (rw1.mono fun x c q => q.gr st2.gr) rfl hc62
    have GG := st2.gr.trans G2
    exact end_cellA rfl (g1.trans GG).1 (readOf (st3.get 1 rfl) rfl) ⟨S2, _, rfl, g1.trans GG, ⟨_, _, rfl, qk.gr GG, q2.to (fun a ha => ⟨ha, rfl⟩) (fun x c q => q.gr G2)⟩, (((st3.drop 0 rfl).drop 0 rfl).drop 0 rfl).rebase⟩
end
end Go.Proofs.YtmaccpaiaidgpaaGreatDoor

/- The reference: may a command, a script be; both answers. -/
namespace Go.Proofs.YtmaccpaiaidgpaaGreatDoor
open Go Go.Mir
set_option maxRecDepth 10000
section
variable {h0 h : H} {S : Nat → Prop} {As : List Asn}

set_option maxHeartbeats 16000000 in
theorem mayX_ev {c : PCmd} {cs : List Value} (q : RCmd h S c cs) (st : St h0 S h As) : Cal cxo 70 [.agg ⟨cs⟩] h (fun r h' => ∃ b, r = .bool b ∧ (b = true ↔ mayC c) ∧ St h0 S h' As) := by
  have stA := st
  have st := st.rebase
  obtain ⟨o, bt, p, rfl, q1, q2, q3⟩ := q
  obtain ⟨oa, on, oc, rfl, on2, _⟩ := q1
  obtain ⟨ta, tn, tc, rfl, tn2, _⟩ := q2
  obtain ⟨pa, pn, pc, rfl, pn2, _⟩ := q3
  have bare := fun hm => mayC_bare (c := c) hm
  have back := fun (hb : BareL (fieldsOf c.kind) c) => hb.bare
  obtain ⟨k, hk⟩ : ∃ k, k = fieldsOf c.kind := ⟨_, rfl⟩
  have mem := fields_forms c.kind
  unfold mayC at bare ⊢
  rw [← hk] at mem bare back ⊢
  have l5 : on = 0 → c.ops = [] := fun e => List.eq_nil_of_length_eq_zero (by omega)
  have l6 : tn = 0 → c.bytes = [] := fun e => List.eq_nil_of_length_eq_zero (by omega)
  have l7 : pn = 0 → c.patch = [] := fun e => List.eq_nil_of_length_eq_zero (by omega)
  have m5 : c.ops = [] → on = 0 := fun e => by rw [on2, e]; rfl
  have m6 : c.bytes = [] → tn = 0 := fun e => by rw [tn2, e]; rfl
  have m7 : c.patch = [] → pn = 0 := fun e => by rw [pn2, e]; rfl
  refine cal_intro (C := cxo) rfl rfl rfl rfl ?_
  refine go ?_
  refine st_box st ?_; intro b h1 st
  refine go ?_
  refine ow_call Has_ev ?_; rintro _ _ ⟨rfl, rfl⟩
  rw [← hk]
  simp only [forms, List.mem_cons, List.not_mem_nil, or_false] at mem
  rcases mem with rfl | rfl | rfl | rfl | rfl | rfl | rfl | rfl | rfl
  · refine go ?_
    exact end_res st.nx rfl ⟨false, rfl, ⟨(fun q => nomatch q), fun q => absurd rfl q.1⟩, stA.over (st.drop 0 rfl)⟩
  · by_cases hi : c.i = 0
    rotate_left
    · refine go ?_
      exact end_res st.nx rfl ⟨false, rfl, ⟨(fun q => nomatch q), fun q => absurd ((bare q).1 (by decide)) hi⟩, stA.over (st.drop 0 rfl)⟩
    by_cases hj : c.j = 0
    rotate_left
    · refine go ?_
      exact end_res st.nx rfl ⟨false, rfl, ⟨(fun q => nomatch q), fun q => absurd ((bare q).2.1 (by decide)) hj⟩, stA.over (st.drop 0 rfl)⟩
    by_cases hk : c.key = 0
    rotate_left
    · refine go ?_
      exact end_res st.nx rfl ⟨false, rfl, ⟨(fun q => nomatch q), fun q => absurd ((bare q).2.2.1 (by decide)) hk⟩, stA.over (st.drop 0 rfl)⟩
    by_cases hy : c.by' = 0
    rotate_left
    · refine go ?_
      exact end_res st.nx rfl ⟨false, rfl, ⟨(fun q => nomatch q), fun q => absurd ((bare q).2.2.2.1 (by decide)) hy⟩, stA.over (st.drop 0 rfl)⟩
    by_cases hb : tn = 0
    rotate_left
    · refine go ?_
      exact end_res st.nx rfl ⟨false, rfl, ⟨(fun q => nomatch q), fun q => absurd (m6 ((bare q).2.2.2.2.2.1 (by decide))) hb⟩, stA.over (st.drop 0 rfl)⟩
    by_cases hp : pn = 0
    rotate_left
    · refine go ?_
      exact end_res st.nx rfl ⟨false, rfl, ⟨(fun q => nomatch q), fun q => absurd (m7 ((bare q).2.2.2.2.2.2 (by decide))) hp⟩, stA.over (st.drop 0 rfl)⟩
    refine go ?_
    exact end_res st.nx rfl ⟨true, rfl, ⟨fun _ => ⟨by decide, back ⟨fun _ => hi, fun _ => hj, fun _ => hk, fun _ => hy, fun q => absurd (by decide) q, fun _ => l6 hb, fun _ => l7 hp⟩⟩, fun _ => rfl⟩, stA.over (st.drop 0 rfl)⟩
  · by_cases hi : c.i = 0
    rotate_left
    · refine go ?_
      exact end_res st.nx rfl ⟨false, rfl, ⟨(fun q => nomatch q), fun q => absurd ((bare q).1 (by decide)) hi⟩, stA.over (st.drop 0 rfl)⟩
    by_cases hj : c.j = 0
    rotate_left
    · refine go ?_
      exact end_res st.nx rfl ⟨false, rfl, ⟨(fun q => nomatch q), fun q => absurd ((bare q).2.1 (by decide)) hj⟩, stA.over (st.drop 0 rfl)⟩
    by_cases hk : c.key = 0
    rotate_left
    · refine go ?_
      exact end_res st.nx rfl ⟨false, rfl, ⟨(fun q => nomatch q), fun q => absurd ((bare q).2.2.1 (by decide)) hk⟩, stA.over (st.drop 0 rfl)⟩
    by_cases hy : c.by' = 0
    rotate_left
    · refine go ?_
      exact end_res st.nx rfl ⟨false, rfl, ⟨(fun q => nomatch q), fun q => absurd ((bare q).2.2.2.1 (by decide)) hy⟩, stA.over (st.drop 0 rfl)⟩
    by_cases ho : on = 0
    rotate_left
    · refine go ?_
      exact end_res st.nx rfl ⟨false, rfl, ⟨(fun q => nomatch q), fun q => absurd (m5 ((bare q).2.2.2.2.1 (by decide))) ho⟩, stA.over (st.drop 0 rfl)⟩
    by_cases hp : pn = 0
    rotate_left
    · refine go ?_
      exact end_res st.nx rfl ⟨false, rfl, ⟨(fun q => nomatch q), fun q => absurd (m7 ((bare q).2.2.2.2.2.2 (by decide))) hp⟩, stA.over (st.drop 0 rfl)⟩
    refine go ?_
    exact end_res st.nx rfl ⟨true, rfl, ⟨fun _ => ⟨by decide, back ⟨fun _ => hi, fun _ => hj, fun _ => hk, fun _ => hy, fun _ => l5 ho, fun q => absurd (by decide) q, fun _ => l7 hp⟩⟩, fun _ => rfl⟩, stA.over (st.drop 0 rfl)⟩
  · by_cases hj : c.j = 0
    rotate_left
    · refine go ?_
      exact end_res st.nx rfl ⟨false, rfl, ⟨(fun q => nomatch q), fun q => absurd ((bare q).2.1 (by decide)) hj⟩, stA.over (st.drop 0 rfl)⟩
    by_cases hk : c.key = 0
    rotate_left
    · refine go ?_
      exact end_res st.nx rfl ⟨false, rfl, ⟨(fun q => nomatch q), fun q => absurd ((bare q).2.2.1 (by decide)) hk⟩, stA.over (st.drop 0 rfl)⟩
    by_cases hy : c.by' = 0
    rotate_left
    · refine go ?_
      exact end_res st.nx rfl ⟨false, rfl, ⟨(fun q => nomatch q), fun q => absurd ((bare q).2.2.2.1 (by decide)) hy⟩, stA.over (st.drop 0 rfl)⟩
    by_cases ho : on = 0
    rotate_left
    · refine go ?_
      exact end_res st.nx rfl ⟨false, rfl, ⟨(fun q => nomatch q), fun q => absurd (m5 ((bare q).2.2.2.2.1 (by decide))) ho⟩, stA.over (st.drop 0 rfl)⟩
    by_cases hp : pn = 0
    rotate_left
    · refine go ?_
      exact end_res st.nx rfl ⟨false, rfl, ⟨(fun q => nomatch q), fun q => absurd (m7 ((bare q).2.2.2.2.2.2 (by decide))) hp⟩, stA.over (st.drop 0 rfl)⟩
    refine go ?_
    exact end_res st.nx rfl ⟨true, rfl, ⟨fun _ => ⟨by decide, back ⟨fun q => absurd (by decide) q, fun _ => hj, fun _ => hk, fun _ => hy, fun _ => l5 ho, fun q => absurd (by decide) q, fun _ => l7 hp⟩⟩, fun _ => rfl⟩, stA.over (st.drop 0 rfl)⟩
  · by_cases hk : c.key = 0
    rotate_left
    · refine go ?_
      exact end_res st.nx rfl ⟨false, rfl, ⟨(fun q => nomatch q), fun q => absurd ((bare q).2.2.1 (by decide)) hk⟩, stA.over (st.drop 0 rfl)⟩
    by_cases hy : c.by' = 0
    rotate_left
    · refine go ?_
      exact end_res st.nx rfl ⟨false, rfl, ⟨(fun q => nomatch q), fun q => absurd ((bare q).2.2.2.1 (by decide)) hy⟩, stA.over (st.drop 0 rfl)⟩
    by_cases ho : on = 0
    rotate_left
    · refine go ?_
      exact end_res st.nx rfl ⟨false, rfl, ⟨(fun q => nomatch q), fun q => absurd (m5 ((bare q).2.2.2.2.1 (by decide))) ho⟩, stA.over (st.drop 0 rfl)⟩
    by_cases hb : tn = 0
    rotate_left
    · refine go ?_
      exact end_res st.nx rfl ⟨false, rfl, ⟨(fun q => nomatch q), fun q => absurd (m6 ((bare q).2.2.2.2.2.1 (by decide))) hb⟩, stA.over (st.drop 0 rfl)⟩
    by_cases hp : pn = 0
    rotate_left
    · refine go ?_
      exact end_res st.nx rfl ⟨false, rfl, ⟨(fun q => nomatch q), fun q => absurd (m7 ((bare q).2.2.2.2.2.2 (by decide))) hp⟩, stA.over (st.drop 0 rfl)⟩
    refine go ?_
    exact end_res st.nx rfl ⟨true, rfl, ⟨fun _ => ⟨by decide, back ⟨fun q => absurd (by decide) q, fun q => absurd (by decide) q, fun _ => hk, fun _ => hy, fun _ => l5 ho, fun _ => l6 hb, fun _ => l7 hp⟩⟩, fun _ => rfl⟩, stA.over (st.drop 0 rfl)⟩
  · by_cases hk : c.key = 0
    rotate_left
    · refine go ?_
      exact end_res st.nx rfl ⟨false, rfl, ⟨(fun q => nomatch q), fun q => absurd ((bare q).2.2.1 (by decide)) hk⟩, stA.over (st.drop 0 rfl)⟩
    by_cases hy : c.by' = 0
    rotate_left
    · refine go ?_
      exact end_res st.nx rfl ⟨false, rfl, ⟨(fun q => nomatch q), fun q => absurd ((bare q).2.2.2.1 (by decide)) hy⟩, stA.over (st.drop 0 rfl)⟩
    by_cases ho : on = 0
    rotate_left
    · refine go ?_
      exact end_res st.nx rfl ⟨false, rfl, ⟨(fun q => nomatch q), fun q => absurd (m5 ((bare q).2.2.2.2.1 (by decide))) ho⟩, stA.over (st.drop 0 rfl)⟩
    by_cases hb : tn = 0
    rotate_left
    · refine go ?_
      exact end_res st.nx rfl ⟨false, rfl, ⟨(fun q => nomatch q), fun q => absurd (m6 ((bare q).2.2.2.2.2.1 (by decide))) hb⟩, stA.over (st.drop 0 rfl)⟩
    refine go ?_
    exact end_res st.nx rfl ⟨true, rfl, ⟨fun _ => ⟨by decide, back ⟨fun q => absurd (by decide) q, fun q => absurd (by decide) q, fun _ => hk, fun _ => hy, fun _ => l5 ho, fun _ => l6 hb, fun q => absurd (by decide) q⟩⟩, fun _ => rfl⟩, stA.over (st.drop 0 rfl)⟩
  · by_cases ho : on = 0
    rotate_left
    · refine go ?_
      exact end_res st.nx rfl ⟨false, rfl, ⟨(fun q => nomatch q), fun q => absurd (m5 ((bare q).2.2.2.2.1 (by decide))) ho⟩, stA.over (st.drop 0 rfl)⟩
    by_cases hb : tn = 0
    rotate_left
    · refine go ?_
      exact end_res st.nx rfl ⟨false, rfl, ⟨(fun q => nomatch q), fun q => absurd (m6 ((bare q).2.2.2.2.2.1 (by decide))) hb⟩, stA.over (st.drop 0 rfl)⟩
    by_cases hp : pn = 0
    rotate_left
    · refine go ?_
      exact end_res st.nx rfl ⟨false, rfl, ⟨(fun q => nomatch q), fun q => absurd (m7 ((bare q).2.2.2.2.2.2 (by decide))) hp⟩, stA.over (st.drop 0 rfl)⟩
    refine go ?_
    exact end_res st.nx rfl ⟨true, rfl, ⟨fun _ => ⟨by decide, back ⟨fun q => absurd (by decide) q, fun q => absurd (by decide) q, fun q => absurd (by decide) q, fun q => absurd (by decide) q, fun _ => l5 ho, fun _ => l6 hb, fun _ => l7 hp⟩⟩, fun _ => rfl⟩, stA.over (st.drop 0 rfl)⟩
  · by_cases hj : c.j = 0
    rotate_left
    · refine go ?_
      exact end_res st.nx rfl ⟨false, rfl, ⟨(fun q => nomatch q), fun q => absurd ((bare q).2.1 (by decide)) hj⟩, stA.over (st.drop 0 rfl)⟩
    by_cases hk : c.key = 0
    rotate_left
    · refine go ?_
      exact end_res st.nx rfl ⟨false, rfl, ⟨(fun q => nomatch q), fun q => absurd ((bare q).2.2.1 (by decide)) hk⟩, stA.over (st.drop 0 rfl)⟩
    by_cases hy : c.by' = 0
    rotate_left
    · refine go ?_
      exact end_res st.nx rfl ⟨false, rfl, ⟨(fun q => nomatch q), fun q => absurd ((bare q).2.2.2.1 (by decide)) hy⟩, stA.over (st.drop 0 rfl)⟩
    by_cases ho : on = 0
    rotate_left
    · refine go ?_
      exact end_res st.nx rfl ⟨false, rfl, ⟨(fun q => nomatch q), fun q => absurd (m5 ((bare q).2.2.2.2.1 (by decide))) ho⟩, stA.over (st.drop 0 rfl)⟩
    by_cases hb : tn = 0
    rotate_left
    · refine go ?_
      exact end_res st.nx rfl ⟨false, rfl, ⟨(fun q => nomatch q), fun q => absurd (m6 ((bare q).2.2.2.2.2.1 (by decide))) hb⟩, stA.over (st.drop 0 rfl)⟩
    by_cases hp : pn = 0
    rotate_left
    · refine go ?_
      exact end_res st.nx rfl ⟨false, rfl, ⟨(fun q => nomatch q), fun q => absurd (m7 ((bare q).2.2.2.2.2.2 (by decide))) hp⟩, stA.over (st.drop 0 rfl)⟩
    refine go ?_
    exact end_res st.nx rfl ⟨true, rfl, ⟨fun _ => ⟨by decide, back ⟨fun q => absurd (by decide) q, fun _ => hj, fun _ => hk, fun _ => hy, fun _ => l5 ho, fun _ => l6 hb, fun _ => l7 hp⟩⟩, fun _ => rfl⟩, stA.over (st.drop 0 rfl)⟩
  · by_cases hi : c.i = 0
    rotate_left
    · refine go ?_
      exact end_res st.nx rfl ⟨false, rfl, ⟨(fun q => nomatch q), fun q => absurd ((bare q).1 (by decide)) hi⟩, stA.over (st.drop 0 rfl)⟩
    by_cases hj : c.j = 0
    rotate_left
    · refine go ?_
      exact end_res st.nx rfl ⟨false, rfl, ⟨(fun q => nomatch q), fun q => absurd ((bare q).2.1 (by decide)) hj⟩, stA.over (st.drop 0 rfl)⟩
    by_cases hk : c.key = 0
    rotate_left
    · refine go ?_
      exact end_res st.nx rfl ⟨false, rfl, ⟨(fun q => nomatch q), fun q => absurd ((bare q).2.2.1 (by decide)) hk⟩, stA.over (st.drop 0 rfl)⟩
    by_cases hy : c.by' = 0
    rotate_left
    · refine go ?_
      exact end_res st.nx rfl ⟨false, rfl, ⟨(fun q => nomatch q), fun q => absurd ((bare q).2.2.2.1 (by decide)) hy⟩, stA.over (st.drop 0 rfl)⟩
    by_cases ho : on = 0
    rotate_left
    · refine go ?_
      exact end_res st.nx rfl ⟨false, rfl, ⟨(fun q => nomatch q), fun q => absurd (m5 ((bare q).2.2.2.2.1 (by decide))) ho⟩, stA.over (st.drop 0 rfl)⟩
    by_cases hb : tn = 0
    rotate_left
    · refine go ?_
      exact end_res st.nx rfl ⟨false, rfl, ⟨(fun q => nomatch q), fun q => absurd (m6 ((bare q).2.2.2.2.2.1 (by decide))) hb⟩, stA.over (st.drop 0 rfl)⟩
    by_cases hp : pn = 0
    rotate_left
    · refine go ?_
      exact end_res st.nx rfl ⟨false, rfl, ⟨(fun q => nomatch q), fun q => absurd (m7 ((bare q).2.2.2.2.2.2 (by decide))) hp⟩, stA.over (st.drop 0 rfl)⟩
    refine go ?_
    exact end_res st.nx rfl ⟨true, rfl, ⟨fun _ => ⟨by decide, back ⟨fun _ => hi, fun _ => hj, fun _ => hk, fun _ => hy, fun _ => l5 ho, fun _ => l6 hb, fun _ => l7 hp⟩⟩, fun _ => rfl⟩, stA.over (st.drop 0 rfl)⟩

set_option maxHeartbeats 4000000 in
theorem rmayX_ev {s : PScr} {cs : List Value} (q : RScr h S s cs) (st : St h0 S h As) : Cal cxo 25 [.agg ⟨cs⟩] h (fun r h' => ∃ b, r = .bool b ∧ (b = true ↔ mayS s) ∧ St h0 S h' As) := by
  have stA := st
  have st := st.rebase
  obtain ⟨k, c, rfl, x1, x2⟩ := q
  have x2k := x2
  obtain ⟨ka, kn, kc, rfl, _⟩ := x1
  obtain ⟨ca, cn, cc, rfl, hcn, _, hc62, _⟩ := x2
  subst hcn
  refine cal_intro (C := cxo) rfl rfl rfl rfl ?_
  refine go ?_
  refine st_box st ?_; intro b1 h1 st
  refine go ?_
  refine WK.weak (L' := [(1, .pointer (some ⟨b1, 0, none⟩)), (3, .int .i64 ((0 : Nat) : Int))]) ?_ ⟨rfl, rfl, trivial⟩
  refine wk_inv (ι := Nat × H) (fun z => [(1, .pointer (some ⟨b1, 0, none⟩)), (3, .int .i64 (z.1 : Int))]) (fun z => z.2) (fun z => z.1 ≤ s.cmds.length ∧ (∀ c ∈ s.cmds.take z.1, mayC c) ∧ St h S z.2 (blk b1 (.cells [.slice ka kn kc, .int .i64 s.maxLen, .int .i64 s.maxUndo, .slice ca s.cmds.length cc] 0) :: As)) (fun z => s.cmds.length - z.1) ?_ (0, h1) ⟨Nat.zero_le _, by simp, st⟩
  clear st
  rintro ⟨i, h2⟩ ⟨hi, he, st⟩ ih
  simp only at hi he st ih ⊢
  by_cases hlt : i < s.cmds.length
  · obtain ⟨b, o, y, ycs, rfl, hS, hcap, hyi, hyl, hR, hrd⟩ := x2k.at hlt
    have hy := List.mem_of_getElem? hyi
    refine go ?_
    refine ow_call (mayX_ev (hR.gr st.gr) st) ?_; rintro _ h7 ⟨e, rfl, hee, st⟩
    cases e with
    | false =>
      refine go ?_
      exact end_res st.nx rfl ⟨false, rfl, ⟨(fun q => nomatch q), fun q => hee.2 (q y hy)⟩, stA.over (st.drop 0 rfl)⟩
    | true =>
      refine go ?_
      refine dn_loop ?_
      exact (ih (i + 1, h7) ⟨hlt, by
        rw [List.take_add_one, hyi]
        intro c hc
        rcases List.mem_append.1 hc with hc | hc
        · exact he c hc
        · simp at hc; subst hc; exact hee.1 rfl, st⟩ (by simp only; omega)).weak ⟨rfl, rfl, trivial⟩
  · have hi2 : i = s.cmds.length := by omega
    rw [hi2, List.take_length] at he
    refine go ?_
    exact end_res st.nx rfl ⟨true, rfl, ⟨fun _ => he, fun _ => rfl⟩, stA.over (st.drop 0 rfl)⟩
end
end Go.Proofs.YtmaccpaiaidgpaaGreatDoor

