/- The reference of layer 29: the form of a script. -/
import Derived.Test.YtmaccpaiaidgpaaGreatDoorRefA
/- The reference: the form of a script. -/
namespace Go.Proofs.YtmaccpaiaidgpaaGreatDoor
open Go Go.Mir
set_option maxRecDepth 10000

section
variable {h0 h : H} {S : Nat → Prop} {As : List Asn}

set_option maxHeartbeats 16000000 in
theorem rbytes_ev {s : PScr} {cs : List Value} (q : RScr h S s cs) (hs : okS s) (hl : (wScr s).length ≤ 2 ^ 38) (st : St h0 S h As) : Cal cxo 26 [.agg ⟨cs⟩] h (fun r h' => St h0 S h' (BufB r (wScr s) :: As)) := by
  have stA := st
  have st := st.rebase
  obtain ⟨kv, cv, rfl, qk, qc⟩ := q
  have qk0 := qk
  have qc0 := qc
  obtain ⟨ka, kn, kc, rfl, hkn, hkc, hk62, _⟩ := qk
  obtain ⟨ca, cn, cc, rfl, hcn, hcc, hc62, _⟩ := qc
  subst hkn
  subst hcn
  obtain ⟨ks, ml, mu, cm⟩ := s
  obtain ⟨⟨hok1, hml, hmu, hok2⟩, hmay⟩ := hs
  simp only at hok1 hml hmu hok2 hk62 hc62 qk0 qc0 ⊢
  unfold mayS at hmay
  simp only at hmay
  unfold wScr wL at hl
  simp only [List.length_append] at hl
  refine cal_intro (C := cxo) rfl rfl rfl rfl ?_
  (refine goM ?_)
  refine st_box st ?_; intro b1 h1 st
  (refine goM ?_)
  refine st_load (i := 0) st ?_
  (refine goM ?_)
  refine ow_call ((wrap_u64 (n := (ks.length : Int)) (by omega)).symm ▸ form_ev (n := ks.length) (by omega) st) ?_; intro r h1 st
  (refine goM ?_)
  refine WK.weak (L' := [(1, .pointer (some ⟨b1, 0, none⟩)), (3, r), (4, .int .i64 ((0 : Nat) : Int))]) ?_ ⟨rfl, rfl, rfl, trivial⟩
  refine wk_inv (ι := Value × Nat × H) (fun z => [(1, .pointer (some ⟨b1, 0, none⟩)), (3, z.1), (4, .int .i64 (z.2.1 : Int))]) (fun z => z.2.2) (fun z => z.2.1 ≤ ks.length ∧ St h S z.2.2 (BufB z.1 (form ks.length ++ (ks.take z.2.1).flatMap wKey) :: blk b1 (.cells [.slice ka ks.length kc, .int .i64 ml, .int .i64 mu, .slice ca cm.length cc] 0) :: As)) (fun z => ks.length - z.2.1) ?_ (r, 0, h1) ⟨Nat.zero_le _, by simp only [List.take_zero, List.flatMap_nil, List.append_nil]; exact st⟩
  rintro ⟨v, i, h2⟩ ⟨hi, st⟩ ih
  simp only at hi st ih ⊢
  (refine goM ?_)
  refine st_load (i := 1) st ?_
  (refine goM ?_)
  by_cases hlt : i < ks.length
  · refine ow_cmp (hv := lss_t (by omega)) ?_
    (refine goM ?_)
    obtain ⟨b, of, x, xcs, rfl, hS, hcap, hxi, hxl, rfl, hrd⟩ := qk0.at hlt
    have hmem : x ∈ ks := List.mem_of_getElem? hxi
    have hle := flat_take_le (w := wKey) hxi
    obtain ⟨hid, hkd, hgr⟩ := hok1 x hmem
    have hwx : wKey x = wI x.id ++ (wF x.block ++ (form x.kind.toNat ++ (wF x.aft ++ (wF x.bef ++ wI x.group)))) := rfl
    have hwl := congrArg List.length hwx
    simp only [List.length_append] at hwl
    obtain ⟨P1, hP1⟩ : ∃ P1, P1 = form ks.length ++ (ks.take i).flatMap wKey := ⟨_, rfl⟩
    have hPl := congrArg List.length hP1
    simp only [List.length_append] at hPl
    rw [← hP1] at st
    have hrd2 : h2.read ⟨b, of + i * 6, none⟩ 6 = some x.cells := by rw [st.read hS]; exact hrd
    refine st_load (i := 1) st ?_
    (refine goM ?_)
    refine ow_index hlt hcap ?_
    refine ow_loadA hrd2 ?_
    refine st_alloc st ?_; intro b5 h3 st
    refine st_store (i := 0) st ?_; intro h4 st
    (refine goM ?_)
    have st := st.pull 1 rfl
    refine st_load (i := 1) st ?_
    refine ow_call (whole_ev hid st) ?_; intro r h9 st
    refine st_appB (p := P1) (l := wI x.id) 1 (buf_src st (i := 0) rfl) (by (try simp only [List.length_append]); omega) st ?_; intro v h9 st
    (refine goM ?_)
    have st := st.drop 1 rfl
    refine st_load (i := 1) st ?_
    refine ow_call (rflag_ev st) ?_; rintro _ h9 ⟨fb, rfl, st⟩
    refine st_appB (p := (P1 ++ wI x.id)) (l := wF x.block) 1 (flag_src st (i := 0) rfl) (by (try simp only [List.length_append]); omega) st ?_; intro v h9 st
    (refine goM ?_)
    have st := st.drop 1 rfl
    refine st_load (i := 1) st ?_
    refine ow_convTo (n := x.kind) (n' := ((x.kind.toNat : Nat) : Int)) (by have := hkd; unfold u8ok at this; rw [wrap_u64 (by omega)]; omega) ?_
    refine ow_call (form_ev (n := x.kind.toNat) (by have := hkd; unfold u8ok at this; omega) st) ?_; intro r h9 st
    refine st_appB (p := (P1 ++ wI x.id ++ wF x.block)) (l := form x.kind.toNat) 1 (buf_src st (i := 0) rfl) (by (try simp only [List.length_append]); omega) st ?_; intro v h9 st
    (refine goM ?_)
    have st := st.drop 1 rfl
    refine st_load (i := 1) st ?_
    refine ow_call (rflag_ev st) ?_; rintro _ h9 ⟨fb, rfl, st⟩
    refine st_appB (p := (P1 ++ wI x.id ++ wF x.block ++ form x.kind.toNat)) (l := wF x.aft) 1 (flag_src st (i := 0) rfl) (by (try simp only [List.length_append]); omega) st ?_; intro v h9 st
    (refine goM ?_)
    have st := st.drop 1 rfl
    refine st_load (i := 1) st ?_
    refine ow_call (rflag_ev st) ?_; rintro _ h9 ⟨fb, rfl, st⟩
    refine st_appB (p := (P1 ++ wI x.id ++ wF x.block ++ form x.kind.toNat ++ wF x.aft)) (l := wF x.bef) 1 (flag_src st (i := 0) rfl) (by (try simp only [List.length_append]); omega) st ?_; intro v h9 st
    (refine goM ?_)
    have st := st.drop 1 rfl
    refine st_load (i := 1) st ?_
    refine ow_call (whole_ev hgr st) ?_; intro r h9 st
    refine st_appB (p := (P1 ++ wI x.id ++ wF x.block ++ form x.kind.toNat ++ wF x.aft ++ wF x.bef)) (l := wI x.group) 1 (buf_src st (i := 0) rfl) (by (try simp only [List.length_append]); omega) st ?_; intro v h9 st
    (refine goM ?_)
    have st := st.drop 1 rfl
    refine ow_int (hv := add_one (by omega)) ?_
    (refine goM ?_)
    refine dn_loop ?_
    have st := st.drop 1 rfl
    refine (ih (v, i + 1, _) ⟨hlt, ?_⟩ (by simp only; omega)).weak ⟨rfl, rfl, rfl, trivial⟩
    simp only
    have e : form ks.length ++ (ks.take (i + 1)).flatMap wKey = P1 ++ wI x.id ++ wF x.block ++ form x.kind.toNat ++ wF x.aft ++ wF x.bef ++ wI x.group := by
      rw [flat_take hxi, ← List.append_assoc, ← hP1, hwx]; simp only [List.append_assoc]
    rw [e]; exact st
  · refine ow_cmp (hv := lss_f (by omega)) ?_
    have : i = ks.length := by omega
    subst this
    rw [List.take_length] at st
    (refine goM ?_)
    refine st_load (i := 1) st ?_
    refine ow_call (whole_ev hml st) ?_; intro r h9 st
    refine st_appB (p := (form ks.length ++ ks.flatMap wKey)) (l := wI ml) 1 (buf_src st (i := 0) rfl) (by (try simp only [List.length_append]); omega) st ?_; intro v h9 st
    (refine goM ?_)
    have st := st.drop 1 rfl
    refine st_load (i := 1) st ?_
    refine ow_call (whole_ev hmu st) ?_; intro r h9 st
    refine st_appB (p := (form ks.length ++ ks.flatMap wKey ++ wI ml)) (l := wI mu) 1 (buf_src st (i := 0) rfl) (by (try simp only [List.length_append]); omega) st ?_; intro v h9 st
    (refine goM ?_)
    have st := st.drop 1 rfl
    obtain ⟨P0, hP0⟩ : ∃ P0, P0 = form ks.length ++ ks.flatMap wKey ++ wI ml ++ wI mu := ⟨_, rfl⟩
    have hPl := congrArg List.length hP0
    simp only [List.length_append] at hPl
    rw [← hP0] at st
    refine WK.weak (L' := [(1, .pointer (some ⟨b1, 0, none⟩)), (3, v), (6, .int .i64 ((0 : Nat) : Int))]) ?_ ⟨rfl, rfl, rfl, trivial⟩
    refine wk_inv (ι := Value × Nat × H) (fun z => [(1, .pointer (some ⟨b1, 0, none⟩)), (3, z.1), (6, .int .i64 (z.2.1 : Int))]) (fun z => z.2.2) (fun z => z.2.1 ≤ cm.length ∧ St h S z.2.2 (BufB z.1 (P0 ++ (cm.take z.2.1).flatMap wCmd) :: blk b1 (.cells [.slice ka ks.length kc, .int .i64 ml, .int .i64 mu, .slice ca cm.length cc] 0) :: As)) (fun z => cm.length - z.2.1) ?_ (v, 0, _) ⟨Nat.zero_le _, by simp only [List.take_zero, List.flatMap_nil, List.append_nil]; exact st⟩
    clear ih st
    rintro ⟨v, i, h2⟩ ⟨hi, st⟩ ih
    simp only at hi st ih ⊢
    (refine goM ?_)
    refine st_load (i := 1) st ?_
    (refine goM ?_)
    by_cases hlt : i < cm.length
    · refine ow_cmp (hv := lss_t (by omega)) ?_
      (refine goM ?_)
      obtain ⟨b, of, x, xcs, rfl, hS, hcap, hxi, hxl, hR, hrd⟩ := qc0.at hlt
      have hmem : x ∈ cm := List.mem_of_getElem? hxi
      have hle := flat_take_le (w := wCmd) hxi
      obtain ⟨hkd, hi1, hj1, hkey1, hby1, hops1, hpat1⟩ := hok2 x hmem
      have hmx := hmay x hmem
      obtain ⟨xo, xb, xp, rfl, qo, qb, qp⟩ := hR
      have qo0 := qo
      have qb0 := qb
      have qp0 := qp
      obtain ⟨oa, on, oc, rfl, hon, hoc, ho62, _⟩ := qo
      obtain ⟨ta, tn, tc, rfl, htn, htc, ht62, _⟩ := qb
      obtain ⟨pa, pn, pc, rfl, hpn, hpc, hp62, _⟩ := qp
      subst hon
      subst htn
      subst hpn
      obtain ⟨P1, hP1⟩ : ∃ P1, P1 = P0 ++ (cm.take i).flatMap wCmd := ⟨_, rfl⟩
      have hPl1 := congrArg List.length hP1
      simp only [List.length_append] at hPl1
      rw [← hP1] at st
      have hrd2 := hrd
      rw [← st.read hS] at hrd2
      refine st_load (i := 1) st ?_
      (refine goM ?_)
      refine ow_index hlt hcap ?_
      refine ow_loadA hrd2 ?_
      refine st_alloc st ?_; intro b7 h3 st
      refine st_store (i := 0) st ?_; intro h4 st
      (refine goM ?_)
      have st := st.pull 1 rfl
      refine st_load (i := 1) st ?_
      refine ow_call Has_ev ?_; rintro _ _ ⟨rfl, rfl⟩
      obtain ⟨k, hk⟩ : ∃ k, k = fieldsOf x.kind := ⟨_, rfl⟩
      have mem := fields_forms x.kind
      have hne := hmx.1
      rw [← hk] at mem hne ⊢
      (refine goM ?_)
      have lB : (wB x.bytes).length = (form x.bytes.length).length + x.bytes.length := by unfold wB; rw [List.length_append]
      have lP0 : P0.length + ((cm.take i).flatMap wCmd).length + (wCmd x).length ≤ 2 ^ 38 := by omega
      simp only [forms, List.mem_cons, List.not_mem_nil, or_false] at mem
      have hkl : (form x.kind.toNat).length ≤ (wCmd x).length := by
        unfold wCmd wU; rw [List.length_append]; omega
      refine st_load (i := 1) st ?_
      refine ow_convTo (n := x.kind) (n' := ((x.kind.toNat : Nat) : Int)) (by have := hkd; unfold u8ok at this; rw [wrap_u64 (by omega)]; omega) ?_
      refine ow_call (form_ev (n := x.kind.toNat) (by have := hkd; unfold u8ok at this; omega) st) ?_; intro r h9 st
      refine st_appB (p := P1) (l := form x.kind.toNat) 1 (buf_src st (i := 0) rfl) (by (try simp only [List.length_append]); omega) st ?_; intro v h9 st
      (refine goM ?_)
      have st := st.drop 1 rfl
      rcases mem with rfl | rfl | rfl | rfl | rfl | rfl | rfl | rfl | rfl
      · exact absurd rfl hne
      · have hwx : wCmd x = form x.kind.toNat ++ (wL wOp x.ops) := by
          unfold wCmd; rw [← hk]; simp [wU, wField]
        have hwl := congrArg List.length hwx
        try simp only [List.length_append] at hwl
        (refine goM ?_)
        have hwo : (wL wOp x.ops).length = (form x.ops.length).length + (x.ops.flatMap wOp).length := by unfold wL; rw [List.length_append]
        refine st_load (i := 1) st ?_
        (refine goM ?_)
        refine ow_call ((wrap_u64 (n := (x.ops.length : Int)) (by omega)).symm ▸ form_ev (n := x.ops.length) (by omega) st) ?_; intro r h9 st
        refine st_appB (p := (P1 ++ form x.kind.toNat)) (l := form x.ops.length) 1 (buf_src st (i := 0) rfl) (by (try simp only [List.length_append]); omega) st ?_; intro v h9 st
        (refine goM ?_)
        have st := st.drop 1 rfl
        obtain ⟨P2, hP2⟩ : ∃ P2, P2 = P1 ++ form x.kind.toNat ++ form x.ops.length := ⟨_, rfl⟩
        have hPl2 := congrArg List.length hP2
        simp only [List.length_append] at hPl2
        rw [← hP2] at st
        refine WK.weak (L' := [(1, .pointer (some ⟨b1, 0, none⟩)), (3, v), (6, .int .i64 (i : Int)), (7, .pointer (some ⟨b7, 0, none⟩)), (12, .bool false), (13, .bool false), (15, .int .i64 ((0 : Nat) : Int))]) ?_ ⟨rfl, rfl, rfl, rfl, rfl, rfl, rfl, trivial⟩
        refine wk_inv (ι := Value × Nat × H) (fun z => [(1, .pointer (some ⟨b1, 0, none⟩)), (3, z.1), (6, .int .i64 (i : Int)), (7, .pointer (some ⟨b7, 0, none⟩)), (12, .bool false), (13, .bool false), (15, .int .i64 (z.2.1 : Int))]) (fun z => z.2.2) (fun z => z.2.1 ≤ x.ops.length ∧ St h S z.2.2 (BufB z.1 (P2 ++ (x.ops.take z.2.1).flatMap wOp) :: blk b7 (.cells [.int .u8 x.kind, .int .i64 x.i, .int .i64 x.j, .int .i64 x.key, .int .i64 x.by', .slice oa x.ops.length oc, .slice ta x.bytes.length tc, .slice pa x.patch.length pc] 0) :: blk b1 (.cells [.slice ka ks.length kc, .int .i64 ml, .int .i64 mu, .slice (some ⟨b, of, none⟩) cm.length cc] 0) :: As)) (fun z => x.ops.length - z.2.1) ?_ (v, 0, _) ⟨Nat.zero_le _, by simp only [List.take_zero, List.flatMap_nil, List.append_nil]; exact st⟩
        clear st
        rintro ⟨v, j, h10⟩ ⟨hj, st⟩ ih2
        simp only at hj st ih2 ⊢
        (refine goM ?_)
        refine st_load (i := 1) st ?_
        (refine goM ?_)
        by_cases hlt2 : j < x.ops.length
        · refine ow_cmp (hv := lss_t (by omega)) ?_
          (refine goM ?_)
          obtain ⟨b8, of8, y, ycs, rfl, hS8, hcap8, hyi, hyl, hRo, hrd8⟩ := qo0.at hlt2
          have hmem8 : y ∈ x.ops := List.mem_of_getElem? hyi
          have hle8 := flat_take_le (w := wOp) hyi
          obtain ⟨yk, yn, yr, ys, yp⟩ := hops1 y hmem8
          obtain ⟨vr, vs, vp, rfl, qr, qs, qpp⟩ := hRo
          have qr0 := qr
          have qs0 := qs
          have qpp0 := qpp
          obtain ⟨ra, rn, rc, rfl, hrn, hrc, hr62, _⟩ := qr
          obtain ⟨sa, sn, sc, rfl, hsn, hsc, hs62, _⟩ := qs
          obtain ⟨ppa, ppn, ppc, rfl, hppn, hppc, hpp62, _⟩ := qpp
          subst hrn
          subst hsn
          subst hppn
          have hwy : wOp y = form y.kind.toNat ++ (wI y.n ++ (form y.runes.length ++ y.runes.flatMap wI ++ (wL wAttr y.set ++ wL wChg y.patch))) := rfl
          have hwyl := congrArg List.length hwy
          simp only [List.length_append] at hwyl
          obtain ⟨P3, hP3⟩ : ∃ P3, P3 = P2 ++ (x.ops.take j).flatMap wOp := ⟨_, rfl⟩
          have hPl3 := congrArg List.length hP3
          simp only [List.length_append] at hPl3
          rw [← hP3] at st
          have hrd9 := hrd8
          rw [← st.read hS8] at hrd9
          refine st_load (i := 1) st ?_
          (refine goM ?_)
          refine ow_index hlt2 hcap8 ?_
          refine ow_loadA hrd9 ?_
          refine st_alloc st ?_; intro b16 h11 st
          refine st_store (i := 0) st ?_; intro h12 st
          (refine goM ?_)
          have st := st.pull 1 rfl
          refine st_load (i := 1) st ?_
          refine ow_convTo (n := y.kind) (n' := ((y.kind.toNat : Nat) : Int)) (by have := yk; unfold u8ok at this; rw [wrap_u64 (by omega)]; omega) ?_
          refine ow_call (form_ev (n := y.kind.toNat) (by have := yk; unfold u8ok at this; omega) st) ?_; intro r h9 st
          refine st_appB (p := P3) (l := form y.kind.toNat) 1 (buf_src st (i := 0) rfl) (by (try simp only [List.length_append]); omega) st ?_; intro v h9 st
          (refine goM ?_)
          have st := st.drop 1 rfl
          refine st_load (i := 1) st ?_
          refine ow_call (whole_ev yn st) ?_; intro r h9 st
          refine st_appB (p := (P3 ++ form y.kind.toNat)) (l := wI y.n) 1 (buf_src st (i := 0) rfl) (by (try simp only [List.length_append]); omega) st ?_; intro v h9 st
          (refine goM ?_)
          have st := st.drop 1 rfl
          refine st_load (i := 1) st ?_
          (refine goM ?_)
          refine ow_call ((wrap_u64 (n := (y.runes.length : Int)) (by omega)).symm ▸ form_ev (n := y.runes.length) (by omega) st) ?_; intro r h9 st
          refine st_appB (p := (P3 ++ form y.kind.toNat ++ wI y.n)) (l := form y.runes.length) 1 (buf_src st (i := 0) rfl) (by (try simp only [List.length_append]); omega) st ?_; intro v h9 st
          (refine goM ?_)
          have st := st.drop 1 rfl
          obtain ⟨P4, hP4⟩ : ∃ P4, P4 = P3 ++ form y.kind.toNat ++ wI y.n ++ form y.runes.length := ⟨_, rfl⟩
          have hPl4 := congrArg List.length hP4
          simp only [List.length_append] at hPl4
          rw [← hP4] at st
          refine WK.weak (L' := [(1, .pointer (some ⟨b1, 0, none⟩)), (3, v), (6, .int .i64 (i : Int)), (7, .pointer (some ⟨b7, 0, none⟩)), (12, .bool false), (13, .bool false), (15, .int .i64 (j : Int)), (16, .pointer (some ⟨b16, 0, none⟩)), (17, .int .i64 ((0 : Nat) : Int))]) ?_ ⟨rfl, rfl, rfl, rfl, rfl, rfl, rfl, rfl, rfl, trivial⟩
          refine wk_inv (ι := Value × Nat × H) (fun z => [(1, .pointer (some ⟨b1, 0, none⟩)), (3, z.1), (6, .int .i64 (i : Int)), (7, .pointer (some ⟨b7, 0, none⟩)), (12, .bool false), (13, .bool false), (15, .int .i64 (j : Int)), (16, .pointer (some ⟨b16, 0, none⟩)), (17, .int .i64 (z.2.1 : Int))]) (fun z => z.2.2) (fun z => z.2.1 ≤ y.runes.length ∧ St h S z.2.2 (BufB z.1 (P4 ++ (y.runes.take z.2.1).flatMap wI) :: blk b16 (.cells [.int .u8 y.kind, .int .i64 y.n, .slice ra y.runes.length rc, .slice sa y.set.length sc, .slice ppa y.patch.length ppc] 0) :: blk b7 (.cells [.int .u8 x.kind, .int .i64 x.i, .int .i64 x.j, .int .i64 x.key, .int .i64 x.by', .slice (some ⟨b8, of8, none⟩) x.ops.length oc, .slice ta x.bytes.length tc, .slice pa x.patch.length pc] 0) :: blk b1 (.cells [.slice ka ks.length kc, .int .i64 ml, .int .i64 mu, .slice (some ⟨b, of, none⟩) cm.length cc] 0) :: As)) (fun z => y.runes.length - z.2.1) ?_ (v, 0, _) ⟨Nat.zero_le _, by simp only [List.take_zero, List.flatMap_nil, List.append_nil]; exact st⟩
          clear st
          rintro ⟨v, m, h20⟩ ⟨hm, st⟩ ih3
          simp only at hm st ih3 ⊢
          (refine goM ?_)
          refine st_load (i := 1) st ?_
          (refine goM ?_)
          by_cases hlt3 : m < y.runes.length
          · refine ow_cmp (hv := lss_t (by omega)) ?_
            (refine goM ?_)
            obtain ⟨b9, of9, z, zcs, rfl, hS9, hcap9, hzi, hzl, rfl, hrd10⟩ := qr0.at hlt3
            have hle9 := flat_take_le (w := wI) hzi
            have hz32 := yr z (List.mem_of_getElem? hzi)
            have hz64 : i64ok z := by unfold i32ok at hz32; unfold i64ok; omega
            rw [← st.read hS9] at hrd10
            refine st_load (i := 1) st ?_
            (refine goM ?_)
            refine ow_index hlt3 hcap9 ?_
            refine ow_load (v := .int .i32 z) (read_load hrd10 (k := 0) (by decide)) ?_
            refine ow_convTo (n := z) (n' := z) (wrap_i64 hz64) ?_
            refine ow_call (whole_ev hz64 st) ?_; intro r h9 st
            refine st_appB (p := (P4 ++ (y.runes.take m).flatMap wI)) (l := wI z) 1 (buf_src st (i := 0) rfl) (by (try simp only [List.length_append]); omega) st ?_; intro v h9 st
            (refine goM ?_)
            have st := st.drop 1 rfl
            refine ow_int (hv := add_one (by omega)) ?_
            (refine goM ?_)
            refine dn_loop ?_
            refine (ih3 (v, m + 1, _) ⟨hlt3, ?_⟩ (by simp only; omega)).weak ⟨rfl, rfl, rfl, rfl, rfl, rfl, rfl, rfl, rfl, trivial⟩
            simp only
            rw [flat_take hzi, ← List.append_assoc]; exact st
          · refine ow_cmp (hv := lss_f (by omega)) ?_
            have : m = y.runes.length := by omega
            subst this
            rw [List.take_length] at st
            (refine goM ?_)
            refine st_load (i := 1) st ?_
            refine ow_call (rset_ev (qs0.gr st.gr) ys (by omega) st) ?_; intro r h9 st
            refine st_appB (p := (P4 ++ y.runes.flatMap wI)) (l := wL wAttr y.set) 1 (buf_src st (i := 0) rfl) (by (try simp only [List.length_append]); omega) st ?_; intro v h9 st
            (refine goM ?_)
            have st := st.drop 1 rfl
            refine st_load (i := 1) st ?_
            refine ow_call (rpatch_ev (qpp0.gr st.gr) yp (by omega) st) ?_; intro r h9 st
            refine st_appB (p := (P4 ++ y.runes.flatMap wI ++ wL wAttr y.set)) (l := wL wChg y.patch) 1 (buf_src st (i := 0) rfl) (by (try simp only [List.length_append]); omega) st ?_; intro v h9 st
            (refine goM ?_)
            have st := st.drop 1 rfl
            refine ow_int (hv := add_one (by omega)) ?_
            (refine goM ?_)
            refine dn_loop ?_
            have st := st.drop 1 rfl
            refine (ih2 (v, j + 1, _) ⟨hlt2, ?_⟩ (by simp only; omega)).weak ⟨rfl, rfl, rfl, rfl, rfl, rfl, rfl, trivial⟩
            simp only
            have e : P2 ++ (x.ops.take (j + 1)).flatMap wOp = P4 ++ y.runes.flatMap wI ++ wL wAttr y.set ++ wL wChg y.patch := by
              rw [flat_take hyi, ← List.append_assoc, ← hP3, hwy, hP4]; simp only [List.append_assoc]
            rw [e]; exact st
        · refine ow_cmp (hv := lss_f (by omega)) ?_
          have : j = x.ops.length := by omega
          subst this
          rw [List.take_length] at st
          (refine goM ?_)
          refine ow_int (hv := add_one (by omega)) ?_
          (refine goM ?_)
          refine dn_loop ?_
          have st := st.drop 1 rfl
          refine (ih (v, i + 1, _) ⟨hlt, ?_⟩ (by simp only; omega)).weak ⟨rfl, rfl, rfl, trivial⟩
          simp only
          have e : P0 ++ (cm.take (i + 1)).flatMap wCmd = P2 ++ x.ops.flatMap wOp := by
            rw [flat_take hxi, ← List.append_assoc, ← hP1, hwx, hP2]; unfold wL; simp only [List.append_assoc]
          rw [e]; exact st
      · have hwx : wCmd x = form x.kind.toNat ++ (wB x.bytes) := by
          unfold wCmd; rw [← hk]; simp [wU, wField]
        have hwl := congrArg List.length hwx
        try simp only [List.length_append] at hwl
        (refine goM ?_)
        refine st_load (i := 1) st ?_
        refine ow_call (text_ev (Byt.sl (qb0.gr st.gr)) (qb0.gr st.gr) (by omega) st) ?_; intro r h9 st
        refine st_appB (p := (P1 ++ form x.kind.toNat)) (l := wB x.bytes) 1 (buf_src st (i := 0) rfl) (by (try simp only [List.length_append]); omega) st ?_; intro v h9 st
        (refine goM ?_)
        have st := st.drop 1 rfl
        refine ow_int (hv := add_one (by omega)) ?_
        (refine goM ?_)
        refine dn_loop ?_
        have st := st.drop 1 rfl
        refine (ih (v, i + 1, _) ⟨hlt, ?_⟩ (by simp only; omega)).weak ⟨rfl, rfl, rfl, trivial⟩
        simp only
        have e : P0 ++ (cm.take (i + 1)).flatMap wCmd = P1 ++ form x.kind.toNat ++ wB x.bytes := by
          rw [flat_take hxi, ← List.append_assoc, ← hP1, hwx]; all_goals simp only [List.append_assoc]
        rw [e]; exact st
      · have hwx : wCmd x = form x.kind.toNat ++ (wI x.i ++ (wB x.bytes)) := by
          unfold wCmd; rw [← hk]; simp [wU, wField]
        have hwl := congrArg List.length hwx
        try simp only [List.length_append] at hwl
        (refine goM ?_)
        refine st_load (i := 1) st ?_
        refine ow_call (whole_ev hi1 st) ?_; intro r h9 st
        refine st_appB (p := (P1 ++ form x.kind.toNat)) (l := wI x.i) 1 (buf_src st (i := 0) rfl) (by (try simp only [List.length_append]); omega) st ?_; intro v h9 st
        (refine goM ?_)
        have st := st.drop 1 rfl
        refine st_load (i := 1) st ?_
        refine ow_call (text_ev (Byt.sl (qb0.gr st.gr)) (qb0.gr st.gr) (by omega) st) ?_; intro r h9 st
        refine st_appB (p := (P1 ++ form x.kind.toNat ++ wI x.i)) (l := wB x.bytes) 1 (buf_src st (i := 0) rfl) (by (try simp only [List.length_append]); omega) st ?_; intro v h9 st
        (refine goM ?_)
        have st := st.drop 1 rfl
        refine ow_int (hv := add_one (by omega)) ?_
        (refine goM ?_)
        refine dn_loop ?_
        have st := st.drop 1 rfl
        refine (ih (v, i + 1, _) ⟨hlt, ?_⟩ (by simp only; omega)).weak ⟨rfl, rfl, rfl, trivial⟩
        simp only
        have e : P0 ++ (cm.take (i + 1)).flatMap wCmd = P1 ++ form x.kind.toNat ++ wI x.i ++ wB x.bytes := by
          rw [flat_take hxi, ← List.append_assoc, ← hP1, hwx]; all_goals simp only [List.append_assoc]
        rw [e]; exact st
      · have hwx : wCmd x = form x.kind.toNat ++ (wI x.i ++ (wI x.j)) := by
          unfold wCmd; rw [← hk]; simp [wU, wField]
        have hwl := congrArg List.length hwx
        try simp only [List.length_append] at hwl
        (refine goM ?_)
        refine st_load (i := 1) st ?_
        refine ow_call (whole_ev hi1 st) ?_; intro r h9 st
        refine st_appB (p := (P1 ++ form x.kind.toNat)) (l := wI x.i) 1 (buf_src st (i := 0) rfl) (by (try simp only [List.length_append]); omega) st ?_; intro v h9 st
        (refine goM ?_)
        have st := st.drop 1 rfl
        refine st_load (i := 1) st ?_
        refine ow_call (whole_ev hj1 st) ?_; intro r h9 st
        refine st_appB (p := (P1 ++ form x.kind.toNat ++ wI x.i)) (l := wI x.j) 1 (buf_src st (i := 0) rfl) (by (try simp only [List.length_append]); omega) st ?_; intro v h9 st
        (refine goM ?_)
        have st := st.drop 1 rfl
        refine ow_int (hv := add_one (by omega)) ?_
        (refine goM ?_)
        refine dn_loop ?_
        have st := st.drop 1 rfl
        refine (ih (v, i + 1, _) ⟨hlt, ?_⟩ (by simp only; omega)).weak ⟨rfl, rfl, rfl, trivial⟩
        simp only
        have e : P0 ++ (cm.take (i + 1)).flatMap wCmd = P1 ++ form x.kind.toNat ++ wI x.i ++ wI x.j := by
          rw [flat_take hxi, ← List.append_assoc, ← hP1, hwx]; all_goals simp only [List.append_assoc]
        rw [e]; exact st
      · have hwx : wCmd x = form x.kind.toNat ++ (wI x.i ++ (wI x.j ++ (wL wChg x.patch))) := by
          unfold wCmd; rw [← hk]; simp [wU, wField]
        have hwl := congrArg List.length hwx
        try simp only [List.length_append] at hwl
        (refine goM ?_)
        refine st_load (i := 1) st ?_
        refine ow_call (whole_ev hi1 st) ?_; intro r h9 st
        refine st_appB (p := (P1 ++ form x.kind.toNat)) (l := wI x.i) 1 (buf_src st (i := 0) rfl) (by (try simp only [List.length_append]); omega) st ?_; intro v h9 st
        (refine goM ?_)
        have st := st.drop 1 rfl
        refine st_load (i := 1) st ?_
        refine ow_call (whole_ev hj1 st) ?_; intro r h9 st
        refine st_appB (p := (P1 ++ form x.kind.toNat ++ wI x.i)) (l := wI x.j) 1 (buf_src st (i := 0) rfl) (by (try simp only [List.length_append]); omega) st ?_; intro v h9 st
        (refine goM ?_)
        have st := st.drop 1 rfl
        refine st_load (i := 1) st ?_
        refine ow_call (rpatch_ev (qp0.gr st.gr) hpat1 (by omega) st) ?_; intro r h9 st
        refine st_appB (p := (P1 ++ form x.kind.toNat ++ wI x.i ++ wI x.j)) (l := wL wChg x.patch) 1 (buf_src st (i := 0) rfl) (by (try simp only [List.length_append]); omega) st ?_; intro v h9 st
        (refine goM ?_)
        have st := st.drop 1 rfl
        refine ow_int (hv := add_one (by omega)) ?_
        (refine goM ?_)
        refine dn_loop ?_
        have st := st.drop 1 rfl
        refine (ih (v, i + 1, _) ⟨hlt, ?_⟩ (by simp only; omega)).weak ⟨rfl, rfl, rfl, trivial⟩
        simp only
        have e : P0 ++ (cm.take (i + 1)).flatMap wCmd = P1 ++ form x.kind.toNat ++ wI x.i ++ wI x.j ++ wL wChg x.patch := by
          rw [flat_take hxi, ← List.append_assoc, ← hP1, hwx]; all_goals simp only [List.append_assoc]
        rw [e]; exact st
      · have hwx : wCmd x = form x.kind.toNat ++ (wI x.i ++ (wI x.j ++ (wI x.key ++ (wI x.by')))) := by
          unfold wCmd; rw [← hk]; simp [wU, wField]
        have hwl := congrArg List.length hwx
        try simp only [List.length_append] at hwl
        (refine goM ?_)
        refine st_load (i := 1) st ?_
        refine ow_call (whole_ev hi1 st) ?_; intro r h9 st
        refine st_appB (p := (P1 ++ form x.kind.toNat)) (l := wI x.i) 1 (buf_src st (i := 0) rfl) (by (try simp only [List.length_append]); omega) st ?_; intro v h9 st
        (refine goM ?_)
        have st := st.drop 1 rfl
        refine st_load (i := 1) st ?_
        refine ow_call (whole_ev hj1 st) ?_; intro r h9 st
        refine st_appB (p := (P1 ++ form x.kind.toNat ++ wI x.i)) (l := wI x.j) 1 (buf_src st (i := 0) rfl) (by (try simp only [List.length_append]); omega) st ?_; intro v h9 st
        (refine goM ?_)
        have st := st.drop 1 rfl
        refine st_load (i := 1) st ?_
        refine ow_call (whole_ev hkey1 st) ?_; intro r h9 st
        refine st_appB (p := (P1 ++ form x.kind.toNat ++ wI x.i ++ wI x.j)) (l := wI x.key) 1 (buf_src st (i := 0) rfl) (by (try simp only [List.length_append]); omega) st ?_; intro v h9 st
        (refine goM ?_)
        have st := st.drop 1 rfl
        refine st_load (i := 1) st ?_
        refine ow_call (whole_ev hby1 st) ?_; intro r h9 st
        refine st_appB (p := (P1 ++ form x.kind.toNat ++ wI x.i ++ wI x.j ++ wI x.key)) (l := wI x.by') 1 (buf_src st (i := 0) rfl) (by (try simp only [List.length_append]); omega) st ?_; intro v h9 st
        (refine goM ?_)
        have st := st.drop 1 rfl
        refine ow_int (hv := add_one (by omega)) ?_
        (refine goM ?_)
        refine dn_loop ?_
        have st := st.drop 1 rfl
        refine (ih (v, i + 1, _) ⟨hlt, ?_⟩ (by simp only; omega)).weak ⟨rfl, rfl, rfl, trivial⟩
        simp only
        have e : P0 ++ (cm.take (i + 1)).flatMap wCmd = P1 ++ form x.kind.toNat ++ wI x.i ++ wI x.j ++ wI x.key ++ wI x.by' := by
          rw [flat_take hxi, ← List.append_assoc, ← hP1, hwx]; all_goals simp only [List.append_assoc]
        rw [e]; exact st
      · have hwx : wCmd x = form x.kind.toNat ++ (wI x.i) := by
          unfold wCmd; rw [← hk]; simp [wU, wField]
        have hwl := congrArg List.length hwx
        try simp only [List.length_append] at hwl
        (refine goM ?_)
        refine st_load (i := 1) st ?_
        refine ow_call (whole_ev hi1 st) ?_; intro r h9 st
        refine st_appB (p := (P1 ++ form x.kind.toNat)) (l := wI x.i) 1 (buf_src st (i := 0) rfl) (by (try simp only [List.length_append]); omega) st ?_; intro v h9 st
        (refine goM ?_)
        have st := st.drop 1 rfl
        refine ow_int (hv := add_one (by omega)) ?_
        (refine goM ?_)
        refine dn_loop ?_
        have st := st.drop 1 rfl
        refine (ih (v, i + 1, _) ⟨hlt, ?_⟩ (by simp only; omega)).weak ⟨rfl, rfl, rfl, trivial⟩
        simp only
        have e : P0 ++ (cm.take (i + 1)).flatMap wCmd = P1 ++ form x.kind.toNat ++ wI x.i := by
          rw [flat_take hxi, ← List.append_assoc, ← hP1, hwx]; all_goals simp only [List.append_assoc]
        rw [e]; exact st
      · have hwx : wCmd x = form x.kind.toNat := by
          unfold wCmd; rw [← hk]; simp [wU, wField]
        have hwl := congrArg List.length hwx
        try simp only [List.length_append] at hwl
        (refine goM ?_)
        refine ow_int (hv := add_one (by omega)) ?_
        (refine goM ?_)
        refine dn_loop ?_
        have st := st.drop 1 rfl
        refine (ih (v, i + 1, _) ⟨hlt, ?_⟩ (by simp only; omega)).weak ⟨rfl, rfl, rfl, trivial⟩
        simp only
        have e : P0 ++ (cm.take (i + 1)).flatMap wCmd = P1 ++ form x.kind.toNat := by
          rw [flat_take hxi, ← List.append_assoc, ← hP1, hwx]; all_goals simp only [List.append_assoc, List.append_nil]
        rw [e]; exact st
    · refine ow_cmp (hv := lss_f (by omega)) ?_
      have : i = cm.length := by omega
      subst this
      rw [List.take_length] at st
      (refine goM ?_)
      refine end_res st.nx rfl ?_
      have e : wScr ⟨ks, ml, mu, cm⟩ = P0 ++ cm.flatMap wCmd := by
        rw [hP0]; unfold wScr wL; simp only [List.append_assoc]
      rw [e]
      exact stA.over (st.drop 1 rfl)
end
end Go.Proofs.YtmaccpaiaidgpaaGreatDoor

/- The law ScriptReads. -/
namespace Go.Proofs.YtmaccpaiaidgpaaGreatDoor
open Go Go.Mir
set_option maxRecDepth 10000

section
variable {h0 h : H} {S : Nat → Prop} {As : List Asn}

set_option maxHeartbeats 2000000 in
theorem rsame0_ev (st : St h0 S h As) : Cal cxo 24 [.agg ⟨zeroScr⟩, .agg ⟨zeroScr⟩] h (fun r h' => r = .bool true ∧ St h0 S h' As) := by
  have stA := st
  have st := st.rebase
  refine cal_intro (C := cxo) rfl rfl rfl rfl ?_
  (refine goM ?_)
  refine st_box st ?_; intro b1 h1 st
  (refine goM ?_)
  refine st_box st ?_; intro b2 h2 st
  (refine goL ?_)
  refine wk_loop ?_
  (refine goL ?_)
  refine wk_loop ?_
  (refine goL ?_)
  exact end_res st.nx rfl ⟨rfl, stA.over ((st.drop 0 rfl).drop 0 rfl)⟩
end
end Go.Proofs.YtmaccpaiaidgpaaGreatDoor

