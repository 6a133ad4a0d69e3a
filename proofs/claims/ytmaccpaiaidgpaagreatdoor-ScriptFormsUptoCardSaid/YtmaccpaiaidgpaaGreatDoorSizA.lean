/- How much scripts have, as the reference counts. -/
import Derived.Test.YtmaccpaiaidgpaaGreatDoorTabsO
import Derived.Test.YtmaccpaiaidgpaaGreatDoorScrA
import Derived.Test.YtmaccpaiaidgpaaGreatDoorReadB
/- How much a delta has, a command, a script. -/
namespace Go.Proofs.YtmaccpaiaidgpaaGreatDoor
open Go Go.Mir
set_option maxRecDepth 10000

theorem sum_nAttr : ∀ l : List PAttr, (l.map nAttr).sum = l.length + (l.map (·.v.s.size)).sum
  | [] => rfl
  | a :: l => by simp only [List.map_cons, List.sum_cons, sum_nAttr l, nAttr, List.length_cons]; omega
theorem sum_nChg : ∀ l : List PChg, (l.map nChg).sum = l.length + (l.map (·.v.s.size)).sum
  | [] => rfl
  | a :: l => by simp only [List.map_cons, List.sum_cons, sum_nChg l, nChg, List.length_cons]; omega
theorem sum_take {α : Type} {f : α → Nat} {l : List α} {i : Nat} {x : α} (h : l[i]? = some x) : ((l.take (i + 1)).map f).sum = ((l.take i).map f).sum + f x := by
  rw [List.take_add_one, h]; simp
theorem sum_take_le {α : Type} {f : α → Nat} (l : List α) (i : Nat) : ((l.take i).map f).sum ≤ (l.map f).sum := by
  have := congrArg List.sum (congrArg (List.map f) (List.take_append_drop i l))
  rw [List.map_append, List.sum_append] at this
  omega

set_option maxHeartbeats 4000000 in
theorem sizeX_ev {h : H} {S : Nat → Prop} {v : Value} {xs : List POp} (hx : Sl h S 5 (ROp h S) v xs) (hB : (xs.map nOp).sum < 2 ^ 40) : Cal cxo 32 [v] h (fun r h' => r = .int .i64 (((xs.map nOp).sum : Nat) : Int) ∧ h = h') := by
  obtain ⟨a, n, c, rfl, hn, hcap, h62, hel⟩ := hx.inv
  clear hx
  subst hn
  refine cal_intro (C := cxo) rfl rfl rfl rfl ?_
  refine go ?_
  refine WK.weak (L' := [(0, .slice a xs.length c), (3, .int .i64 ((0 : Nat) : Int)), (4, .int .i64 ((0 : Nat) : Int))]) ?_ ⟨rfl, rfl, rfl, trivial⟩
  refine wk_inv (ι := Nat) (fun p => [(0, .slice a xs.length c), (3, .int .i64 ((((xs.take p).map nOp).sum : Nat) : Int)), (4, .int .i64 (p : Int))]) (fun _ => h) (fun p => p ≤ xs.length) (fun p => xs.length - p) ?_ 0 (Nat.zero_le _)
  rintro i ok ih1
  by_cases hlt : i < xs.length
  · obtain ⟨b, o, x, cs, rfl, hS, hxi, hl, ⟨r, s, p, rfl, hr, hset, hpat⟩, hrd⟩ := hel i hlt
    have hs0 := sum_take (f := nOp) hxi
    have hs1 := sum_take_le (f := nOp) xs (i + 1)
    obtain ⟨M, hM⟩ : ∃ M, M = ((xs.take i).map nOp).sum := ⟨_, rfl⟩
    rw [← hM] at hs0 ⊢
    have hno : nOp x = 1 + x.runes.length + (x.set.length + (x.set.map (·.v.s.size)).sum) + (x.patch.length + (x.patch.map (·.v.s.size)).sum) := by unfold nOp; rw [sum_nAttr, sum_nChg]
    obtain ⟨ra, rn, rc, rfl, hrn, _, _, _⟩ := hr.inv
    obtain ⟨sa, sn, sc, rfl, hsn, hsc, hs62, hsel⟩ := hset.inv
    obtain ⟨pa, pn, pc, rfl, hpn, hpc, hp62, hpel⟩ := hpat.inv
    have f2 := read_load hrd (k := 2) (by decide)
    have f3 := read_load hrd (k := 3) (by decide)
    have f4 := read_load hrd (k := 4) (by decide)
    refine go ?_
    refine WK.weak (L' := [(0, .slice (some ⟨b, o, none⟩) xs.length c), (3, .int .i64 ((M + 1 + rn + sn + pn + ((x.set.take 0).map (·.v.s.size)).sum : Nat) : Int)), (4, .int .i64 (i : Int)), (5, .int .i64 ((0 : Nat) : Int))]) ?_ ⟨rfl, rfl, rfl, rfl, trivial⟩
    refine wk_inv (ι := Nat) (fun p => [(0, .slice (some ⟨b, o, none⟩) xs.length c), (3, .int .i64 ((M + 1 + rn + sn + pn + ((x.set.take p).map (·.v.s.size)).sum : Nat) : Int)), (4, .int .i64 (i : Int)), (5, .int .i64 (p : Int))]) (fun _ => h) (fun p => p ≤ sn) (fun p => sn - p) ?_ 0 (Nat.zero_le _)
    rintro k ok2 ih2
    have hq1 := sum_take_le (f := fun a : PAttr => a.v.s.size) x.set k
    have hq2 := sum_take_le (f := fun a : PAttr => a.v.s.size) x.set (k + 1)
    by_cases hk : k < sn
    · obtain ⟨b2, o2, x2, cs2, rfl, _, hx2, _, rfl, hrd2⟩ := hsel k hk
      have g := read_load hrd2 (k := 4) (by decide)
      have hs2 := sum_take (f := fun a : PAttr => a.v.s.size) hx2
      refine go ?_
      refine dn_loop ?_
      refine (ih2 (k + 1) (by omega) (by omega)).weak ⟨rfl, ?_, rfl, rfl, trivial⟩
      rw [hs2, ← Nat.add_assoc]; rfl
    · have hk2 : k = sn := by omega
      subst hk2
      rw [hsn, List.take_length]
      rw [hsn, List.take_length] at hq1
      rw [← hsn]
      refine go ?_
      obtain ⟨M2, hM2⟩ : ∃ M2, M2 = M + 1 + rn + k + pn + (x.set.map (·.v.s.size)).sum := ⟨_, rfl⟩
      rw [← hM2]
      refine WK.weak (L' := [(0, .slice (some ⟨b, o, none⟩) xs.length c), (3, .int .i64 ((M2 + ((x.patch.take 0).map (·.v.s.size)).sum : Nat) : Int)), (4, .int .i64 (i : Int)), (6, .int .i64 ((0 : Nat) : Int))]) ?_ ⟨rfl, rfl, rfl, rfl, trivial⟩
      refine wk_inv (ι := Nat) (fun p => [(0, .slice (some ⟨b, o, none⟩) xs.length c), (3, .int .i64 ((M2 + ((x.patch.take p).map (·.v.s.size)).sum : Nat) : Int)), (4, .int .i64 (i : Int)), (6, .int .i64 (p : Int))]) (fun _ => h) (fun p => p ≤ pn) (fun p => pn - p) ?_ 0 (Nat.zero_le _)
      rintro k3 ok3 ih3
      have hq3 := sum_take_le (f := fun a : PChg => a.v.s.size) x.patch k3
      have hq4 := sum_take_le (f := fun a : PChg => a.v.s.size) x.patch (k3 + 1)
      by_cases hk3 : k3 < pn
      · obtain ⟨b2, o2, x2, cs2, rfl, _, hx2, _, rfl, hrd2⟩ := hpel k3 hk3
        have g := read_load hrd2 (k := 5) (by decide)
        have hs2 := sum_take (f := fun a : PChg => a.v.s.size) hx2
        refine go ?_
        refine dn_loop ?_
        refine (ih3 (k3 + 1) (by omega) (by omega)).weak ⟨rfl, ?_, rfl, rfl, trivial⟩
        rw [hs2, ← Nat.add_assoc]; rfl
      · have hk4 : k3 = pn := by omega
        subst hk4
        rw [hpn, List.take_length]
        refine go ?_
        refine dn_loop ?_
        refine (ih1 (i + 1) (by omega) (by omega)).weak ⟨rfl, ?_, rfl, trivial⟩
        have : M2 + (x.patch.map (·.v.s.size)).sum = ((xs.take (i + 1)).map nOp).sum := by omega
        rw [← this]; rfl
  · have hi : i = xs.length := by omega
    subst hi
    rw [List.take_length]
    refine go ?_
    exact end_res (Nat.le_refl _) rfl ⟨rfl, rfl⟩

section
variable {h0 h : H} {S : Nat → Prop} {As : List Asn}
set_option maxHeartbeats 4000000 in
theorem sizeDoX_ev {k i j ky b : Int} {xo xb xp : Value} {ops : List POp} {bytes : List UInt8} {patch : List PChg} (qo : Sl h S 5 (Go.Mir.ROp h S) xo ops) (qb : Sl h S 1 RByte xb bytes) (qp : Sl h S 6 (LChg h S) xp patch) (hB : (ops.map nOp).sum + bytes.length + (patch.map nChg).sum < 2 ^ 40) (st : St h0 S h As) :
    Cal cxo 8 [.agg ⟨[.int .i64 k, .int .i64 i, .int .i64 j, .int .i64 ky, .int .i64 b, xo, xb, xp]⟩] h (fun r h' => r = .int .i64 (((ops.map nOp).sum + bytes.length + (patch.map nChg).sum : Nat) : Int) ∧ St h0 S h' As) := by
  have stA := st
  have st := st.rebase
  have qo0 := qo
  obtain ⟨oa, on, oc, rfl, _⟩ := qo
  obtain ⟨ba, bn, bc, rfl, hbn, _⟩ := qb.inv
  obtain ⟨pa, pn, pc, rfl, hpn, hpc, hp62, hpel⟩ := qp.inv
  rw [sum_nChg] at hB ⊢
  refine cal_intro (C := cxo) rfl rfl rfl rfl ?_
  refine go ?_
  refine st_box st ?_; intro b1 h1 st
  refine go ?_
  refine ow_call (sizeX_ev (slOp_gr qo0 st.gr) (by omega)) ?_; rintro _ _ ⟨rfl, rfl⟩
  refine go ?_
  obtain ⟨M, hM⟩ : ∃ M, M = (ops.map nOp).sum + bn + pn := ⟨_, rfl⟩
  rw [← hM]
  refine WK.weak (L' := [(1, .pointer (some ⟨b1, 0, none⟩)), (3, .int .i64 ((M + ((patch.take 0).map (·.v.s.size)).sum : Nat) : Int)), (4, .int .i64 ((0 : Nat) : Int))]) ?_ ⟨rfl, rfl, rfl, trivial⟩
  refine wk_inv (ι := Nat) (fun p => [(1, .pointer (some ⟨b1, 0, none⟩)), (3, .int .i64 ((M + ((patch.take p).map (·.v.s.size)).sum : Nat) : Int)), (4, .int .i64 (p : Int))]) (fun _ => h1) (fun p => p ≤ pn) (fun p => pn - p) ?_ 0 (Nat.zero_le _)
  rintro q ok ih
  have hq1 := sum_take_le (f := fun a : PChg => a.v.s.size) patch q
  have hq2 := sum_take_le (f := fun a : PChg => a.v.s.size) patch (q + 1)
  by_cases hq : q < pn
  · obtain ⟨b2, o2, x2, cs2, rfl, hS, hx2, _, rfl, hrd2⟩ := hpel q hq
    rw [← st.read hS] at hrd2
    have g := read_load hrd2 (k := 5) (by decide)
    have hs2 := sum_take (f := fun a : PChg => a.v.s.size) hx2
    refine go ?_
    refine dn_loop ?_
    refine (ih (q + 1) (by omega) (by omega)).weak ⟨rfl, ?_, rfl, trivial⟩
    rw [hs2, ← Nat.add_assoc]; rfl
  · have hq3 : q = pn := by omega
    subst hq3
    refine go ?_
    refine end_res st.nx rfl ⟨?_, stA.over (st.drop 0 rfl)⟩
    rw [hpn, List.take_length]
    show Value.int .i64 _ = _
    congr 2
    omega

/-- A script's command as the reference's. -/
theorem do_ev {x : PCmd} {cs : List Value} (hk : u8ok x.kind) (q : RCmd h S x cs) (st : St h0 S h As) : Cal cxo 150 [.agg ⟨cs⟩] h (fun r h' => ∃ o b p, r = .agg ⟨[.int .i64 x.kind, .int .i64 x.i, .int .i64 x.j, .int .i64 x.key, .int .i64 x.by', o, b, p]⟩ ∧ Sl h' S 5 (Go.Mir.ROp h' S) o x.ops ∧ Sl h' S 1 RByte b x.bytes ∧ Sl h' S 6 (LChg h' S) p x.patch ∧ St h0 S h' As) := by
  have stA := st
  have st := st.rebase
  obtain ⟨xo, xb, xp, rfl, qo, qb, qp⟩ := q
  have qo0 := qo
  have qb0 := qb
  have qp0 := qp
  obtain ⟨oa, on, oc, rfl, _⟩ := qo
  obtain ⟨ta, tn, tc, rfl, _⟩ := qb
  obtain ⟨pa, pn, pc, rfl, _⟩ := qp
  refine cal_intro (C := cxo) rfl rfl rfl rfl ?_
  refine go ?_
  refine st_box st ?_; intro b1 h1 st
  refine st_alloc st ?_; intro b2 h2 st
  refine go ?_
  refine st_put st ?_; intro h3 st
  refine go ?_
  have e : IntKind.i64.wrap x.kind = x.kind := wrap_i64 (by unfold u8ok at hk; unfold i64ok; omega)
  refine end_cellA rfl st.nx (readOf (st.get 0 rfl) rfl) ⟨.slice oa on oc, .slice ta tn tc, .slice pa pn pc, ?_, slOp_gr qo0 st.gr, qb0.gr st.gr, qp0.gr st.gr, stA.over ((st.drop 0 rfl).drop 0 rfl)⟩
  show Value.agg ⟨[.int .i64 (IntKind.i64.wrap x.kind), _, _, _, _, _, _, _]⟩ = _
  rw [e]

theorem nScr_le {s : PScr} {i : Nat} : (s.keys.length + s.cmds.length + ((s.cmds.take i).map nCmd).sum) ≤ nScr s := by
  have := sum_take_le (f := nCmd) s.cmds i
  unfold nScr; omega

set_option maxHeartbeats 4000000 in
theorem scrSize_ev {s : PScr} {cs : List Value} (hk : ∀ x ∈ s.cmds, u8ok x.kind) (q : RScr h S s cs) (hB : nScr s < 2 ^ 40) (st : St h0 S h As) : Cal cxo 78 [.agg ⟨cs⟩] h (fun r h' => r = .int .i64 ((nScr s : Nat) : Int) ∧ St h0 S h' As) := by
  have stA := st
  have st := st.rebase
  obtain ⟨k, c, rfl, x1, x2⟩ := q
  have x2k := x2
  obtain ⟨ka, kn, kc, rfl, hkn, _⟩ := x1
  obtain ⟨ca, cn, cc, rfl, hcn, _⟩ := x2
  subst hcn hkn
  have hB1 := nScr_le (s := s) (i := 0)
  refine cal_intro (C := cxo) rfl rfl rfl rfl ?_
  refine go ?_
  refine st_box st ?_; intro b1 h1 st
  refine go ?_
  refine WK.weak (L' := [(1, .pointer (some ⟨b1, 0, none⟩)), (3, .int .i64 ((s.keys.length + s.cmds.length + ((s.cmds.take 0).map nCmd).sum : Nat) : Int)), (4, .int .i64 ((0 : Nat) : Int))]) ?_ ⟨rfl, rfl, rfl, trivial⟩
  refine wk_inv (ι := Nat × H) (fun z => [(1, .pointer (some ⟨b1, 0, none⟩)), (3, .int .i64 ((s.keys.length + s.cmds.length + ((s.cmds.take z.1).map nCmd).sum : Nat) : Int)), (4, .int .i64 (z.1 : Int))]) (fun z => z.2) (fun z => z.1 ≤ s.cmds.length ∧ St h S z.2 (blk b1 (.cells [.slice ka s.keys.length kc, .int .i64 s.maxLen, .int .i64 s.maxUndo, .slice ca s.cmds.length cc] 0) :: As)) (fun z => s.cmds.length - z.1) ?_ (0, h1) ⟨Nat.zero_le _, st⟩
  clear st
  rintro ⟨i, h2⟩ ⟨hi, st⟩ ih
  simp only at hi st ih ⊢
  have hB2 := nScr_le (s := s) (i := i)
  have hB3 := nScr_le (s := s) (i := i + 1)
  by_cases hlt : i < s.cmds.length
  · obtain ⟨b, o, y, ycs, rfl, hS, hcap, hyi, hyl, hR, hrd⟩ := x2k.at hlt
    have hs2 := sum_take (f := nCmd) hyi
    rw [← st.read hS] at hrd
    refine go ?_
    refine ow_call (do_ev (hk y (List.mem_of_getElem? hyi)) (hR.gr st.gr) st) ?_; rintro _ h3 ⟨o1, o2, o3, rfl, q1, q2, q3, st⟩
    have hn : (y.ops.map nOp).sum + y.bytes.length + (y.patch.map nChg).sum = nCmd y := rfl
    refine ow_call (sizeDoX_ev q1 q2 q3 (by rw [hn]; omega) st) ?_; rintro _ h4 ⟨rfl, st⟩
    rw [hn]
    refine go ?_
    refine dn_loop ?_
    refine (ih (i + 1, h4) ⟨hlt, st⟩ (by simp only; omega)).weak ⟨rfl, ?_, rfl, trivial⟩
    simp only
    rw [hs2, ← Nat.add_assoc]; rfl
  · have hi2 : i = s.cmds.length := by omega
    subst hi2
    rw [List.take_length]
    refine go ?_
    exact end_res st.nx rfl ⟨rfl, stA.over (st.drop 0 rfl)⟩

/-- More than is looked at? -/
theorem great_ev {s : PScr} {cs : List Value} (hk : ∀ x ∈ s.cmds, u8ok x.kind) (q : RScr h S s cs) (hB : nScr s < 2 ^ 40) (st : St h0 S h As) : Cal cxo 27 [.agg ⟨cs⟩] h (fun r h' => ∃ b, r = .bool b ∧ (b = false → s.cmds.length ≤ 40 ∧ nScr s ≤ 2000) ∧ St h0 S h' As) := by
  have stA := st
  have st := st.rebase
  have q0 := q
  obtain ⟨k, c, rfl, x1, x2⟩ := q
  obtain ⟨ka, kn, kc, rfl, hkn, _⟩ := x1
  obtain ⟨ca, cn, cc, rfl, hcn, _⟩ := x2
  refine cal_intro (C := cxo) rfl rfl rfl rfl ?_
  refine go ?_
  refine st_box st ?_; intro b1 h1 st
  by_cases g1 : 70 < kn
  · refine go ?_
    exact end_res st.nx rfl ⟨true, rfl, (fun q => nomatch q), stA.over (st.drop 0 rfl)⟩
  by_cases g2 : 40 < cn
  · refine go ?_
    exact end_res st.nx rfl ⟨true, rfl, (fun q => nomatch q), stA.over (st.drop 0 rfl)⟩
  refine go ?_
  refine ow_call (scrSize_ev hk (by obtain ⟨_, _, e, z1, z2⟩ := q0; exact ⟨_, _, e, z1.gr st.gr, slCmd_gr z2 st.gr⟩) hB st) ?_; rintro _ h2 ⟨rfl, st⟩
  by_cases g3 : 2000 < nScr s
  · refine go ?_
    exact end_res st.nx rfl ⟨true, rfl, (fun q => nomatch q), stA.over (st.drop 0 rfl)⟩
  · refine go ?_
    exact end_res st.nx rfl ⟨false, rfl, fun _ => ⟨by omega, by omega⟩, stA.over (st.drop 0 rfl)⟩
end
end Go.Proofs.YtmaccpaiaidgpaaGreatDoor

