/- ScriptForms, walked. -/
import Derived.Test.YtmaccpaiaidgpaaGreatDoorOnlyL
import Derived.Test.YtmaccpaiaidgpaaGreatDoorEqA
import Derived.Test.YtmaccpaiaidgpaaGreatDoorSizA
import Derived.Test.YtmaccpaiaidgpaaGreatDoorScrA
import Derived.Test.YtmaccpaiaidgpaaGreatDoorFormsR
import Derived.Test.YtmaccpaiaidgpaaGreatDoorRefB
/- The law ScriptForms. -/
namespace Go.Mir
section
variable {h0 h : H} {S : Nat → Prop} {As : List Asn}

/-- A row of bytes of one's own stays, and may be had back. -/
theorem St.lend {v : Value} {l : List UInt8} {i : Nat} (st : St h0 S h As) (hi : nth As i = some (BufB v l)) (hne : l ≠ []) (hl : l.length < 2 ^ 62) :
    ∃ B, v = .slice (some ⟨B, 0, none⟩) l.length LOOSE ∧ ¬ S B ∧ B < h.next ∧ h.get B = some (.cells (bytesV l) 1) ∧ Bs h (fun a => S a ∨ a = B) v l ∧ Gr S h (fun a => S a ∨ a = B) h ∧ St h (fun a => S a ∨ a = B) h (eraseAt As i) := by
  obtain ⟨K, hK, hg, st2⟩ := st.freeze i hi
  rcases hK.2 with ⟨hn, _⟩ | ⟨b, rfl, rfl⟩
  · exact absurd (List.eq_nil_of_length_eq_zero hn) hne
  have e : (fun a => S a ∨ ∃ p ∈ [(b, Blk.cells (bytesV l) 1)], p.1 = a) = fun a => S a ∨ a = b := funext fun a => propext (by simp [eq_comm])
  rw [e] at st2
  have hb : h.get b = some (.cells (bytesV l) 1) := hg _ (List.mem_singleton.2 rfl)
  have hnot : ¬ S b ∧ b < h.next := by
    obtain ⟨K, hf, _, hm⟩ := st.mine
    obtain ⟨K1, K2, K3, e, ha, _, _⟩ := hf.at hi
    subst e
    rcases ha.2 with ⟨hn, _⟩ | ⟨b', e, rfl⟩
    · exact absurd (List.eq_nil_of_length_eq_zero hn) hne
    · simp only [Value.slice.injEq, Option.some.injEq, Addr.mk.injEq] at e
      have := hm (b', Blk.cells (bytesV l) 1) (by simp)
      rw [e.1.1]
      exact ⟨this.2.2, this.2.1⟩
  have r := rows_bytes l
  have g : Gr S h (fun a => S a ∨ a = b) h := ⟨Nat.le_refl _, fun a ha => ⟨.inl ha, rfl⟩⟩
  refine ⟨b, rfl, hnot.1, hnot.2, hb, ⟨⟨_, l.length, LOOSE, rfl, rfl, Nat.le_refl _, hl, .inr ⟨b, 0, rfl, .inr rfl, fun j x hx => ?_⟩⟩, some ⟨b, 0, none⟩, LOOSE, rfl, le_loose hl, .inr ⟨rfl, b, bytesV l, rfl, .inr rfl, hb, by rw [bytesV_len, Nat.mul_one]⟩⟩, g, st2⟩
  obtain ⟨c, h1, h2, h3⟩ := r.2 j x hx
  exact ⟨c, h1, h2, readOf hb (by rw [Nat.zero_add]; exact h3)⟩

theorem St.thaw {B : Nat} {x : Blk} (st : St h S h As) (hS : S B) (hb : h.get B = some x) : St h (fun a => S a ∧ a ≠ B) h (blk B x :: As) := by
  obtain ⟨K, hf, hn, hm⟩ := st.mine
  refine ⟨fun a ha => st.lt a ha.1, Nat.le_refl _, fun _ _ => rfl, [(B, x)] ++ K, .cons rfl hf, ?_, ?_⟩
  · simp only [List.singleton_append, List.map_cons, List.nodup_cons]
    refine ⟨fun q => ?_, hn⟩
    obtain ⟨p, hp, e⟩ := List.mem_map.1 q
    exact (hm p hp).2.2 (e ▸ hS)
  · intro p hp
    rcases List.mem_append.1 hp with hp | hp
    · obtain rfl := List.mem_singleton.1 hp
      exact ⟨hb, st.lt _ hS, fun q => q.2 rfl⟩
    · obtain ⟨a, b, c⟩ := hm p hp
      exact ⟨a, b, fun q => c q.1⟩

/-- A slice of other things than bytes lies in no row of bytes. -/
theorem Sl.less {α : Type} {w : Nat} {R R' : α → List Value → Prop} {v : Value} {xs : List α} {B : Nat} {l : List UInt8} (hb : h.get B = some (.cells (bytesV l) 1)) (bad : ∀ (x : α) (cs : List Value), R x cs → ∃ (k : Nat) (n : Int), cs[k]? = some (Value.int .i64 n) ∨ cs[k]? = some (Value.int .i32 n)) (hr : ∀ x cs, R x cs → R' x cs) (q : Sl h S w R v xs) : Sl h (fun a => S a ∧ a ≠ B) w R' v xs := by
  obtain ⟨a, n, c, rfl, h1, h2, h3, h4⟩ := q
  refine ⟨a, n, c, rfl, h1, h2, h3, ?_⟩
  cases a with
  | none => exact h4
  | some a =>
    rcases h4 with h4 | ⟨b, o, rfl, hS, hel⟩
    · exact .inl h4
    by_cases hn : n = 0
    · exact .inl hn
    refine .inr ⟨b, o, rfl, ⟨hS, fun e => ?_⟩, fun i x hx => ?_⟩
    · subst e
      obtain ⟨cs, _, q2, q3⟩ := hel 0 _ (List.getElem?_eq_getElem (by omega))
      obtain ⟨k, m, hk⟩ := bad _ cs q2
      unfold H.read H.cells? at q3
      rw [hb] at q3
      obtain ⟨_, _, t3⟩ := take_of q3
      have hk2 : ∃ v, cs[k]? = some v ∧ (v = Value.int .i64 m ∨ v = Value.int .i32 m) := by
        rcases hk with hk | hk
        · exact ⟨_, hk, .inl rfl⟩
        · exact ⟨_, hk, .inr rfl⟩
      obtain ⟨v, hv, hv2⟩ := hk2
      have hkw : k < w := by have := (List.getElem?_eq_some_iff.1 hv).1; omega
      have := t3 k hkw
      rw [hv] at this
      have hm := List.mem_of_getElem? this.symm
      unfold bytesV at hm
      obtain ⟨u, _, e⟩ := List.mem_map.1 hm
      rcases hv2 with e2 | e2 <;> (rw [e2] at e; cases e)
    · obtain ⟨cs, q1, q2, q3⟩ := hel i x hx
      exact ⟨cs, q1, hr x cs q2, q3⟩

theorem overAt_ok : ∀ (c : List Value) (i : Nat) (v : Value), i < c.length → ∃ c', overAt i [v] c = some c' ∧ c'.length = c.length
  | [], _, _, h => by simp at h
  | a :: c, 0, v, _ => ⟨v :: c, rfl, rfl⟩
  | a :: c, i + 1, v, h => by
    obtain ⟨c', e, hl⟩ := overAt_ok c i v (by simpa using h)
    exact ⟨a :: c', by simp only [overAt, e], by simp [hl]⟩
end
end Go.Mir
namespace Go.Proofs.YtmaccpaiaidgpaaGreatDoor
open Go Go.Mir
set_option maxRecDepth 10000
section
variable {h0 h : H} {S : Nat → Prop} {As : List Asn}

theorem less_scr {E : Nat → Prop} {B : Nat} {l : List UInt8} {s : PScr} {cs : List Value} (hb : h.get B = some (.cells (bytesV l) 1)) (hE : E B) (q : RScrF E h S s cs) : RScr h (fun a => S a ∧ a ≠ B) s cs := by
  obtain ⟨k, c, e, a, b⟩ := q
  refine ⟨k, c, e, a.less hb (fun x cs q => by obtain rfl : cs = x.cells := q; exact ⟨0, _, .inl rfl⟩) (fun _ _ q => q), b.less hb (fun x cs q => ?_) (fun x cs q => ?_)⟩
  · obtain ⟨_, _, _, rfl, _⟩ := q
    exact ⟨1, _, .inl rfl⟩
  · obtain ⟨o, bt, p, rfl, q1, q2, q3⟩ := q
    refine ⟨o, bt, p, rfl, q1.less hb (fun x cs q => ?_) (fun x cs q => ?_), ?_, q3.less hb (fun x cs q => by obtain rfl : cs = x.cells := q; exact ⟨0, _, .inl rfl⟩) (fun _ _ q => q)⟩
    · obtain ⟨_, _, _, rfl, _⟩ := q
      exact ⟨1, _, .inl rfl⟩
    · obtain ⟨r, s, p, rfl, z1, z2, z3⟩ := q
      exact ⟨r, s, p, rfl, z1.less hb (fun x cs q => by obtain rfl : cs = [.int .i32 x] := q; exact ⟨0, _, .inr rfl⟩) (fun _ _ q => q), z2.less hb (fun x cs q => by obtain rfl : cs = x.cells := q; exact ⟨0, _, .inl rfl⟩) (fun _ _ q => q), z3.less hb (fun x cs q => by obtain rfl : cs = x.cells := q; exact ⟨0, _, .inl rfl⟩) (fun _ _ q => q)⟩
    · obtain ⟨⟨a, n, c, rfl, h1, h2, h3, h4⟩, hfr⟩ := q2
      refine ⟨a, n, c, rfl, h1, h2, h3, ?_⟩
      cases a with
      | none => exact h4
      | some a =>
        rcases h4 with h4 | ⟨b, o, rfl, hS, hel⟩
        · exact .inl h4
        by_cases hn : n = 0
        · exact .inl hn
        exact .inr ⟨b, o, rfl, ⟨hS, fun e => hfr b o n c rfl (by omega) (e ▸ hE)⟩, hel⟩

/-- script.Write, whether it may be or not. -/
theorem swrite2_ev {s : PScr} {cs : List Value} (f : Fld S h) (hk : s.okR) (q : RScr h S s cs) (hl : (wScr s).length ≤ 2 ^ 38) (st : St h0 S h As) : Cal cxo 29 [.agg ⟨cs⟩] h (fun r h' => ∃ v l e, r = .tuple ⟨[v, .int .i64 e]⟩ ∧ (mayS s → l = wScr s ∧ e = 0) ∧ (¬ mayS s → v = .slice none 0 0 ∧ l = [] ∧ e = 3) ∧ St h0 S h' (BufB v l :: As)) := by
  by_cases hm : mayS s
  · exact (swrite_ev f hk hm q hl st).mono fun r h' ⟨v, e, st⟩ => ⟨v, wScr s, 0, e, fun _ => ⟨rfl, rfl⟩, fun q => absurd hm q, st⟩
  · exact (write_no f (fun x hx => (hk.2.2.2 x hx).1) hm q st).mono fun r h' ⟨e, st⟩ => ⟨_, [], 3, e, fun q => absurd q hm, fun _ => ⟨rfl, rfl, rfl⟩, st.nilBuf⟩

theorem neq_same {x y : Operand} (b : Bool) : abin cxo .neq 4 x y (.bool b) (.bool b) = some (.bool false) := by cases b <;> rfl

theorem _root_.Go.Mir.Gr.le {h h' : H} {S : Nat → Prop} (g : Gr (Here h) h S h') : Le h h' := ⟨g.1, fun a ha => (g.2 a ha).2⟩


set_option maxHeartbeats 32000000 in
theorem forms_law {h : H} {cs1 cs2 : List Value} {s o : PScr} (f : Fld (Here h) h) (q1 : RScr h (Here h) s cs1) (q2 : RScr h (Here h) o cs2) (k1 : s.okR) (k2 : o.okR) (B1 : nScr s < 2 ^ 40) (B2 : nScr o < 2 ^ 40) : Cal cxo 5 [.agg ⟨cs1⟩, .agg ⟨cs2⟩] h (fun r h' => r = .bool true ∧ Le h h') := by
  have st := St.here h
  have q10 := q1
  have q20 := q2
  obtain ⟨_, _, rfl, x1, x2⟩ := q1
  obtain ⟨_, _, rfl, y1, y2⟩ := q2
  obtain ⟨a1, n1, c1, rfl, _⟩ := x1
  obtain ⟨a2, n2, c2, rfl, _⟩ := x2
  obtain ⟨a3, n3, c3, rfl, _⟩ := y1
  obtain ⟨a4, n4, c4, rfl, _⟩ := y2
  refine cal_intro (C := cxo) rfl rfl rfl rfl ?_
  refine go ?_
  refine st_box st ?_; intro b2 h1 st
  refine st_box st ?_; intro b3 h2 st
  refine go ?_
  refine ow_call (great_ev (fun x hx => (k1.2.2.2 x hx).1) (q10.gr st.gr) B1 st) ?_; rintro _ h3 ⟨g, rfl, hg, st⟩
  cases g with
  | true =>
    have GG := st.gr
    refine go ?_
    refine ow_call (known_ev (f.gr GG)) ?_; rintro _ _ ⟨rfl, rfl⟩
    refine go ?_
    exact end_res GG.1 rfl ⟨rfl, GG.le⟩
  | false =>
  obtain ⟨g1, g2⟩ := hg rfl
  refine go ?_
  refine ow_call (great_ev (fun x hx => (k2.2.2.2 x hx).1) (q20.gr st.gr) B2 st) ?_; rintro _ h4 ⟨g, rfl, hg, st⟩
  cases g with
  | true =>
    have GG := st.gr
    refine go ?_
    refine ow_call (known_ev (f.gr GG)) ?_; rintro _ _ ⟨rfl, rfl⟩
    refine go ?_
    exact end_res GG.1 rfl ⟨rfl, GG.le⟩
  | false =>
  refine go ?_
  refine ow_call (rcopy_ev (q10.gr st.gr) (by omega) st.rebase) ?_; rintro _ h5 ⟨S2, cs3, rfl, G2, q3, st5⟩
  have G2 := st.gr.trans G2
  have q30 := q3
  obtain ⟨_, _, rfl, z1, z2⟩ := q3
  obtain ⟨a5, n5, c5, rfl, _⟩ := z1
  obtain ⟨a6, n6, c6, rfl, _⟩ := z2
  clear st
  refine st_alloc st5 ?_; intro b5 h6 st
  refine st_put st ?_; intro h7 st
  refine go ?_
  have hle := wScr_le k1 (by omega)
  refine ow_call (swrite2_ev (f.gr (G2.trans st.gr)) k1 (q30.gr st.gr) (by omega) st) ?_; rintro _ h8 ⟨v, l, e, rfl, hy, hn, st⟩
  refine go ?_
  refine ow_call (smay_ev (f.gr (G2.trans st.gr)) (fun x hx => (k1.2.2.2 x hx).1) (q30.gr st.gr) st) ?_; rintro _ h9 ⟨m, rfl, hm, st⟩
  refine go ?_
  refine ow_call (rmayX_ev (q10.gr (G2.trans st.gr)) st) ?_; rintro _ h10 ⟨m2, rfl, hm2, st⟩
  obtain rfl : m2 = m := by cases m <;> cases m2 <;> simp_all
  refine ow_eq (hv := neq_same _) ?_
  refine go ?_
  refine ow_call (same_ev (q30.gr st.gr) (q20.gr (G2.trans st.gr)) st) ?_; rintro _ h11 ⟨e1, rfl, he1, st⟩
  refine go ?_
  refine ow_call (rsame_ev (q10.gr (G2.trans st.gr)) (q20.gr (G2.trans st.gr)) st) ?_; rintro _ h12 ⟨e2, rfl, he2, st⟩
  obtain rfl : e2 = e1 := by cases e1 <;> cases e2 <;> simp_all
  refine ow_eq (hv := neq_same _) ?_
  refine go ?_
  refine ow_call (same_ev (q30.gr st.gr) (q10.gr (G2.trans st.gr)) st) ?_; rintro _ h13 ⟨e3, rfl, he3, st⟩
  obtain rfl := he3.2 rfl
  refine go ?_
  refine ow_call (rsame_ev (q30.gr st.gr) (q10.gr (G2.trans st.gr)) st) ?_; rintro _ h14 ⟨e4, rfl, he4, st⟩
  obtain rfl := he4.2 rfl
  refine go ?_
  refine goE ?_
  refine go ?_
  refine ow_call (rmayX_ev (q10.gr (G2.trans st.gr)) st) ?_; rintro _ h15 ⟨m3, rfl, hm3, st⟩
  cases m3 with
  | false =>
    obtain ⟨rfl, rfl, rfl⟩ := hn fun q => by have := hm3.2 q; cases this
    have GG := G2.trans st.gr
    refine go ?_
    refine ow_call (known_ev (f.gr GG)) ?_; rintro _ _ ⟨rfl, rfl⟩
    refine go ?_
    exact end_res GG.1 rfl ⟨rfl, GG.le⟩
  | true =>
  have hms := hm3.1 rfl
  obtain ⟨rfl, rfl⟩ := hy hms
  have hs : okS s := ⟨k1, hms⟩
  have hne : wScr s ≠ [] := fun e => by
    unfold wScr wL at e
    exact form_ne _ (List.append_eq_nil_iff.1 (List.append_eq_nil_iff.1 e).1).1
  refine go ?_
  refine ow_strB (Byt.buf st (i := 0) rfl).1 ?_
  refine go ?_
  refine ow_call (rbytes_ev (q10.gr (G2.trans st.gr)) hs (by omega) st) ?_; intro r7 h16 st7
  refine ow_strB (Byt.buf st7 (i := 0) rfl).1 ?_
  refine ow_neS ?_
  rw [show (!decide (wScr s = wScr s)) = false by simp]
  refine go ?_
  refine ow_end ?_ ?_
  · exact reads_gen rfl ⟨rfl, .go rfl (.inl rfl) (agn_strB (Byt.buf st7 (i := 1) rfl).1), rfl, .bnd rfl (.inl rfl) rfl, rfl, .skip rfl (.inl rfl), trivial⟩
  refine go ?_
  obtain ⟨B, rfl, hSB, hBn, hb, qb, Gb, stb⟩ := st7.lend (i := 1) rfl hne (by omega)
  have G7 := G2.trans st7.gr
  refine ow_call (readF_ev ((f.gr G7).gr Gb) qb (by omega) stb.rebase) ?_; rintro rr h17 ⟨S3, g3, st3, hr3⟩
  rcases hr3 with ⟨t, cst, rfl, hscr, hokt, hbt⟩ | ⟨rfl, hno⟩
  rotate_left
  · exact absurd rfl (hno _ hs)
  obtain rfl := wScr_inj hokt hs hbt.symm
  have hB3 := g3.2 B (.inr rfl)
  have st4 := st3.thaw hB3.1 (hB3.2.trans hb)
  have qbk := less_scr (hB3.2.trans hb) (E := fun a => S2 a ∨ a = B) (.inr rfl) hscr
  have G4 : Gr S2 h16 (fun a => S3 a ∧ a ≠ B) h17 := ⟨g3.1, fun a ha => ⟨⟨(g3.2 a (.inl ha)).1, fun e => hSB (e ▸ ha)⟩, (g3.2 a (.inl ha)).2⟩⟩
  have GG := G7.trans G4
  have qbk0 := qbk
  obtain ⟨_, _, rfl, w1, w2⟩ := qbk
  obtain ⟨a7, n7, c7, rfl, _⟩ := w1
  obtain ⟨a8, n8, c8, rfl, _⟩ := w2
  clear st st7 stb st3
  refine go ?_
  refine st_alloc st4 ?_; intro b8 h18 st
  refine st_put st ?_; intro h19 st
  refine go ?_
  have hLL : LOOSE ≤ LOOSE := Nat.le_refl _
  refine WK.weak (L' := [(2, .pointer (some ⟨b2, 0, none⟩)), (6, .slice (some ⟨B, 0, none⟩) (wScr t).length LOOSE), (8, .pointer (some ⟨b8, 0, none⟩)), (9, .int .i64 0), (80, .int .i64 ((wScr t).length : Int)), (81, .int .i64 ((0 : Nat) : Int))]) ?_ ⟨rfl, rfl, rfl, rfl, rfl, rfl, trivial⟩
  refine wk_inv (ι := Nat × H × List Value) (fun z => [(2, .pointer (some ⟨b2, 0, none⟩)), (6, .slice (some ⟨B, 0, none⟩) (wScr t).length LOOSE), (8, .pointer (some ⟨b8, 0, none⟩)), (9, .int .i64 0), (80, .int .i64 ((wScr t).length : Int)), (81, .int .i64 (z.1 : Int))]) (fun z => z.2.1)
    (fun z => z.1 ≤ (wScr t).length ∧ z.2.2.length = (wScr t).length ∧ St h17 (fun a => S3 a ∧ a ≠ B) z.2.1 (blk b8 (.cells [.slice a7 n7 c7, .int .i64 t.maxLen, .int .i64 t.maxUndo, .slice a8 n8 c8] 0) :: blk B (.cells z.2.2 1) :: BufB r7 (wScr t) :: blk b5 (.cells [.slice a5 n5 c5, .int .i64 t.maxLen, .int .i64 t.maxUndo, .slice a6 n6 c6] 0) :: blk b3 (.cells [.slice a3 n3 c3, .int .i64 o.maxLen, .int .i64 o.maxUndo, .slice a4 n4 c4] 0) :: blk b2 (.cells [.slice a1 n1 c1, .int .i64 t.maxLen, .int .i64 t.maxUndo, .slice a2 n2 c2] 0) :: [])) (fun z => (wScr t).length - z.1) ?_ (0, h19, bytesV (wScr t)) ⟨Nat.zero_le _, by rw [bytesV_len, Nat.mul_one], st⟩
  clear st st4
  rintro ⟨i, h20, c⟩ ⟨hi, hcl, st⟩ ih
  simp only at hi hcl st ih ⊢
  by_cases hlt : i < (wScr t).length
  · obtain ⟨c', hov, hcl2⟩ := overAt_ok c (0 + i * 1) (.int .u8 255) (by omega)
    refine go ?_
    refine st_store (i := 1) (hw := hov) st ?_; intro h21 st
    refine go ?_
    refine dn_loop ?_
    exact (ih (i + 1, h21, c') ⟨hlt, hcl2.trans hcl, st⟩ (by simp only; omega)).weak ⟨rfl, rfl, rfl, rfl, rfl, rfl, trivial⟩
  · refine go ?_
    refine ow_call (rsame_ev (qbk0.gr st.gr) (q10.gr (GG.trans st.gr)) st) ?_; rintro _ h22 ⟨e5, rfl, he5, st⟩
    obtain rfl := he5.2 rfl
    have GG := GG.trans st.gr
    refine go ?_
    refine ow_call (known_ev (f.gr GG)) ?_; rintro _ _ ⟨rfl, rfl⟩
    refine go ?_
    exact end_res GG.1 rfl ⟨rfl, GG.le⟩
end
end Go.Proofs.YtmaccpaiaidgpaaGreatDoor

