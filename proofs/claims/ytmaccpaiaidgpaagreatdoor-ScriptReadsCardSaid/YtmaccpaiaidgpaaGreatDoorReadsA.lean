/- ScriptReads, walked; its contract over the model; a start that fits exists. -/
import Derived.Test.YtmaccpaiaidgpaaGreatDoorRefB
import Derived.Test.YtmaccpaiaidgpaaGreatDoorImpA
import Derived.Test.YtmaccpaiaidgpaaGreatDoorKit
/- The law ScriptReads. -/
namespace Go.Proofs.YtmaccpaiaidgpaaGreatDoor
open Go Go.Mir
set_option maxRecDepth 10000

theorem rom_same : sameVal.sames fieldsRom fieldsRom = true := by rfl
theorem Fld.rom {S : Nat → Prop} {h : H} (f : Fld S h) : romIs h fieldsRom = true := by
  unfold romIs
  have : fieldsRom = (str []) :: fieldsRom.tail := rfl
  rw [this]
  simp only [f.2]
  exact rom_same
theorem known_ev {S : Nat → Prop} {h : H} (f : Fld S h) : Cal cxo 22 [] h (fun r h' => r = .bool true ∧ h = h') := cal_orc rfl rfl f.rom

/-- An owned row of bytes stays, and may be cut. -/
theorem bufB_freeze {h0 h : H} {S : Nat → Prop} {As : List Asn} {v : Value} {l : List UInt8} {i : Nat} (st : St h0 S h As) (hi : nth As i = some (BufB v l)) (hl : l.length < 2 ^ 62) : ∃ S', Gr S h S' h ∧ Bs h S' v l ∧ St h S' h (eraseAt As i) := by
  obtain ⟨K, hK, hg, st2⟩ := st.freeze i hi
  have g : Gr S h (fun a => S a ∨ ∃ p ∈ K, p.1 = a) h := ⟨Nat.le_refl _, fun a ha => ⟨.inl ha, rfl⟩⟩
  refine ⟨_, g, ?_, st2⟩
  have r := rows_bytes l
  rcases hK.2 with ⟨hn, _, a, _, rfl⟩ | ⟨b, rfl, rfl⟩
  · have hl0 : l = [] := List.eq_nil_of_length_eq_zero hn
    subst hl0
    refine ⟨⟨a, 0, 0, rfl, rfl, Nat.zero_le _, by decide, ?_⟩, a, 0, rfl, Nat.le_refl _, .inl (by decide)⟩
    cases a with
    | none => exact ⟨rfl, rfl⟩
    | some a => exact .inl rfl
  · have hb : h.get b = some (.cells (bytesV l) 1) := hg _ (List.mem_singleton.2 rfl)
    have hS : ∃ p ∈ [(b, Blk.cells (bytesV l) 1)], p.1 = b := ⟨_, List.mem_singleton.2 rfl, rfl⟩
    refine ⟨⟨_, l.length, LOOSE, rfl, rfl, Nat.le_refl _, hl, .inr ⟨b, 0, rfl, .inr hS, fun j x hx => ?_⟩⟩, some ⟨b, 0, none⟩, LOOSE, rfl, le_loose hl, .inr ⟨rfl, b, bytesV l, rfl, .inr hS, hb, by rw [bytesV_len, Nat.mul_one]⟩⟩
    obtain ⟨c, h1, h2, h3⟩ := r.2 j x hx
    exact ⟨c, h1, h2, readOf hb (by rw [Nat.zero_add]; exact h3)⟩

theorem agn_strB {C : Ctx} {N : Nat} {s t : TypeId} {x : Operand} {dd : Option Nat} {ty : TypeId} {pos : String} {aft : Array Edge} {g : Option (Nat × Bool)} {hx a : H} {L : List (Nat × Value)} {v : Value} {bs : List UInt8} (q : Byt a v bs) (hs : isByteSl C s = true := by rfl) (ht : isStr C t = true := by rfl) (hxx : lookO L x = some v := by rfl) : Agn C N ⟨dd, .convert s t x, ty, pos, aft, g⟩ hx L (.string ⟨⟨bs⟩⟩) a :=
  .inr fun e' he' => by
    obtain ⟨b, n, c, rfl⟩ := q.2
    unfold isByteSl at hs
    unfold isStr at ht
    split at hs
    · rename_i e hu
      split at hs
      · rename_i he
        split at ht
        · rename_i hut
          simp only [calmF, cConvert, he'.eval hxx, hu, hut, he, byt_str q, pv]
        · cases ht
      · cases hs
    · cases hs

set_option maxHeartbeats 8000000 in
theorem reads_law {h : H} {bv : Value} {b : List UInt8} (f : Fld (Here h) h) (q : Sl h (Here h) 1 RByte bv b) : Cal cxo 4 [bv] h (fun r h' => r = .bool true ∧ Le h h') := by
  have st := St.here h
  have q0 := q
  obtain ⟨a, n, c, rfl, hn, hc, h62, _⟩ := q
  subst hn
  refine cal_intro (C := cxo) rfl rfl rfl rfl ?_
  (repeat (first | refine ow_move ?_ | refine ow_assign ?_ | refine ow_field ?_ | refine wk_seq ?_ | refine wk_region ?_ | refine ow_nil ?_ | refine dn_seq ?_ | refine dn_block ?_ | refine ow_extract ?_ | refine ow_nilCheck ?_ | refine ow_len ?_ | refine ow_lenS ?_ | refine ow_conv ?_ | refine ow_func ?_ | refine ow_not ?_ | refine ow_pickT ?_ | refine ow_pickF ?_ | refine ow_off ?_ | refine wk_block ?_ | refine wk_skip ?_ | refine wk_true ?_ | refine wk_false ?_ | refine wk_exit ?_ | refine dx_seq ?_ | refine dx_loop ?_ | refine dx_here ?_ | refine dx_on ?_ | refine wk_ret ?_ | refine dr_seq ?_ | refine dr_block ?_ | refine dr_loop ?_ | refine wk_scope ?_))
  by_cases hlt : 2000 < b.length
  · refine ow_cmp (hv := gtr_t (by omega)) ?_
    (repeat (first | refine ow_move ?_ | refine ow_assign ?_ | refine ow_field ?_ | refine wk_seq ?_ | refine wk_region ?_ | refine ow_nil ?_ | refine dn_seq ?_ | refine dn_block ?_ | refine ow_extract ?_ | refine ow_nilCheck ?_ | refine ow_len ?_ | refine ow_lenS ?_ | refine ow_conv ?_ | refine ow_func ?_ | refine ow_not ?_ | refine ow_pickT ?_ | refine ow_pickF ?_ | refine ow_off ?_ | refine wk_block ?_ | refine wk_skip ?_ | refine wk_true ?_ | refine wk_false ?_ | refine wk_exit ?_ | refine dx_seq ?_ | refine dx_loop ?_ | refine dx_here ?_ | refine dx_on ?_ | refine wk_ret ?_ | refine dr_seq ?_ | refine dr_block ?_ | refine dr_loop ?_ | refine wk_scope ?_))
    refine ow_call (known_ev f) ?_; rintro _ _ ⟨rfl, rfl⟩
    (repeat (first | refine ow_move ?_ | refine ow_assign ?_ | refine ow_field ?_ | refine wk_seq ?_ | refine wk_region ?_ | refine ow_nil ?_ | refine dn_seq ?_ | refine dn_block ?_ | refine ow_extract ?_ | refine ow_nilCheck ?_ | refine ow_len ?_ | refine ow_lenS ?_ | refine ow_conv ?_ | refine ow_func ?_ | refine ow_not ?_ | refine ow_pickT ?_ | refine ow_pickF ?_ | refine ow_off ?_ | refine wk_block ?_ | refine wk_skip ?_ | refine wk_true ?_ | refine wk_false ?_ | refine wk_exit ?_ | refine dx_seq ?_ | refine dx_loop ?_ | refine dx_here ?_ | refine dx_on ?_ | refine wk_ret ?_ | refine dr_seq ?_ | refine dr_block ?_ | refine dr_loop ?_ | refine wk_scope ?_))
    exact end_res (Nat.le_refl _) rfl ⟨rfl, Le.refl _⟩
  · refine ow_cmp (hv := gtr_f (by omega)) ?_
    (repeat (first | refine ow_move ?_ | refine ow_assign ?_ | refine ow_field ?_ | refine wk_seq ?_ | refine wk_region ?_ | refine ow_nil ?_ | refine dn_seq ?_ | refine dn_block ?_ | refine ow_extract ?_ | refine ow_nilCheck ?_ | refine ow_len ?_ | refine ow_lenS ?_ | refine ow_conv ?_ | refine ow_func ?_ | refine ow_not ?_ | refine ow_pickT ?_ | refine ow_pickF ?_ | refine ow_off ?_ | refine wk_block ?_ | refine wk_skip ?_ | refine wk_true ?_ | refine wk_false ?_ | refine wk_exit ?_ | refine dx_seq ?_ | refine dx_loop ?_ | refine dx_here ?_ | refine dx_on ?_ | refine wk_ret ?_ | refine dr_seq ?_ | refine dr_block ?_ | refine dr_loop ?_ | refine wk_scope ?_))
    refine st_buildS st ?_; intro b0 h1 st
    have st := (st.drop 0 rfl).nilBuf (w := 1) (a := some ⟨b0, 0, none⟩)
    (repeat (first | refine ow_move ?_ | refine ow_assign ?_ | refine ow_field ?_ | refine wk_seq ?_ | refine wk_region ?_ | refine ow_nil ?_ | refine dn_seq ?_ | refine dn_block ?_ | refine ow_extract ?_ | refine ow_nilCheck ?_ | refine ow_len ?_ | refine ow_lenS ?_ | refine ow_conv ?_ | refine ow_func ?_ | refine ow_not ?_ | refine ow_pickT ?_ | refine ow_pickF ?_ | refine ow_off ?_ | refine wk_block ?_ | refine wk_skip ?_ | refine wk_true ?_ | refine wk_false ?_ | refine wk_exit ?_ | refine dx_seq ?_ | refine dx_loop ?_ | refine dx_here ?_ | refine dx_on ?_ | refine wk_ret ?_ | refine dr_seq ?_ | refine dr_block ?_ | refine dr_loop ?_ | refine wk_scope ?_))
    have st : St h (Here h) h1 [BufB (.slice (some ⟨b0, 0, none⟩) 0 0) []] := st
    refine st_appB (p := []) (l := b) 0 (sl_cells (q0.gr st.gr)) (by simp; omega) st ?_; intro v h2 st
    obtain ⟨S1, g1, q1, st1⟩ := bufB_freeze st (i := 0) rfl (by simp; omega)
    rw [List.nil_append] at q1
    have G1 := st.gr.trans g1
    have f1 := f.gr G1
    (repeat (first | refine ow_move ?_ | refine ow_assign ?_ | refine ow_field ?_ | refine wk_seq ?_ | refine wk_region ?_ | refine ow_nil ?_ | refine dn_seq ?_ | refine dn_block ?_ | refine ow_extract ?_ | refine ow_nilCheck ?_ | refine ow_len ?_ | refine ow_lenS ?_ | refine ow_conv ?_ | refine ow_func ?_ | refine ow_not ?_ | refine ow_pickT ?_ | refine ow_pickF ?_ | refine ow_off ?_ | refine wk_block ?_ | refine wk_skip ?_ | refine wk_true ?_ | refine wk_false ?_ | refine wk_exit ?_ | refine dx_seq ?_ | refine dx_loop ?_ | refine dx_here ?_ | refine dx_on ?_ | refine wk_ret ?_ | refine dr_seq ?_ | refine dr_block ?_ | refine dr_loop ?_ | refine wk_scope ?_))
    refine ow_call (read_ev f1 q1 (by omega) st1) ?_; rintro r h3 ⟨S3, g3, st3, hr⟩
    have G3 := G1.trans g3
    have q3 := (q1.gr g3).1
    have qb3 := q0.gr G3
    have f3 := f.gr G3
    rcases hr with ⟨s, cs, rfl, hscr, hok, hbs⟩ | ⟨rfl, hno⟩
    · have hscr0 := hscr
      obtain ⟨kv, cv, rfl, qk, qc⟩ := hscr
      obtain ⟨ka, kn, kc, rfl, _⟩ := qk
      obtain ⟨ca, cn, cc, rfl, _⟩ := qc
      (repeat (first | refine ow_move ?_ | refine ow_assign ?_ | refine ow_field ?_ | refine wk_seq ?_ | refine wk_region ?_ | refine ow_nil ?_ | refine dn_seq ?_ | refine dn_block ?_ | refine ow_extract ?_ | refine ow_nilCheck ?_ | refine ow_len ?_ | refine ow_lenS ?_ | refine ow_conv ?_ | refine ow_func ?_ | refine ow_not ?_ | refine ow_pickT ?_ | refine ow_pickF ?_ | refine ow_off ?_ | refine wk_block ?_ | refine wk_skip ?_ | refine wk_true ?_ | refine wk_false ?_ | refine wk_exit ?_ | refine dx_seq ?_ | refine dx_loop ?_ | refine dx_here ?_ | refine dx_on ?_ | refine wk_ret ?_ | refine dr_seq ?_ | refine dr_block ?_ | refine dr_loop ?_ | refine wk_scope ?_))
      refine st_alloc st3 ?_; intro b4 h4 st4
      refine st_store (i := 0) st4 ?_; intro h5 st5
      (repeat (first | refine ow_move ?_ | refine ow_assign ?_ | refine ow_field ?_ | refine wk_seq ?_ | refine wk_region ?_ | refine ow_nil ?_ | refine dn_seq ?_ | refine dn_block ?_ | refine ow_extract ?_ | refine ow_nilCheck ?_ | refine ow_len ?_ | refine ow_lenS ?_ | refine ow_conv ?_ | refine ow_func ?_ | refine ow_not ?_ | refine ow_pickT ?_ | refine ow_pickF ?_ | refine ow_off ?_ | refine wk_block ?_ | refine wk_skip ?_ | refine wk_true ?_ | refine wk_false ?_ | refine wk_exit ?_ | refine dx_seq ?_ | refine dx_loop ?_ | refine dx_here ?_ | refine dx_on ?_ | refine wk_ret ?_ | refine dr_seq ?_ | refine dr_block ?_ | refine dr_loop ?_ | refine wk_scope ?_))
      refine ow_strB (Byt.sl (q3.gr st5.gr)) ?_
      (repeat (first | refine ow_move ?_ | refine ow_assign ?_ | refine ow_field ?_ | refine wk_seq ?_ | refine wk_region ?_ | refine ow_nil ?_ | refine dn_seq ?_ | refine dn_block ?_ | refine ow_extract ?_ | refine ow_nilCheck ?_ | refine ow_len ?_ | refine ow_lenS ?_ | refine ow_conv ?_ | refine ow_func ?_ | refine ow_not ?_ | refine ow_pickT ?_ | refine ow_pickF ?_ | refine ow_off ?_ | refine wk_block ?_ | refine wk_skip ?_ | refine wk_true ?_ | refine wk_false ?_ | refine wk_exit ?_ | refine dx_seq ?_ | refine dx_loop ?_ | refine dx_here ?_ | refine dx_on ?_ | refine wk_ret ?_ | refine dr_seq ?_ | refine dr_block ?_ | refine dr_loop ?_ | refine wk_scope ?_))
      refine ow_strB (Byt.sl (qb3.gr st5.gr)) ?_
      refine ow_neS ?_
      rw [show (!decide (b = b)) = false by simp]
      (repeat (first | refine ow_move ?_ | refine ow_assign ?_ | refine ow_field ?_ | refine wk_seq ?_ | refine wk_region ?_ | refine ow_nil ?_ | refine dn_seq ?_ | refine dn_block ?_ | refine ow_extract ?_ | refine ow_nilCheck ?_ | refine ow_len ?_ | refine ow_lenS ?_ | refine ow_conv ?_ | refine ow_func ?_ | refine ow_not ?_ | refine ow_pickT ?_ | refine ow_pickF ?_ | refine ow_off ?_ | refine wk_block ?_ | refine wk_skip ?_ | refine wk_true ?_ | refine wk_false ?_ | refine wk_exit ?_ | refine dx_seq ?_ | refine dx_loop ?_ | refine dx_here ?_ | refine dx_on ?_ | refine wk_ret ?_ | refine dr_seq ?_ | refine dr_block ?_ | refine dr_loop ?_ | refine wk_scope ?_))
      refine ow_cmp (hv := neq_f rfl) ?_
      (repeat (first | refine ow_move ?_ | refine ow_assign ?_ | refine ow_field ?_ | refine wk_seq ?_ | refine wk_region ?_ | refine ow_nil ?_ | refine dn_seq ?_ | refine dn_block ?_ | refine ow_extract ?_ | refine ow_nilCheck ?_ | refine ow_len ?_ | refine ow_lenS ?_ | refine ow_conv ?_ | refine ow_func ?_ | refine ow_not ?_ | refine ow_pickT ?_ | refine ow_pickF ?_ | refine ow_off ?_ | refine wk_block ?_ | refine wk_skip ?_ | refine wk_true ?_ | refine wk_false ?_ | refine wk_exit ?_ | refine dx_seq ?_ | refine dx_loop ?_ | refine dx_here ?_ | refine dx_on ?_ | refine wk_ret ?_ | refine dr_seq ?_ | refine dr_block ?_ | refine dr_loop ?_ | refine wk_scope ?_))
      refine st_loadA (i := 0) st5 ?_
      refine ow_call (rmay_ev (s := s) (S := S3) (by obtain ⟨_, _, e, z1, z2⟩ := hscr0; exact ⟨_, _, e, z1.gr st5.gr, slCmd_gr z2 st5.gr⟩) hok.2 st5) ?_; rintro _ h6 ⟨rfl, st6⟩
      (repeat (first | refine ow_move ?_ | refine ow_assign ?_ | refine ow_field ?_ | refine wk_seq ?_ | refine wk_region ?_ | refine ow_nil ?_ | refine dn_seq ?_ | refine dn_block ?_ | refine ow_extract ?_ | refine ow_nilCheck ?_ | refine ow_len ?_ | refine ow_lenS ?_ | refine ow_conv ?_ | refine ow_func ?_ | refine ow_not ?_ | refine ow_pickT ?_ | refine ow_pickF ?_ | refine ow_off ?_ | refine wk_block ?_ | refine wk_skip ?_ | refine wk_true ?_ | refine wk_false ?_ | refine wk_exit ?_ | refine dx_seq ?_ | refine dx_loop ?_ | refine dx_here ?_ | refine dx_on ?_ | refine wk_ret ?_ | refine dr_seq ?_ | refine dr_block ?_ | refine dr_loop ?_ | refine wk_scope ?_))
      refine st_loadA (i := 0) st6 ?_
      refine ow_call (rbytes_ev (s := s) (S := S3) (by obtain ⟨_, _, e, z1, z2⟩ := hscr0; exact ⟨_, _, e, z1.gr st6.gr, slCmd_gr z2 st6.gr⟩) hok (by rw [← hbs]; omega) st6) ?_; intro r7 h7 st7
      rw [← hbs] at st7
      refine ow_strB (Byt.buf st7 (i := 0) rfl).1 ?_
      (repeat (first | refine ow_move ?_ | refine ow_assign ?_ | refine ow_field ?_ | refine wk_seq ?_ | refine wk_region ?_ | refine ow_nil ?_ | refine dn_seq ?_ | refine dn_block ?_ | refine ow_extract ?_ | refine ow_nilCheck ?_ | refine ow_len ?_ | refine ow_lenS ?_ | refine ow_conv ?_ | refine ow_func ?_ | refine ow_not ?_ | refine ow_pickT ?_ | refine ow_pickF ?_ | refine ow_off ?_ | refine wk_block ?_ | refine wk_skip ?_ | refine wk_true ?_ | refine wk_false ?_ | refine wk_exit ?_ | refine dx_seq ?_ | refine dx_loop ?_ | refine dx_here ?_ | refine dx_on ?_ | refine wk_ret ?_ | refine dr_seq ?_ | refine dr_block ?_ | refine dr_loop ?_ | refine wk_scope ?_))
      refine ow_strB (Byt.sl (qb3.gr st7.gr)) ?_
      refine ow_eqS ?_
      rw [show (decide (b = b)) = true by simp]
      (repeat (first | refine ow_move ?_ | refine ow_assign ?_ | refine ow_field ?_ | refine wk_seq ?_ | refine wk_region ?_ | refine ow_nil ?_ | refine dn_seq ?_ | refine dn_block ?_ | refine ow_extract ?_ | refine ow_nilCheck ?_ | refine ow_len ?_ | refine ow_lenS ?_ | refine ow_conv ?_ | refine ow_func ?_ | refine ow_not ?_ | refine ow_pickT ?_ | refine ow_pickF ?_ | refine ow_off ?_ | refine wk_block ?_ | refine wk_skip ?_ | refine wk_true ?_ | refine wk_false ?_ | refine wk_exit ?_ | refine dx_seq ?_ | refine dx_loop ?_ | refine dx_here ?_ | refine dx_on ?_ | refine wk_ret ?_ | refine dr_seq ?_ | refine dr_block ?_ | refine dr_loop ?_ | refine wk_scope ?_))
      refine ow_call (known_ev (f3.gr st7.gr)) ?_; rintro _ _ ⟨rfl, rfl⟩
      (repeat (first | refine ow_move ?_ | refine ow_assign ?_ | refine ow_field ?_ | refine wk_seq ?_ | refine wk_region ?_ | refine ow_nil ?_ | refine dn_seq ?_ | refine dn_block ?_ | refine ow_extract ?_ | refine ow_nilCheck ?_ | refine ow_len ?_ | refine ow_lenS ?_ | refine ow_conv ?_ | refine ow_func ?_ | refine ow_not ?_ | refine ow_pickT ?_ | refine ow_pickF ?_ | refine ow_off ?_ | refine wk_block ?_ | refine wk_skip ?_ | refine wk_true ?_ | refine wk_false ?_ | refine wk_exit ?_ | refine dx_seq ?_ | refine dx_loop ?_ | refine dx_here ?_ | refine dx_on ?_ | refine wk_ret ?_ | refine dr_seq ?_ | refine dr_block ?_ | refine dr_loop ?_ | refine wk_scope ?_))
      refine ow_end ?_ ?_
      · exact reads_gen rfl ⟨rfl, .bnd rfl (.inl rfl) rfl, rfl, .skip rfl (.bnd rfl (.inl rfl) rfl), rfl, .skip rfl (.skip rfl (.bnd rfl (.inl rfl) rfl)), rfl, .skip rfl (.go rfl (agn_strB (Byt.sl (qb3.gr st6.gr))) (.bnd rfl (.inl rfl) rfl)), trivial⟩
      (repeat (first | refine ow_move ?_ | refine ow_assign ?_ | refine ow_field ?_ | refine wk_seq ?_ | refine wk_region ?_ | refine ow_nil ?_ | refine dn_seq ?_ | refine dn_block ?_ | refine ow_extract ?_ | refine ow_nilCheck ?_ | refine ow_len ?_ | refine ow_lenS ?_ | refine ow_conv ?_ | refine ow_func ?_ | refine ow_not ?_ | refine ow_pickT ?_ | refine ow_pickF ?_ | refine ow_off ?_ | refine wk_block ?_ | refine wk_skip ?_ | refine wk_true ?_ | refine wk_false ?_ | refine wk_exit ?_ | refine dx_seq ?_ | refine dx_loop ?_ | refine dx_here ?_ | refine dx_on ?_ | refine wk_ret ?_ | refine dr_seq ?_ | refine dr_block ?_ | refine dr_loop ?_ | refine wk_scope ?_))
      exact end_res (G3.trans st7.gr).1 rfl ⟨rfl, (((st7.drop 0 rfl).drop 0 rfl).back G3 (fun a ha => ha)).toLe⟩
    · (repeat (first | refine ow_move ?_ | refine ow_assign ?_ | refine ow_field ?_ | refine wk_seq ?_ | refine wk_region ?_ | refine ow_nil ?_ | refine dn_seq ?_ | refine dn_block ?_ | refine ow_extract ?_ | refine ow_nilCheck ?_ | refine ow_len ?_ | refine ow_lenS ?_ | refine ow_conv ?_ | refine ow_func ?_ | refine ow_not ?_ | refine ow_pickT ?_ | refine ow_pickF ?_ | refine ow_off ?_ | refine wk_block ?_ | refine wk_skip ?_ | refine wk_true ?_ | refine wk_false ?_ | refine wk_exit ?_ | refine dx_seq ?_ | refine dx_loop ?_ | refine dx_here ?_ | refine dx_on ?_ | refine wk_ret ?_ | refine dr_seq ?_ | refine dr_block ?_ | refine dr_loop ?_ | refine wk_scope ?_))
      refine st_alloc st3 ?_; intro b4 h4 st4
      refine st_store (i := 0) st4 ?_; intro h5 st5
      (repeat (first | refine ow_move ?_ | refine ow_assign ?_ | refine ow_field ?_ | refine wk_seq ?_ | refine wk_region ?_ | refine ow_nil ?_ | refine dn_seq ?_ | refine dn_block ?_ | refine ow_extract ?_ | refine ow_nilCheck ?_ | refine ow_len ?_ | refine ow_lenS ?_ | refine ow_conv ?_ | refine ow_func ?_ | refine ow_not ?_ | refine ow_pickT ?_ | refine ow_pickF ?_ | refine ow_off ?_ | refine wk_block ?_ | refine wk_skip ?_ | refine wk_true ?_ | refine wk_false ?_ | refine wk_exit ?_ | refine dx_seq ?_ | refine dx_loop ?_ | refine dx_here ?_ | refine dx_on ?_ | refine wk_ret ?_ | refine dr_seq ?_ | refine dr_block ?_ | refine dr_loop ?_ | refine wk_scope ?_))
      refine ow_strB (Byt.sl (q3.gr st5.gr)) ?_
      (repeat (first | refine ow_move ?_ | refine ow_assign ?_ | refine ow_field ?_ | refine wk_seq ?_ | refine wk_region ?_ | refine ow_nil ?_ | refine dn_seq ?_ | refine dn_block ?_ | refine ow_extract ?_ | refine ow_nilCheck ?_ | refine ow_len ?_ | refine ow_lenS ?_ | refine ow_conv ?_ | refine ow_func ?_ | refine ow_not ?_ | refine ow_pickT ?_ | refine ow_pickF ?_ | refine ow_off ?_ | refine wk_block ?_ | refine wk_skip ?_ | refine wk_true ?_ | refine wk_false ?_ | refine wk_exit ?_ | refine dx_seq ?_ | refine dx_loop ?_ | refine dx_here ?_ | refine dx_on ?_ | refine wk_ret ?_ | refine dr_seq ?_ | refine dr_block ?_ | refine dr_loop ?_ | refine wk_scope ?_))
      refine ow_strB (Byt.sl (qb3.gr st5.gr)) ?_
      refine ow_neS ?_
      rw [show (!decide (b = b)) = false by simp]
      (repeat (first | refine ow_move ?_ | refine ow_assign ?_ | refine ow_field ?_ | refine wk_seq ?_ | refine wk_region ?_ | refine ow_nil ?_ | refine dn_seq ?_ | refine dn_block ?_ | refine ow_extract ?_ | refine ow_nilCheck ?_ | refine ow_len ?_ | refine ow_lenS ?_ | refine ow_conv ?_ | refine ow_func ?_ | refine ow_not ?_ | refine ow_pickT ?_ | refine ow_pickF ?_ | refine ow_off ?_ | refine wk_block ?_ | refine wk_skip ?_ | refine wk_true ?_ | refine wk_false ?_ | refine wk_exit ?_ | refine dx_seq ?_ | refine dx_loop ?_ | refine dx_here ?_ | refine dx_on ?_ | refine wk_ret ?_ | refine dr_seq ?_ | refine dr_block ?_ | refine dr_loop ?_ | refine wk_scope ?_))
      refine ow_cmp (hv := neq_t (by decide)) ?_
      (repeat (first | refine ow_move ?_ | refine ow_assign ?_ | refine ow_field ?_ | refine wk_seq ?_ | refine wk_region ?_ | refine ow_nil ?_ | refine dn_seq ?_ | refine dn_block ?_ | refine ow_extract ?_ | refine ow_nilCheck ?_ | refine ow_len ?_ | refine ow_lenS ?_ | refine ow_conv ?_ | refine ow_func ?_ | refine ow_not ?_ | refine ow_pickT ?_ | refine ow_pickF ?_ | refine ow_off ?_ | refine wk_block ?_ | refine wk_skip ?_ | refine wk_true ?_ | refine wk_false ?_ | refine wk_exit ?_ | refine dx_seq ?_ | refine dx_loop ?_ | refine dx_here ?_ | refine dx_on ?_ | refine wk_ret ?_ | refine dr_seq ?_ | refine dr_block ?_ | refine dr_loop ?_ | refine wk_scope ?_))
      refine ow_cmp (hv := eql_t rfl) ?_
      (repeat (first | refine ow_move ?_ | refine ow_assign ?_ | refine ow_field ?_ | refine wk_seq ?_ | refine wk_region ?_ | refine ow_nil ?_ | refine dn_seq ?_ | refine dn_block ?_ | refine ow_extract ?_ | refine ow_nilCheck ?_ | refine ow_len ?_ | refine ow_lenS ?_ | refine ow_conv ?_ | refine ow_func ?_ | refine ow_not ?_ | refine ow_pickT ?_ | refine ow_pickF ?_ | refine ow_off ?_ | refine wk_block ?_ | refine wk_skip ?_ | refine wk_true ?_ | refine wk_false ?_ | refine wk_exit ?_ | refine dx_seq ?_ | refine dx_loop ?_ | refine dx_here ?_ | refine dx_on ?_ | refine wk_ret ?_ | refine dr_seq ?_ | refine dr_block ?_ | refine dr_loop ?_ | refine wk_scope ?_))
      refine st_loadA (i := 0) st5 ?_
      refine ow_build ?_
      refine ow_call (rsame0_ev st5) ?_; rintro _ h6 ⟨rfl, st6⟩
      (repeat (first | refine ow_move ?_ | refine ow_assign ?_ | refine ow_field ?_ | refine wk_seq ?_ | refine wk_region ?_ | refine ow_nil ?_ | refine dn_seq ?_ | refine dn_block ?_ | refine ow_extract ?_ | refine ow_nilCheck ?_ | refine ow_len ?_ | refine ow_lenS ?_ | refine ow_conv ?_ | refine ow_func ?_ | refine ow_not ?_ | refine ow_pickT ?_ | refine ow_pickF ?_ | refine ow_off ?_ | refine wk_block ?_ | refine wk_skip ?_ | refine wk_true ?_ | refine wk_false ?_ | refine wk_exit ?_ | refine dx_seq ?_ | refine dx_loop ?_ | refine dx_here ?_ | refine dx_on ?_ | refine wk_ret ?_ | refine dr_seq ?_ | refine dr_block ?_ | refine dr_loop ?_ | refine wk_scope ?_))
      refine ow_call (known_ev (f3.gr st6.gr)) ?_; rintro _ _ ⟨rfl, rfl⟩
      (repeat (first | refine ow_move ?_ | refine ow_assign ?_ | refine ow_field ?_ | refine wk_seq ?_ | refine wk_region ?_ | refine ow_nil ?_ | refine dn_seq ?_ | refine dn_block ?_ | refine ow_extract ?_ | refine ow_nilCheck ?_ | refine ow_len ?_ | refine ow_lenS ?_ | refine ow_conv ?_ | refine ow_func ?_ | refine ow_not ?_ | refine ow_pickT ?_ | refine ow_pickF ?_ | refine ow_off ?_ | refine wk_block ?_ | refine wk_skip ?_ | refine wk_true ?_ | refine wk_false ?_ | refine wk_exit ?_ | refine dx_seq ?_ | refine dx_loop ?_ | refine dx_here ?_ | refine dx_on ?_ | refine wk_ret ?_ | refine dr_seq ?_ | refine dr_block ?_ | refine dr_loop ?_ | refine wk_scope ?_))
      exact end_res (G3.trans st6.gr).1 rfl ⟨rfl, ((st6.drop 0 rfl).back G3 (fun a ha => ha)).toLe⟩
end Go.Proofs.YtmaccpaiaidgpaaGreatDoor

namespace Go.Proofs.YtmaccpaiaidgpaaGreatDoor
open Go Go.Mir Go.ChangeShapes Go.WideShapes Go.ChangeAt Go.RowKit
set_option maxRecDepth 100000

def fieldLists : List (List UInt8) := [[], [111], [98], [105, 98], [105, 106], [105, 106, 112], [105, 106, 112], [105, 106, 107, 121], [105, 106], [105, 106], [105], [46], [46], [46], [46], [46], [46], [46], [46], [105], [105], [46]]
theorem fields_are : fieldsRom = fieldLists.map str := rfl
theorem laid_are : (Rows.laid_rubric_script_fields : DataW Unit) = .agg (fieldLists.map fun l => .lit (.string l)) := rfl

/-- The listed table: the letters of the kinds. -/
theorem fields_laid {W : World} {l : List (String × DataW Unit)} (hl : (l.filter fun x => x.1 == "rubric/script.fields") = [("rubric/script.fields", Rows.laid_rubric_script_fields)]) (h0 : laidMet Tryz.prog l W) :
    ∃ (c' : Array Value) (el : TypeId) (fz : Nat × Nat), W.heap[0]? = some (.cells c' el fz) ∧ ∀ (k : Nat) (v : Value), fieldsRom[k]? = some v → c'[k]? = some v := by
  have h := h0.filter (fun x => x.1 == "rubric/script.fields")
  rw [hl] at h
  obtain ⟨ps, ⟨g, t, cs, fuel, p, q, hg, ht, hv, hd, _, _⟩, _, _⟩ := h
  obtain rfl := Option.some.inj ((show Tryz.prog.globalNamed "rubric/script.fields" = some 0 by kernel_rfl).symm.trans hg)
  obtain rfl := Option.some.inj ((show (Tryz.prog.globals[0]?).map (·.type) = some 222 by kernel_rfl).symm.trans ht)
  have c9 : Tryz.prog.cellsOf 9 = 1 := by kernel_rfl
  have c222 : Tryz.prog.cellsOf 222 = 22 := by kernel_rfl
  obtain ⟨xs, m, _, ex, hlen, hxl, hel⟩ := DataW.trod_array (show Tryz.prog.underlying 222 = some (.array 22 9) by kernel_rfl) hd
  rw [c222] at hlen
  rw [laid_are] at ex
  have e3 := DataW.agg.inj (Prod.mk.inj ex).1
  unfold World.var? at hv
  rw [hg, Option.bind_some] at hv
  split at hv
  · rename_i c2 el fz hw
    simp only [Option.some.injEq] at hv
    subst hv
    refine ⟨c2, el, fz, hw, fun k v hk => ?_⟩
    rw [fields_are, List.getElem?_map] at hk
    obtain ⟨l, hl2, rfl⟩ := Option.map_eq_some_iff.1 hk
    have hk22 : k < 22 := (List.getElem?_eq_some_iff.1 hl2).1
    have hx : xs[k]? = some (xs[k]'(by omega)) := List.getElem?_eq_getElem _
    have h1 := hel k hk22
    rw [c9, hx] at h1
    obtain ⟨s, e1, e2, _⟩ := DataW.trod_string Tryz.underlying9 h1
    have h2 := congrArg (fun z => z[k]?) e3
    simp only [List.getElem?_map, hl2, hx, Option.map_some, Option.some.injEq] at h2
    rw [e2] at h2
    simp only [DataW.lit.injEq, Lit.string.injEq] at h2
    have hc : c2.toList[k]? = some (.string s) := by
      have := congrArg (fun z => z[0]?) e1
      simpa [List.getElem?_take, List.getElem?_drop] using this
    rw [Array.getElem?_toList] at hc
    rw [hc]
    obtain ⟨⟨sl⟩⟩ := s
    simp only at h2
    rw [← h2]; rfl
  · cases hv

theorem imp_zero {W : World} {c' : Array Value} {el : TypeId} {fz : Nat × Nat} (hw : W.heap[0]? = some (.cells c' el fz)) (hk : ∀ (k : Nat) (v : Value), fieldsRom[k]? = some v → c'[k]? = some v) : Imp cxo W (jZero 4 fieldsRom.length c'.size) (H.set ⟨4, .nil⟩ 0 (.rom fieldsRom)) where
  rel := rel_zero cxo hw hk (by intro v hv; rw [fields_are] at hv; obtain ⟨l, _, rfl⟩ := List.mem_map.1 hv; rfl) (by decide)
  rom := fun a x h => by
    rw [H.get_set] at h
    by_cases e : 0 = a
    · rw [if_pos e] at h; cases h; rfl
    · rw [if_neg e] at h; simp [H.get, T.get_nil] at h
  new := fun a h => by have h : 4 ≤ a := h; simp only [jZero]; rw [if_neg (by omega), if_neg (by omega)]

theorem fld_zero {h : Mir.H} (l : Le (H.set ⟨4, .nil⟩ 0 (.rom fieldsRom)) h) : Fld (Here h) h :=
  ⟨Nat.lt_of_lt_of_le (by decide : 0 < 4) l.1, by rw [l.2 0 (by decide : 0 < 4), H.get_set, if_pos rfl]⟩

theorem scriptReads_contract (X : Type) (enc : TypeId × Value → X) (W : World) (base : Nat) (args : Array Value) (ds gs : List (DataW X)) (before : List MemPlace)
    (hval0 : ∀ (j : Nat) t v, Tryz.f4.params[j]? = some t → args[j]? = some v → Value.okWide Tryz.prog W .any base t v)
    (hW : DataW.Whole enc Tryz.prog Tryz.f4.params.toList Rows.scriptReadsSpec.vars false W args.toList ds gs before)
    (hZ : (DataW.weightsEach Tryz.prog (Tryz.f4.params.toList ++ Rows.scriptReadsSpec.plain.varTypes Tryz.prog) (ds ++ gs)).all (· ≤ reachBytes) = true)
    (hL : ∃ (c' : Array Value) (el : TypeId) (fz : Nat × Nat), W.heap[0]? = some (.cells c' el fz) ∧ ∀ (k : Nat) (v : Value), fieldsRom[k]? = some v → c'[k]? = some v) :
    Calls Tryz.prog 4 args W fun e W' => ∃ v, e = .returned v ∧ Rows.scriptReadsSpec.post enc Tryz.prog Tryz.f4 false true false false W args v W' := by
  have hval : ∀ (j : Nat) t v, Tryz.f4.params[j]? = some t → args[j]? = some v → Value.okWide Tryz.prog W .any base t v := hval0
  have hW' := hW
  obtain ⟨p, q, hA0, hV, rfl, _, _⟩ := hW
  have hA : DataW.TrodAll enc Tryz.prog W 0 (fun _ => true) true Tryz.f4.params.toList args.toList ds p := hA0
  rw [Tryz.params4] at hA hval hZ
  obtain ⟨v0, d0, rfl, rfl, h0⟩ := trodAll_one hA
  obtain ⟨rfl, rfl⟩ := trodVars_none hV
  have h0k := h0
  obtain ⟨n, hn⟩ := h0
  have hv0 := hval 0 23 v0 rfl rfl
  obtain ⟨c', el, fz, hw0, hk0⟩ := hL
  obtain ⟨a0, n0, c0, rfl⟩ := okWide_slice Tryz.underlying23 hv0
  obtain ⟨j, h, cs', hi, _, hle, hm, hwf, v', xs, rfl, hsl⟩ := bytes_can (C := cxo) hn (fun m hm => by
    have := List.all_eq_true.1 hZ m (DataW.weights_mem_each (j := 0) (t := 23) (d := d0) rfl rfl m hm)
    simpa using this) _ _ (imp_zero hw0 hk0)
  have run := calls_of (g := 4) (fn := Tryz.f4) (by rfl) (by rfl) hi (args := [v']) (by
    intro a ha
    simp only [List.mem_singleton] at ha
    subst ha
    exact hwf _ (List.mem_singleton.2 rfl)) (reads_law (fld_zero hle) hsl) (margs := #[.slice a0 n0 c0]) (by rw [hm]; rfl)
  simp only [List.append_nil] at hW'
  refine run.mono fun e W' ⟨he, hb⟩ => ?_
  subst he
  exact ⟨_, rfl, post_of_below (pa := p) (pv := []) hW' (fun _ _ _ => trodAll_mk1 (shut_bool Tryz.underlying4 _))
    (fun sp hs => trodAll_mk1 (WideElems.Trod_stays laidOut (by kernel_rfl) (by decide +kernel) h0k (fun x hx => hb.same (hW'.lt x (by simpa using hx))) (fun x hx => hs x (by simpa using hx)))) (fun _ _ => rfl) (by simp) hb (ok_one (by kernel_rfl) rfl (okWide_bool_mk Tryz.underlying4 _))⟩
end Go.Proofs.YtmaccpaiaidgpaaGreatDoor

namespace Go.Proofs.YtmaccpaiaidgpaaGreatDoor
open Go Go.Mir Go.ChangeShapes Go.WideShapes Go.ChangeAt Go.RowKit
set_option maxRecDepth 100000
noncomputable def zArgs : Array Value := #[.slice none 0 0]
noncomputable abbrev wz (os : Os) : World := (World.laidAll Tryz.prog os Rows.scriptReadsRow.laid).forCall (fun _ _ => 0) { blocks := #[], args := zArgs }
theorem wA (os : Os) : World.variablesZipB Tryz.prog (wz os) = true := by kernel_rfl
theorem wB (os : Os) : List.take ((begin Tryz.prog (fun _ _ => 0) default).world.heap.size - Tryz.prog.globals.size) (List.drop Tryz.prog.globals.size (wz os).heap.toList) = List.drop Tryz.prog.globals.size (begin Tryz.prog (fun _ _ => 0) default).world.heap.toList := by kernel_rfl
theorem wC (os : Os) : Input.okWideB Tryz.prog (wz os) 4 { blocks := #[], args := zArgs } = true := by kernel_rfl
theorem wD (X : Type) (enc : TypeId × Value → X) (os : Os) : ChangeSpec.preB enc Tryz.prog Tryz.f4 Rows.scriptReadsSpec [] false (wz os).memory zArgs 8 = true := by kernel_rfl
theorem wE (X : Type) (enc : TypeId × Value → X) (os : Os) : ChangeSpec.sizedB enc Tryz.prog Tryz.f4 Rows.scriptReadsSpec false (wz os).memory zArgs 8 = true := by kernel_rfl
theorem wF (os : Os) : World.layFits Tryz.prog (World.holding Tryz.prog os { blocks := #[], args := #[] }) Rows.scriptReadsRow.laid [] = true := by kernel_rfl
theorem wG (os : Os) : World.layIfaces Tryz.prog (World.holding Tryz.prog os { blocks := #[], args := #[] }) Rows.scriptReadsRow.laid (World.laidAll Tryz.prog os Rows.scriptReadsRow.laid) = true := by kernel_rfl
theorem noInit4 : Tryz.checked.prog.inits.idxOf? 4 = none := by kernel_rfl
theorem laidPlain : (Rows.scriptReadsRow.laid.all fun x => x.2.handleName?.isNone) = true := by kernel_rfl
theorem laid_met (os : Os) : laidMetH Tryz.prog Rows.scriptReadsRow.laid (wz os).memory := by
  rw [MakeChecks.laidMetH_plain _ _ _ laidPlain]; exact laidMet_laidAll zArgs (wF os) (wG os)
theorem scriptReads_lifted (os : Os) (started : os.Started) (X : Type) (enc : TypeId × Value → X) :
    ReturnsInHanded {} Tryz.checked os 4 .any (fun w args => (Rows.scriptReadsSpec.pre enc Tryz.prog Tryz.f4 [] false w args ∧ laidMetH Tryz.prog Rows.scriptReadsRow.laid w) ∧ sizedMet enc Tryz.prog Tryz.f4 (OpenSpec.ofChange Rows.scriptReadsSpec) false w args)
      (Rows.scriptReadsSpec.post enc Tryz.prog Tryz.f4 false true false false) :=
  returnsInHanded_of_change_and (C := Tryz.checked) (X := fun w _ => laidMetH Tryz.prog Rows.scriptReadsRow.laid w) (fun _ _ _ hh h => h.of_heap hh) own started noInit4 Tryz.func4
    (ChangeSpec.witness_shaped (enc := enc) (C := Tryz.checked) (os := os) (X := fun w _ => laidMetH Tryz.prog Rows.scriptReadsRow.laid w) false (World.laidAll Tryz.prog os Rows.scriptReadsRow.laid) zArgs 8 (World.laidAll_os _ _ _)
      (World.shaped_of_ZipB (wA os) (wB os)) (wC os) (wD X enc os) (wE X enc os) (laid_met os))
    (fun W base args ds gs before hval hW _ hZ hX _ => scriptReads_contract X enc W base args ds gs before hval hW hZ (fields_laid (by kernel_rfl) (by rw [MakeChecks.laidMetH_plain _ _ _ laidPlain] at hX; exact hX)))
end Go.Proofs.YtmaccpaiaidgpaaGreatDoor

