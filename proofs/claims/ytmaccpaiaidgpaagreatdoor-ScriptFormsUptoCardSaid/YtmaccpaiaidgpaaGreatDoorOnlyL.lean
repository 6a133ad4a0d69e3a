/- ScriptOnly, walked. -/
import Derived.Test.YtmaccpaiaidgpaaGreatDoorWrB
import Derived.Test.YtmaccpaiaidgpaaGreatDoorEqA
import Derived.Test.YtmaccpaiaidgpaaGreatDoorScrA
/- The law ScriptOnly. -/
namespace Go.Proofs.YtmaccpaiaidgpaaGreatDoor
open Go Go.Mir
set_option maxRecDepth 10000

theorem RScr.gr {h h' : H} {S S' : Nat → Prop} {s : PScr} {cs : List Value} (q : RScr h S s cs) (g : Gr S h S' h') : RScr h' S' s cs := by
  obtain ⟨_, _, e, z1, z2⟩ := q
  exact ⟨_, _, e, z1.gr g, slCmd_gr z2 g⟩

set_option maxHeartbeats 8000000 in
theorem only_law {h : H} {bv : Value} {b : List UInt8} (f : Fld (Here h) h) (q : SlK h (Here h) 1 RByte bv b) : Cal cxo 6 [bv] h (fun r h' => r = .bool true ∧ Le h h') := by
  have st := St.here h
  have q0 := q
  obtain ⟨_, a, n, c, rfl, hnc, hcl⟩ := q
  have hn : n = b.length := by
    obtain ⟨_, _, _, e, h3, _⟩ := q0.1.inv
    simp only [Value.slice.injEq] at e
    omega
  subst hn
  refine cal_intro (C := cxo) rfl rfl rfl rfl ?_
  by_cases hlt : 2000 < b.length
  · refine go ?_
    refine ow_call (known_ev f) ?_; rintro _ _ ⟨rfl, rfl⟩
    refine go ?_
    exact end_res (Nat.le_refl _) rfl ⟨rfl, Le.refl _⟩
  · refine go ?_
    refine ow_call (read_ev f (Bs.ofK q0) (by omega) st) ?_; rintro r h3 ⟨S3, g3, st3, hr⟩
    have f3 := f.gr g3
    have q3 := q0.gr g3
    rcases hr with ⟨s, cs, rfl, hscr, hok, hbs⟩ | ⟨rfl, hno⟩
    · have hscr0 := hscr
      obtain ⟨kv, cv, rfl, qk, qc⟩ := hscr
      obtain ⟨ka, kn, kc, rfl, _⟩ := qk
      obtain ⟨ca, cn, cc, rfl, _⟩ := qc
      refine go ?_
      refine st_alloc st3 ?_; intro b4 h4 st
      refine st_put st ?_; intro h5 st
      refine go ?_
      refine ow_call (swrite_ev (f3.gr st.gr) hok.1 hok.2 (hscr0.gr st.gr) (by rw [← hbs]; omega) st) ?_; rintro _ h6 ⟨v, rfl, st⟩
      rw [← hbs] at st
      refine go ?_
      refine ow_strB (Byt.buf st (i := 0) rfl).1 ?_
      refine go ?_
      refine ow_strB (Byt.sl (q3.gr st.gr).1) ?_
      refine ow_neS ?_
      rw [show (!decide (b = b)) = false by simp]
      have hb0 : 0 < b.length := by
        rw [hbs]; unfold wScr wL
        have := form_ne s.keys.length
        simp only [List.length_append]
        have : 0 < (form s.keys.length).length := List.length_pos_iff.2 this
        omega
      refine go ?_
      have e1 : Mir.intOp .sub .i64 (b.length : Int) 1 = some (.int .i64 ((b.length - 1 : Nat) : Int)) := by
        simp only [Mir.intOp]
        rw [show (b.length : Int) - 1 = ((b.length - 1 : Nat) : Int) by omega, wrap_i64 (by unfold i64ok; omega)]
      refine ow_int (hv := e1) ?_
      refine ow_cut hnc hcl (m := b.length - 1) (w := 1) (by omega) (by decide) ?_
      refine ow_call (read_ev (f3.gr st.gr) (Bs.ofK ((q3.gr st.gr).take (m := b.length - 1) (by omega))) (by rw [List.length_take]; omega) st.rebase) ?_; rintro r h7 ⟨S7, g7, st7, hr7⟩
      have G7 := g3.trans (st.gr.trans g7)
      have f7 := f.gr G7
      have hscr7 := hscr0.gr (st.gr.trans g7)
      rcases hr7 with ⟨t, cs7, rfl, hscrt, hokt, hbt⟩ | ⟨rfl, _⟩
      · have hscrt0 := hscrt
        obtain ⟨kv, cv, rfl, qk, qc⟩ := hscrt
        obtain ⟨_, _, _, rfl, _⟩ := qk
        obtain ⟨_, _, _, rfl, _⟩ := qc
        refine go ?_
        refine st_alloc st7 ?_; intro b8 h8 st8
        refine st_put st8 ?_; intro h9 st9
        refine go ?_
        refine ow_call (same_ev (hscr7.gr st9.gr) (hscrt0.gr st9.gr) st9) ?_; rintro _ h10 ⟨e, rfl, hee, st10⟩
        have he : e = false := by
          cases e with
          | false => rfl
          | true =>
            have := hee.1 rfl
            subst this
            have h1 := congrArg List.length hbt
            rw [← hbs, List.length_take] at h1
            omega
        subst he
        refine go ?_
        refine ow_call (known_ev (f7.gr st10.gr)) ?_; rintro _ _ ⟨rfl, rfl⟩
        refine go ?_
        exact end_res (G7.trans st10.gr).1 rfl ⟨rfl, (((st10.drop 0 rfl).drop 0 rfl).drop 0 rfl).back G7 (fun a ha => ha) |>.toLe⟩
      · refine go ?_
        refine st_alloc st7 ?_; intro b8 h8 st8
        refine st_put st8 ?_; intro h9 st9
        refine go ?_
        refine ow_call (known_ev (f7.gr st9.gr)) ?_; rintro _ _ ⟨rfl, rfl⟩
        refine go ?_
        exact end_res (G7.trans st9.gr).1 rfl ⟨rfl, (((st9.drop 0 rfl).drop 0 rfl).drop 0 rfl).back G7 (fun a ha => ha) |>.toLe⟩
    · refine go ?_
      refine st_alloc st3 ?_; intro b4 h4 st
      refine st_put st ?_; intro h5 st
      refine go ?_
      refine ow_call (known_ev (f3.gr st.gr)) ?_; rintro _ _ ⟨rfl, rfl⟩
      refine go ?_
      exact end_res (g3.trans st.gr).1 rfl ⟨rfl, ((st.drop 0 rfl).back g3 (fun a ha => ha)).toLe⟩
end Go.Proofs.YtmaccpaiaidgpaaGreatDoor

