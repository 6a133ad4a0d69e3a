/- Walks over the evaluator where values are not known; data taken over from the model. -/
import Derived.Test.YtmaccpaiaidgpaaGreatDoorMirD
import Derived.Test.YtmaccpaiaidgpaaGreatDoorMirA
import Derived.IntWalk
import Derived.Test.YtmaccpaiaidgpaaGreatDoorMirC
import Derived.DataReads
import Derived.Deep.Slices
import Derived.ChangeArms
import GoSem.ClaimJoined
/- Proofs about what the evaluator answers where values are not known: what is known of a frame is a list. -/
namespace Go.Mir

/-! What is known of a frame -/
def look : List (Nat × Value) → Nat → Option Value
  | [], _ => none
  | (k, v) :: l, t => bif Nat.beq k t then some v else look l t

def lookO (L : List (Nat × Value)) : Operand → Option Value
  | .tmp t => look L t
  | .const v => some v
  | .global g => some (.pointer (some ⟨g, 0, none⟩))
  | .func f => some (.func (.func f) #[] #[])

def lookOs (L : List (Nat × Value)) : List Operand → Option (List Value)
  | [] => some []
  | x :: xs => match lookO L x, lookOs L xs with
    | some v, some vs => some (v :: vs)
    | _, _ => none

structure Knows (e : Env) (N : Nat) (L : List (Nat × Value)) : Prop where
  n : e.n = N
  get : ∀ t v, look L t = some v → e.get t = v

theorem Knows.eval {e : Env} {N : Nat} {L : List (Nat × Value)} (k : Knows e N L) {x : Operand} {v : Value} (h : lookO L x = some v) : e.eval x = v := by
  cases x with
  | tmp t => exact k.get t v h
  | const w => simpa [lookO, Env.eval] using h
  | global g => simpa [lookO, Env.eval] using h
  | func f => simpa [lookO, Env.eval] using h

theorem Knows.evals {e : Env} {N : Nat} {L : List (Nat × Value)} (k : Knows e N L) : ∀ {xs : List Operand} {vs : List Value}, lookOs L xs = some vs → xs.map e.eval = vs
  | [], vs, h => by simpa [lookOs] using h
  | x :: xs, vs, h => by
    simp only [lookOs] at h
    cases h1 : lookO L x with
    | none => rw [h1] at h; simp at h
    | some v =>
      cases h2 : lookOs L xs with
      | none => rw [h1, h2] at h; simp at h
      | some ws =>
        rw [h1, h2] at h; simp only [Option.some.injEq] at h; subst h
        rw [List.map_cons, k.eval h1, k.evals h2]

theorem Knows.set {e : Env} {N : Nat} {L : List (Nat × Value)} (k : Knows e N L) {d : Nat} (hd : Nat.blt d N = true) (v : Value) : Knows (e.set d v) N ((d, v) :: L) where
  n := by rw [Env.n_set, k.n]
  get := fun t w h => by
    have hd' : d < e.n := by rw [k.n, ← Nat.blt_eq]; exact hd
    rw [Env.get_set]
    by_cases ht : d = t
    · subst ht
      rw [if_pos ⟨rfl, hd'⟩]
      simp only [look] at h
      rw [Nat.beq_refl, cond_true] at h
      simpa using h
    · rw [if_neg (fun q => ht q.1)]
      apply k.get
      simp only [look] at h
      cases hb : Nat.beq d t with
      | true => exact absurd (Nat.eq_of_beq_eq_true hb) ht
      | false => rw [hb, cond_false] at h; exact h

theorem Knows.weak {e : Env} {N : Nat} {L L' : List (Nat × Value)} (k : Knows e N L) (h : ∀ p ∈ L', look L p.1 = some p.2) : Knows e N L' where
  n := k.n
  get := fun t v hv => by
    have : ∀ (M : List (Nat × Value)), (∀ p ∈ M, look L p.1 = some p.2) → look M t = some v → look L t = some v := by
      intro M
      induction M with
      | nil => intro _ q; cases q
      | cons p M ih =>
        intro hm q
        obtain ⟨a, b⟩ := p
        simp only [look] at q
        cases hb : Nat.beq a t with
        | true =>
          rw [hb, cond_true] at q
          have := Nat.eq_of_beq_eq_true hb
          subst this
          have := hm (a, b) (by simp)
          simp only at this
          rw [this]; exact q
        | false => rw [hb, cond_false] at q; exact ih (fun p hp => hm p (List.mem_cons_of_mem _ hp)) q
    exact k.get t v (this L' h hv)

/-- As a check. -/
def sub (L : List (Nat × Value)) : List (Nat × Value) → Prop
  | [] => True
  | (t, v) :: l => look L t = some v ∧ sub L l

theorem sub_mem {L : List (Nat × Value)} : ∀ {M : List (Nat × Value)}, sub L M → ∀ p ∈ M, look L p.1 = some p.2
  | [], _, p, hp => by cases hp
  | (t, v) :: M, h, p, hp => by
    rcases List.mem_cons.1 hp with rfl | hp
    · exact h.1
    · exact sub_mem h.2 p hp

theorem look_zip_none : ∀ (vs : List Value) (i t : Nat), t < i → look ((List.range' i vs.length).zip vs) t = none
  | [], _, _, _ => rfl
  | v :: vs, i, t, h => by
    simp only [List.length_cons, List.range'_succ, List.zip_cons_cons, look]
    have : Nat.beq i t = false := by
      cases hb : Nat.beq i t with
      | true => have := Nat.eq_of_beq_eq_true hb; omega
      | false => rfl
    rw [this, cond_false]
    exact look_zip_none vs (i + 1) t (by omega)

def argsL : Nat → List Value → List (Nat × Value)
  | _, [] => []
  | i, v :: vs => (i, v) :: argsL (i + 1) vs

theorem argsL_lt : ∀ (vs : List Value) (i t : Nat) (v : Value), look (argsL i vs) t = some v → i ≤ t ∧ t < i + vs.length
  | [], _, _, _, h => by simp [argsL, look] at h
  | w :: vs, i, t, v, h => by
    simp only [argsL, look] at h
    cases hb : Nat.beq i t with
    | true => have := Nat.eq_of_beq_eq_true hb; simp; omega
    | false =>
      rw [hb, cond_false] at h
      have := argsL_lt vs (i + 1) t v h
      simp; omega

theorem knows_fill : ∀ (vs : List Value) (i : Nat) (e : Env) (N : Nat), e.n = N → i + vs.length ≤ N → (Env.fill e i vs).n = N ∧ (∀ t v, look (argsL i vs) t = some v → (Env.fill e i vs).get t = v) ∧ ∀ t, t < i → (Env.fill e i vs).get t = e.get t
  | [], i, e, N, hn, _ => ⟨hn, fun t v h => by simp [argsL, look] at h, fun _ _ => rfl⟩
  | w :: vs, i, e, N, hn, hl => by
    simp only [Env.fill, List.length_cons] at hl ⊢
    obtain ⟨h1, h2, h3⟩ := knows_fill vs (i + 1) (e.set i w) N (by rw [Env.n_set, hn]) (by omega)
    refine ⟨h1, fun t v h => ?_, fun t ht => ?_⟩
    · simp only [argsL, look] at h
      cases hb : Nat.beq i t with
      | true =>
        have := Nat.eq_of_beq_eq_true hb
        subst this
        rw [hb, cond_true] at h
        rw [h3 i (by omega), Env.get_set, if_pos ⟨rfl, by omega⟩]
        simpa using h
      | false => rw [hb, cond_false] at h; exact h2 t v h
    · rw [h3 t (by omega), Env.get_set, if_neg (by omega)]

/-! Code: what is left to be done is a stack -/
inductive Fr where
  | seq (b : Code)
  | block (id : Nat)
  | loop (b : Code)

def Runs (C : Ctx) (c : Code) (e : Env) (h : H) (Q : Out → Env → H → Prop) : Prop := ∃ n o e' h', codeRun C (ev C n) c e h = some (o, e', h') ∧ Q o e' h'

def fin (C : Ctx) (Q : Out → Env → H → Prop) : List Fr → Out → Env → H → Prop
  | [], o, e, h => Q o e h
  | .seq b :: K, o, e, h => match o with
    | .normal => Runs C b e h (fin C Q K)
    | o => fin C Q K o e h
  | .block id :: K, o, e, h => match o with
    | .exit i => bif Nat.beq i id then fin C Q K .normal e h else fin C Q K (.exit i) e h
    | o => fin C Q K o e h
  | .loop b :: K, o, e, h => match o with
    | .normal => Runs C (.loop b) e h (fin C Q K)
    | o => fin C Q K o e h

theorem codeRun_mono {C : Ctx} {n m : Nat} (h : n ≤ m) {c : Code} {e : Env} {s : H} {x : Out × Env × H} (q : codeRun C (ev C n) c e s = some x) : codeRun C (ev C m) c e s = some x :=
  codeRun_le (ev_mono C h) c e s x q

theorem runs_seq {C : Ctx} {a b : Code} {e : Env} {h : H} {Q : Out → Env → H → Prop} {K : List Fr} (q : Runs C a e h (fin C Q (.seq b :: K))) : Runs C (.seq a b) e h (fin C Q K) := by
  obtain ⟨n, o, e1, h1, ha, hq⟩ := q
  cases o with
  | normal =>
    obtain ⟨m, o2, e2, h2, hb, hq2⟩ := hq
    refine ⟨max n m, o2, e2, h2, ?_, hq2⟩
    simp only [codeRun]
    rw [codeRun_mono (Nat.le_max_left n m) ha]
    exact codeRun_mono (Nat.le_max_right n m) hb
  | exit i => exact ⟨n, .exit i, e1, h1, by simp only [codeRun]; rw [ha], hq⟩
  | ret => exact ⟨n, .ret, e1, h1, by simp only [codeRun]; rw [ha], hq⟩

theorem runs_block {C : Ctx} {id : Nat} {b : Code} {e : Env} {h : H} {Q : Out → Env → H → Prop} {K : List Fr} (q : Runs C b e h (fin C Q (.block id :: K))) : Runs C (.block id b) e h (fin C Q K) := by
  obtain ⟨n, o, e1, h1, ha, hq⟩ := q
  cases o with
  | normal => exact ⟨n, .normal, e1, h1, by simp only [codeRun]; rw [ha], hq⟩
  | ret => exact ⟨n, .ret, e1, h1, by simp only [codeRun]; rw [ha], hq⟩
  | exit i =>
    simp only [fin] at hq
    cases hb : Nat.beq i id with
    | true => rw [hb, cond_true] at hq; exact ⟨n, .normal, e1, h1, by simp only [codeRun]; rw [ha]; simp only [hb, cond_true], hq⟩
    | false => rw [hb, cond_false] at hq; exact ⟨n, .exit i, e1, h1, by simp only [codeRun]; rw [ha]; simp only [hb, cond_false], hq⟩

theorem runs_loop {C : Ctx} {b : Code} {e : Env} {h : H} {Q : Out → Env → H → Prop} {K : List Fr} (q : Runs C b e h (fin C Q (.loop b :: K))) : Runs C (.loop b) e h (fin C Q K) := by
  obtain ⟨n, o, e1, h1, ha, hq⟩ := q
  cases o with
  | normal =>
    obtain ⟨m, o2, e2, h2, hb, hq2⟩ := hq
    refine ⟨max n (m + 1), o2, e2, h2, ?_, hq2⟩
    simp only [codeRun]
    rw [codeRun_mono (Nat.le_max_left n (m + 1)) ha]
    have : R.Le (ev C (m + 1)) (ev C (max n (m + 1))) := ev_mono C (Nat.le_max_right _ _)
    exact this.code _ _ _ _ hb
  | exit i => exact ⟨n, .exit i, e1, h1, by simp only [codeRun]; rw [ha], hq⟩
  | ret => exact ⟨n, .ret, e1, h1, by simp only [codeRun]; rw [ha], hq⟩

/-- From here on, whatever the frame is of which this is known. -/
structure WK (C : Ctx) (c : Code) (K : List Fr) (N : Nat) (L : List (Nat × Value)) (h : H) (Q : Out → Env → H → Prop) : Prop where
  run : ∀ e, Knows e N L → Runs C c e h (fin C Q K)

/-- As much, with nothing left but the stack. -/
structure DN (C : Ctx) (o : Out) (K : List Fr) (N : Nat) (L : List (Nat × Value)) (h : H) (Q : Out → Env → H → Prop) : Prop where
  run : ∀ e, Knows e N L → fin C Q K o e h

section
variable {C : Ctx} {K : List Fr} {N : Nat} {L : List (Nat × Value)} {h : H} {Q : Out → Env → H → Prop}

theorem WK.weak {c : Code} {L' : List (Nat × Value)} (k : WK C c K N L' h Q) (hs : sub L L') : WK C c K N L h Q :=
  ⟨fun e he => k.run e (he.weak (sub_mem hs))⟩
theorem DN.weak {o : Out} {L' : List (Nat × Value)} (k : DN C o K N L' h Q) (hs : sub L L') : DN C o K N L h Q :=
  ⟨fun e he => k.run e (he.weak (sub_mem hs))⟩

theorem wk_seq {a b : Code} (k : WK C a (.seq b :: K) N L h Q) : WK C (.seq a b) K N L h Q := ⟨fun e he => runs_seq (k.run e he)⟩
theorem wk_block {id : Nat} {b : Code} (k : WK C b (.block id :: K) N L h Q) : WK C (.block id b) K N L h Q := ⟨fun e he => runs_block (k.run e he)⟩
theorem wk_loop {b : Code} (k : WK C b (.loop b :: K) N L h Q) : WK C (.loop b) K N L h Q := ⟨fun e he => runs_loop (k.run e he)⟩
theorem wk_scope {b : Code} (k : WK C b K N L h Q) : WK C (.scope b) K N L h Q := .mk fun e he => by
  obtain ⟨n, o, e1, h1, ha, hq⟩ := k.run e he
  exact ⟨n, o, e1, h1, by simp only [codeRun]; exact ha, hq⟩
theorem wk_skip (k : DN C .normal K N L h Q) : WK C .skip K N L h Q := ⟨fun e he => ⟨0, .normal, e, h, rfl, k.run e he⟩⟩
theorem wk_exit {id : Nat} (k : DN C (.exit id) K N L h Q) : WK C (.exit id) K N L h Q := ⟨fun e he => ⟨0, .exit id, e, h, rfl, k.run e he⟩⟩
theorem wk_ret (k : DN C .ret K N L h Q) : WK C .ret K N L h Q := ⟨fun e he => ⟨0, .ret, e, h, rfl, k.run e he⟩⟩

theorem wk_cond {c : Operand} {a b : Code} {t : Bool} (k1 : t = true → WK C a K N L h Q) (k2 : t = false → WK C b K N L h Q) (hc : lookO L c = some (.bool t) := by rfl) : WK C (.cond c a b) K N L h Q := .mk fun e he => by
  have hv := he.eval hc
  cases t with
  | true =>
    obtain ⟨n, o, e1, h1, ha, hq⟩ := (k1 rfl).run e he
    exact ⟨n, o, e1, h1, by simp only [codeRun]; rw [hv]; exact ha, hq⟩
  | false =>
    obtain ⟨n, o, e1, h1, ha, hq⟩ := (k2 rfl).run e he
    exact ⟨n, o, e1, h1, by simp only [codeRun]; rw [hv]; exact ha, hq⟩

theorem wk_true {c : Operand} {a b : Code} (k : WK C a K N L h Q) (hc : lookO L c = some (.bool true) := by rfl) : WK C (.cond c a b) K N L h Q := wk_cond (fun _ => k) (fun q => by cases q) hc
theorem wk_false {c : Operand} {a b : Code} (k : WK C b K N L h Q) (hc : lookO L c = some (.bool false) := by rfl) : WK C (.cond c a b) K N L h Q := wk_cond (fun q => by cases q) (fun _ => k) hc

theorem dn_seq {b : Code} (k : WK C b K N L h Q) : DN C .normal (.seq b :: K) N L h Q := ⟨fun e he => k.run e he⟩
theorem dn_block {id : Nat} (k : DN C .normal K N L h Q) : DN C .normal (.block id :: K) N L h Q := ⟨fun e he => k.run e he⟩
theorem dn_loop {b : Code} (k : WK C (.loop b) K N L h Q) : DN C .normal (.loop b :: K) N L h Q := ⟨fun e he => k.run e he⟩
theorem dx_seq {i : Nat} {b : Code} (k : DN C (.exit i) K N L h Q) : DN C (.exit i) (.seq b :: K) N L h Q := ⟨fun e he => k.run e he⟩
theorem dx_loop {i : Nat} {b : Code} (k : DN C (.exit i) K N L h Q) : DN C (.exit i) (.loop b :: K) N L h Q := ⟨fun e he => k.run e he⟩
theorem dx_here {i : Nat} (k : DN C .normal K N L h Q) : DN C (.exit i) (.block i :: K) N L h Q := .mk fun e he => by
  show (bif Nat.beq i i then _ else _)
  rw [Nat.beq_refl, cond_true]; exact k.run e he
theorem dx_on {i j : Nat} (k : DN C (.exit i) K N L h Q) (hij : Nat.beq i j = false := by rfl) : DN C (.exit i) (.block j :: K) N L h Q := .mk fun e he => by
  show (bif Nat.beq i j then _ else _)
  rw [hij, cond_false]; exact k.run e he
theorem dr_seq {b : Code} (k : DN C .ret K N L h Q) : DN C .ret (.seq b :: K) N L h Q := ⟨fun e he => k.run e he⟩
theorem dr_loop {b : Code} (k : DN C .ret K N L h Q) : DN C .ret (.loop b :: K) N L h Q := ⟨fun e he => k.run e he⟩
theorem dr_block {i : Nat} (k : DN C .ret K N L h Q) : DN C .ret (.block i :: K) N L h Q := ⟨fun e he => k.run e he⟩

/-- The end of a function: what is known of its results. -/
theorem dn_end {o : Out} (k : ∀ e, Knows e N L → Q o e h) : DN C o [] N L h Q := ⟨k⟩
end

/-! Calls -/
structure Cal (C : Ctx) (g : Nat) (args : List Value) (h : H) (P : Value → H → Prop) : Prop where
  run : ∃ n v h', (ev C n).call g args h = some (v, h') ∧ h.next ≤ h'.next ∧ P v h'

theorem Cal.mono {C : Ctx} {g : Nat} {args : List Value} {h : H} {P P' : Value → H → Prop} (k : Cal C g args h P) (q : ∀ v h', P v h' → P' v h') : Cal C g args h P' := by
  obtain ⟨n, v, h', a, b, c⟩ := k.run
  exact ⟨n, v, h', a, b, q v h' c⟩

/-- What stands at the end of a function's body. -/
def Ends (C : Ctx) (rs : List ResultVar) (h : H) (P : Value → H → Prop) : Out → Env → H → Prop := fun o e h' => (match o with | .exit _ => False | _ => True) ∧ h.next ≤ h'.next ∧ ∃ vs, resultsOf C h' e rs = some vs ∧ P (oneOf vs) h'

theorem cal_intro {C : Ctx} {g : Nat} {fn : Func} {c : Code} (hg : C.fn.get g = some fn) (hb : fn.body = some c) {args : List Value} {h : H} {P : Value → H → Prop} {N : Nat} (hN : max fn.ntmps args.length = N) {rs : List ResultVar} (hr : fn.results.toList = rs) (k : WK C c [] N (argsL 0 args) h (Ends C rs h P)) : Cal C g args h P := by
  obtain ⟨a1, a2, _⟩ := knows_fill args 0 ⟨max fn.ntmps args.length, .nil⟩ N hN (by omega)
  obtain ⟨n, o, e1, h1, hc, hq⟩ := k.run _ ⟨a1, a2⟩
  simp only [fin, Ends] at hq
  obtain ⟨h2, h3, vs, h4, h5⟩ := hq
  refine ⟨n + 1, oneOf vs, h1, ?_, h3, h5⟩
  show callRun C (ev C n) g args h = _
  unfold callRun
  rw [hg]; simp only [hb]
  rw [hc]
  subst hr
  cases o with
  | exit i => exact h2.elim
  | normal => simp only [h4]
  | ret => simp only [h4]

section
variable {C : Ctx} {N : Nat} {L : List (Nat × Value)} {h : H}

/-- The end of a function that hands back temporaries. -/
theorem end_tmps {o : Out} {rs : List ResultVar} {h0 : H} {P : Value → H → Prop} {vs : List Value} (ho : (match o with | .exit _ => False | _ => True)) (hn : h0.next ≤ h.next) (hv : lookOs L (rs.map fun r => match r with | .tmp t => .tmp t | .cell a _ => .tmp a) = some vs) (ht : (rs.all fun r => match r with | .tmp _ => true | _ => false) = true) (k : P (oneOf vs) h) : DN C o [] N L h (Ends C rs h0 P) := .mk fun e he => by
  refine ⟨ho, hn, vs, ?_, k⟩
  clear k ho hn
  induction rs generalizing vs with
  | nil => simp only [List.map_nil, lookOs] at hv; simpa [resultsOf] using hv
  | cons r rs ih =>
    cases r with
    | cell a t => simp at ht
    | tmp t =>
      simp only [List.map_cons, lookOs] at hv
      cases h1 : lookO L (.tmp t) with
      | none => rw [h1] at hv; simp at hv
      | some v =>
        cases h2 : lookOs L (rs.map fun r => match r with | .tmp t => .tmp t | .cell a _ => .tmp a) with
        | none => rw [h1, h2] at hv; simp at hv
        | some ws =>
          rw [h1, h2] at hv; simp only [Option.some.injEq] at hv; subst hv
          simp only [List.all_cons, Bool.true_and] at ht
          simp only [resultsOf, resultOf]
          rw [ih h2 ht]
          have := he.eval h1
          simp only [Env.eval] at this
          rw [this]

/-- The end of a function, by what is known of each result. -/
noncomputable def resK (C : Ctx) (L : List (Nat × Value)) (h : H) : ResultVar → Option Value
  | .tmp t => look L t
  | .cell a t => match look L a, C.ty.get t with
    | some (.pointer (some a)), some i => loadV h i a
    | _, _ => none
noncomputable def resKs (C : Ctx) (L : List (Nat × Value)) (h : H) : List ResultVar → Option (List Value)
  | [] => some []
  | x :: xs => match resK C L h x, resKs C L h xs with
    | some v, some vs => some (v :: vs)
    | _, _ => none

theorem resKs_of {e : Env} (he : Knows e N L) : ∀ {rs : List ResultVar} {vs : List Value}, resKs C L h rs = some vs → resultsOf C h e rs = some vs
  | [], vs, q => q
  | r :: rs, vs, q => by
    simp only [resKs] at q
    cases h1 : resK C L h r with
    | none => rw [h1] at q; simp at q
    | some v =>
      cases h2 : resKs C L h rs with
      | none => rw [h1, h2] at q; simp at q
      | some ws =>
        rw [h1, h2] at q
        simp only [Option.some.injEq] at q; subst q
        have h3 : resultOf C h e r = some v := by
          cases r with
          | tmp t => simp only [resK] at h1; simp only [resultOf]; rw [he.get _ _ h1]
          | cell a t =>
            simp only [resK] at h1
            split at h1
            · rename_i ad i ha hi
              simp only [resultOf, he.get _ _ ha, hi]; exact h1
            · cases h1
        simp only [resultsOf, h3, resKs_of he h2]

theorem end_res {o : Out} {rs : List ResultVar} {h0 : H} {P : Value → H → Prop} {vs : List Value} (hn : h0.next ≤ h.next) (hv : resKs C L h rs = some vs) (k : P (oneOf vs) h) (ho : (match o with | .exit _ => False | _ => True) := by exact trivial) : DN C o [] N L h (Ends C rs h0 P) := .mk fun _ he =>
  ⟨ho, hn, vs, resKs_of he hv, k⟩
end
end Go.Mir

/- Operations, one after the other, where values are not known. -/
namespace Go.Mir

 mutual
/-- Values that the evaluator can compare with themselves. -/
def plain : Value → Bool
  | .bool _ | .int _ _ | .float _ _ | .string _ | .pointer _ | .slice _ _ _ | .map _ | .nilFunc => true
  | .func _ ⟨a⟩ ⟨b⟩ => plains a && plains b
  | .agg ⟨a⟩ => plains a
  | .tuple ⟨a⟩ => plains a
  | _ => false
def plains : List Value → Bool
  | [] => true
  | v :: vs => plain v && plains vs
end

 mutual
theorem sameVal_refl : ∀ v, plain v = true → sameVal v v = true
  | .bool _, _ => by simp [sameVal]
  | .int _ _, _ => by simp [sameVal]
  | .float _ _, _ => by simp [sameVal]
  | .string _, _ => by simp [sameVal]
  | .pointer _, _ => by simp [sameVal]
  | .slice _ _ _, _ => by simp [sameVal]
  | .map _, _ => by simp [sameVal]
  | .nilFunc, _ => by simp [sameVal]
  | .func _ ⟨a⟩ ⟨b⟩, h => by
    simp only [plain, Bool.and_eq_true] at h
    simp [sameVal, sames_refl a h.1, sames_refl b h.2]
  | .agg ⟨a⟩, h => by simp only [plain] at h; simp [sameVal, sames_refl a h]
  | .tuple ⟨a⟩, h => by simp only [plain] at h; simp [sameVal, sames_refl a h]
  | .nilIface, h => by simp [plain] at h
  | .iface _ _, h => by simp [plain] at h
  | .complex _ _ _, h => by simp [plain] at h
  | .chan _, h => by simp [plain] at h
theorem sames_refl : ∀ l, plains l = true → sameVal.sames l l = true
  | [], _ => by simp [sameVal.sames]
  | v :: vs, h => by
    simp only [plains, Bool.and_eq_true] at h
    simp [sameVal.sames, sameVal_refl v h.1, sames_refl vs h.2]
end

/-- What was done at a place, as far as it is known. -/
inductive KD where
  | idle
  | read (h : H) (L : List (Nat × Value)) (v : Value)
  | wrote (h : H)

def One (C : Ctx) (N : Nat) (o : Oper) : KD → Did → Prop
  | .idle, .idle => True
  | .read h L v, .read e w => w = v ∧ Knows e N L ∧ calmF C h e.eval o = some (v, none)
  | .wrote h, .wrote a => a = h
  | _, _ => False

def Real (C : Ctx) (N : Nat) : List Oper → List KD → List Did → Prop
  | o :: os, k :: ks, d :: ds => One C N o k d ∧ Real C N os ks ds
  | [], [], [] => True
  | _, _, _ => False

structure KRow where
  i : Nat
  o : Oper
  d : KD
  bef : Nat

def krows : Nat → List Oper → List KD → List Nat → List KRow
  | i, o :: os, d :: ds, b :: bs => ⟨i, o, d, b⟩ :: krows (i + 1) os ds bs
  | _, _, _, _ => []

/-- The read, done in that memory, gives the same. -/
def Agn (C : Ctx) (N : Nat) (o : Oper) (hx : H) (L : List (Nat × Value)) (v : Value) (a : H) : Prop := a = hx ∨ ∀ e, Knows e N L → calmF C a e.eval o = some (v, none)

def AllAt (C : Ctx) (N : Nat) (x : KRow) (hx : H) (L : List (Nat × Value)) (v : Value) (h : H) : List KRow → Prop
  | [] => Agn C N x.o hx L v h
  | y :: ys => match y.d with
    | .wrote a => bif x.bef.testBit y.i then AllAt C N x hx L v h ys else (Agn C N x.o hx L v a ∧ (bif y.bef.testBit x.i then True else AllAt C N x hx L v h ys))
    | _ => AllAt C N x hx L v h ys

def RowsOk (C : Ctx) (N : Nat) (all : List KRow) (h : H) : List KRow → Prop
  | [] => True
  | x :: xs => (match x.d with
    | .read hx L v => plain v = true ∧ AllAt C N x hx L v h all
    | _ => True) ∧ RowsOk C N all h xs

def ReadsK (C : Ctx) (N : Nat) (ops : List Oper) (acc : List KD) (h : H) : Prop := RowsOk C N (krows 0 ops acc (befs [] ops)) h (krows 0 ops acc (befs [] ops))

section
variable {C : Ctx} {N : Nat}

theorem at_same {o : Oper} {hx : H} {L : List (Nat × Value)} {v : Value} {a : H} {e : Env} (q : Agn C N o hx L v a) (k : Knows e N L) (hv : calmF C hx e.eval o = some (v, none)) (hs : sameVal v v = true) : readSame C a e.eval o v = true := by
  unfold readSame
  rcases q with rfl | q
  · rw [hv]; exact hs
  · rw [q e k]; exact hs

/-- Rows as the evaluator has them, and as they are known. -/
def Rows2 (C : Ctx) (N : Nat) : List KRow → List Row → Prop
  | x :: xs, y :: ys => x.i = y.i ∧ x.o = y.o ∧ x.bef = y.bef ∧ One C N x.o x.d y.d ∧ Rows2 C N xs ys
  | [], [] => True
  | _, _ => False

theorem rows2_of : ∀ (ops : List Oper) (acc : List KD) (ds : List Did) (i : Nat) (bs : List Nat), Real C N ops acc ds → Rows2 C N (krows i ops acc bs) (rowsOf i ops ds bs)
  | [], [], [], _, _, _ => by simp [krows, rowsOf, Rows2]
  | o :: os, k :: ks, d :: ds, i, b :: bs, h => ⟨rfl, rfl, rfl, h.1, rows2_of os ks ds (i + 1) bs h.2⟩
  | o :: os, k :: ks, d :: ds, i, [], h => by simp [krows, rowsOf, Rows2]
  | [], [], _ :: _, _, _, h => by simp [Real] at h
  | [], _ :: _, _, _, _, h => by simp [Real] at h
  | _ :: _, [], _, _, _, h => by simp [Real] at h
  | _ :: _, _ :: _, [], _, _, h => by simp [Real] at h

theorem readAll_of {x : KRow} {y : Row} (hi : x.i = y.i) (ho : x.o = y.o) (hb : x.bef = y.bef) {hx : H} {L : List (Nat × Value)} {v : Value} {e : Env} (k : Knows e N L) (hv : calmF C hx e.eval x.o = some (v, none)) (hs : sameVal v v = true) {h : H} : ∀ (xs : List KRow) (ys : List Row), Rows2 C N xs ys → AllAt C N x hx L v h xs → readAll C y e v h ys = true
  | [], [], _, q => by
    simp only [readAll]; rw [← ho]
    exact at_same q k hv hs
  | a :: as, b :: bs, r, q => by
    obtain ⟨r1, r2, r3, r4, r5⟩ := r
    have ih := readAll_of hi ho hb k hv hs (h := h) as bs r5
    simp only [readAll]
    simp only [AllAt] at q
    cases hd : a.d with
    | idle =>
      rw [hd] at q r4
      cases hbd : b.d with
      | idle => exact ih q
      | read _ _ => rw [hbd] at r4; exact r4.elim
      | wrote _ => rw [hbd] at r4; exact r4.elim
    | read _ _ _ =>
      rw [hd] at q r4
      cases hbd : b.d with
      | read _ _ => exact ih q
      | idle => rw [hbd] at r4; exact r4.elim
      | wrote _ => rw [hbd] at r4; exact r4.elim
    | wrote s =>
      rw [hd] at q r4
      cases hbd : b.d with
      | idle => rw [hbd] at r4; exact r4.elim
      | read _ _ => rw [hbd] at r4; exact r4.elim
      | wrote s' =>
        rw [hbd] at r4
        have r4 : s' = s := r4
        subst r4
        simp only
        simp only at q
        rw [hb, r1] at q
        cases ht : y.bef.testBit b.i with
        | true => rw [ht, cond_true] at q; rw [cond_true]; exact ih q
        | false =>
          rw [ht, cond_false] at q
          rw [cond_false, ← ho, at_same q.1 k hv hs, Bool.true_and]
          have q2 := q.2
          rw [r3, hi] at q2
          cases ht2 : b.bef.testBit y.i with
          | true => rfl
          | false => rw [ht2, cond_false] at q2; rw [Bool.false_or]; exact ih q2
  | [], _ :: _, r, _ => by simp [Rows2] at r
  | _ :: _, [], r, _ => by simp [Rows2] at r

theorem rowsOk_of {all : List KRow} {all' : List Row} (hr : Rows2 C N all all') {h : H} : ∀ (xs : List KRow) (ys : List Row), Rows2 C N xs ys → RowsOk C N all h xs → allB (fun x => match x.d with | .read e v => readAll C x e v h all' | _ => true) ys = true
  | [], [], _, _ => rfl
  | a :: as, b :: bs, r, q => by
    obtain ⟨r1, r2, r3, r4, r5⟩ := r
    obtain ⟨q1, q2⟩ := q
    have ih := rowsOk_of hr as bs r5 q2
    rw [allB, ih]
    have : (match b.d with | .read e v => readAll C b e v h all' | _ => true) = true := by
      cases hbd : b.d with
      | idle => rfl
      | wrote _ => rfl
      | read e w =>
        rw [hbd] at r4
        cases hd : a.d with
        | idle => rw [hd] at r4; exact r4.elim
        | wrote _ => rw [hd] at r4; exact r4.elim
        | read hx L v =>
          rw [hd] at r4 q1
          obtain ⟨e1, e2, e3⟩ := r4
          subst e1
          exact readAll_of r1 r2 r3 e2 e3 (sameVal_refl _ q1.1) all all' hr q1.2
    rw [this]; rfl
  | [], _ :: _, r, _ => by simp [Rows2] at r
  | _ :: _, [], r, _ => by simp [Rows2] at r

/-- The memory is the same all along: all reads stand. -/
def calmAcc (h : H) : List KD → Prop
  | [] => True
  | .idle :: ks => calmAcc h ks
  | .read hx _ v :: ks => h = hx ∧ plain v = true ∧ calmAcc h ks
  | .wrote a :: ks => a = h ∧ calmAcc h ks

theorem allAt_calm {x : KRow} {hx : H} {L : List (Nat × Value)} {v : Value} {h : H} (e : h = hx) : ∀ (ops : List Oper) (acc : List KD) (i : Nat) (bs : List Nat), calmAcc h acc → AllAt C N x hx L v h (krows i ops acc bs)
  | [], [], _, _, _ => .inl e
  | [], _ :: _, _, _, _ => .inl e
  | _ :: _, [], _, _, _ => .inl e
  | _ :: _, _ :: _, _, [], _ => .inl e
  | o :: os, .idle :: ks, i, b :: bs, q => allAt_calm e os ks (i + 1) bs q
  | o :: os, .read _ _ _ :: ks, i, b :: bs, q => allAt_calm e os ks (i + 1) bs q.2.2
  | o :: os, .wrote a :: ks, i, b :: bs, q => by
    have ih := allAt_calm (x := x) (L := L) (v := v) e os ks (i + 1) bs q.2
    show (bif x.bef.testBit i then _ else _)
    cases x.bef.testBit i with
    | true => exact ih
    | false =>
      refine ⟨.inl (q.1.trans e), ?_⟩
      show (bif Nat.testBit b x.i then True else _)
      cases Nat.testBit b x.i with
      | true => trivial
      | false => exact ih

theorem reads_calm {ops : List Oper} {acc : List KD} {h : H} (q : calmAcc h acc) : ReadsK C N ops acc h := by
  have : ∀ (os : List Oper) (ks : List KD) (i : Nat) (bs : List Nat), calmAcc h ks → RowsOk C N (krows 0 ops acc (befs [] ops)) h (krows i os ks bs) := by
    intro os
    induction os with
    | nil => intro ks i bs _; simp [krows, RowsOk]
    | cons o os ih =>
      intro ks i bs hk
      cases ks with
      | nil => simp [krows, RowsOk]
      | cons k ks =>
        cases bs with
        | nil => simp [krows, RowsOk]
        | cons b bs =>
          cases k with
          | idle => exact ⟨trivial, ih ks (i + 1) bs hk⟩
          | wrote _ => exact ⟨trivial, ih ks (i + 1) bs hk.2⟩
          | read hx L v => exact ⟨⟨hk.2.1, allAt_calm hk.1 ops acc 0 _ q⟩, ih ks (i + 1) bs hk.2.2⟩
  exact this ops acc 0 _ q

theorem calmAcc_append {h : H} : ∀ {a b : List KD}, calmAcc h a → calmAcc h b → calmAcc h (a ++ b)
  | [], _, _, q => q
  | .idle :: ks, _, p, q => calmAcc_append (a := ks) p q
  | .read _ _ _ :: ks, _, p, q => ⟨p.1, p.2.1, calmAcc_append (a := ks) p.2.2 q⟩
  | .wrote _ :: ks, _, p, q => ⟨p.1, calmAcc_append (a := ks) p.2 q⟩

theorem calmAcc_reverse {h : H} : ∀ {a : List KD}, calmAcc h a → calmAcc h a.reverse
  | [], q => q
  | .idle :: ks, q => by rw [List.reverse_cons]; exact calmAcc_append (calmAcc_reverse (a := ks) q) trivial
  | .read _ _ _ :: ks, q => by rw [List.reverse_cons]; exact calmAcc_append (calmAcc_reverse (a := ks) q.2.2) ⟨q.1, q.2.1, trivial⟩
  | .wrote _ :: ks, q => by rw [List.reverse_cons]; exact calmAcc_append (calmAcc_reverse (a := ks) q.2) ⟨q.1, trivial⟩

theorem reads_quiet {ops : List Oper} {acc : List KD} {h : H} (q : calmAcc h acc) : ReadsK C N ops acc.reverse h := reads_calm (calmAcc_reverse q)

theorem readsOk_of {ops : List Oper} {acc : List KD} {ds : List Did} {h : H} (r : Real C N ops acc ds) (q : ReadsK C N ops acc h) : readsOk C (rowsOf 0 ops ds (befs [] ops)) h = true := by
  have r2 := rows2_of ops acc ds 0 (befs [] ops) r
  exact rowsOk_of r2 _ _ r2 q
end

/-- The operations from here on: those of a region whose order is open carry what was done. -/
structure OW (C : Ctx) (md : Option (List KD)) (all rest : List Oper) (K : List Fr) (N : Nat) (L : List (Nat × Value)) (h : H) (Q : Out → Env → H → Prop) : Prop where
  run : match md with
  | none => ∀ e, Knows e N L → ∃ n e' h', opsRun C (ev C n) all rest e h = some (e', h') ∧ fin C Q K .normal e' h'
  | some acc => ∀ e, Knows e N L → ∀ pre ds, all = pre ++ rest → Real C N pre acc.reverse ds → ∃ n e' h' ds', opsTrace C (ev C n) all rest e h = some (e', h', ds') ∧ readsOk C (rowsOf 0 all (ds ++ ds') (befs [] all)) h' = true ∧ fin C Q K .normal e' h'

def put (md : Option (List KD)) (k : KD) : Option (List KD) := match md with
  | none => none
  | some acc => some (k :: acc)

section
variable {C : Ctx} {md : Option (List KD)} {all rest : List Oper} {K : List Fr} {N : Nat} {L : List (Nat × Value)} {h : H} {Q : Out → Env → H → Prop}

theorem wk_region {id : Nat} {ops : Array Oper} {d : Bool} (k : OW C (bif d then some [] else none) ops.toList ops.toList K N L h Q) : WK C (.region id ops d) K N L h Q := .mk fun e he => by
  cases d with
  | false =>
    obtain ⟨n, e1, h1, a, b⟩ := k.run e he
    exact ⟨n, .normal, e1, h1, by simp only [codeRun, regionRun, cond_false]; rw [a], b⟩
  | true =>
    obtain ⟨n, e1, h1, ds, a, b, c⟩ := k.run e he [] [] (by simp) (by simp [Real])
    refine ⟨n, .normal, e1, h1, ?_, c⟩
    simp only [codeRun, regionRun, cond_true]
    rw [a]
    simp only [List.nil_append] at b
    simp only [b, cond_true]

theorem ow_nil (k : DN C .normal K N L h Q) (hm : md = none := by rfl) : OW C md all [] K N L h Q := by
  subst hm
  exact ⟨fun e he => ⟨0, e, h, rfl, k.run e he⟩⟩

theorem ow_end {acc : List KD} (hr : ReadsK C N all acc.reverse h) (k : DN C .normal K N L h Q) (hm : md = some acc := by rfl) : OW C md all [] K N L h Q := by
  subst hm
  refine ⟨fun e he pre ds hp hd => ⟨0, e, h, [], rfl, ?_, k.run e he⟩⟩
  rw [List.append_nil] at hp; subst hp
  rw [List.append_nil]
  exact readsOk_of hd hr

theorem real_snoc : ∀ {os : List Oper} {ks : List KD} {ds : List Did} {o : Oper} {k : KD} {d : Did}, Real C N os ks ds → One C N o k d → Real C N (os ++ [o]) (ks ++ [k]) (ds ++ [d])
  | [], [], [], _, _, _, _, q => ⟨q, trivial⟩
  | _ :: _, _ :: _, _ :: _, _, _, _, r, q => ⟨r.1, real_snoc r.2 q⟩
  | [], [], _ :: _, _, _, _, r, _ => by simp [Real] at r
  | [], _ :: _, _, _, _, _, r, _ => by simp [Real] at r
  | _ :: _, [], _, _, _, _, r, _ => by simp [Real] at r
  | _ :: _, _ :: _, [], _, _, _, r, _ => by simp [Real] at r

/-- What an operation leaves in the frame. -/
def putL (d : Option Nat) (v : Value) (L : List (Nat × Value)) : List (Nat × Value) := match d with
  | some d => (d, v) :: L
  | none => L

def dstOk (N : Nat) : Option Nat → Bool
  | some d => Nat.blt d N
  | none => true

theorem knows_put {e : Env} (k : Knows e N L) {d : Option Nat} (hd : dstOk N d = true) (v : Value) : Knows (e.put d v) N (putL d v L) := by
  cases d with
  | none => exact k
  | some d => exact k.set hd v

/-- Is the guard known to be on? -/
def On (all : List Oper) (L : List (Nat × Value)) : Option (Nat × Bool) → Bool
  | none => true
  | some (j, want) => match nth all j with
    | some p => match p.dst with
      | some dd => match look L dd with
        | some (.bool b) => b == want
        | _ => false
      | none => false
    | none => false

theorem on_wanted {o : Oper} (hg : On all L o.guard = true) {e : Env} (he : Knows e N L) : wanted o all e = true := by
  unfold On at hg; unfold wanted
  split at hg
  · rename_i q; rw [q]
  · rename_i j want q
    rw [q]; simp only
    split at hg
    · rename_i p hp
      split at hg
      · rename_i dd hd
        split at hg
        · rename_i b hb
          rw [hp]; simp only [hd]
          rw [he.get _ _ hb]; exact hg
        · cases hg
      · cases hg
    · cases hg

/-- One operation that is wanted: what it gives, whatever the frame. -/
theorem ow_gen {o : Oper} {P : Value → H → Prop} {kd : KD} (hg : On all L o.guard = true) (hd : dstOk N o.dst = true)
    (hs : ∀ e, Knows e N L → ∃ n v h1, oper C (ev C n) h e.eval o = some (v, h1) ∧ P v h1 ∧ One C N o kd (didOf C o e v h))
    (k : ∀ v h1, P v h1 → OW C (put md kd) all rest K N (putL o.dst v L) h1 Q) : OW C md all (o :: rest) K N L h Q := by
  cases md with
  | none =>
    refine ⟨?_⟩
    intro e he
    obtain ⟨n, v, h1, a, b, _⟩ := hs e he
    obtain ⟨m, e2, h2, c, d⟩ := (k v h1 b).run (e.put o.dst v) (knows_put he hd v)
    refine ⟨max n m, e2, h2, ?_, d⟩
    simp only [opsRun]
    rw [on_wanted hg he, cond_true, oper_le (ev_mono C (Nat.le_max_left n m)) a]
    exact opsRun_le (ev_mono C (Nat.le_max_right n m)) _ _ _ _ _ c
  | some acc =>
    refine ⟨?_⟩
    intro e he pre ds hp hr
    obtain ⟨n, v, h1, a, b, w⟩ := hs e he
    obtain ⟨m, e2, h2, ds', c, d, f⟩ := (k v h1 b).run (e.put o.dst v) (knows_put he hd v) (pre ++ [o]) (ds ++ [didOf C o e v h]) (by rw [hp]; simp) (by rw [List.reverse_cons]; exact real_snoc hr w)
    refine ⟨max n m, e2, h2, didOf C o e v h :: ds', ?_, ?_, f⟩
    · simp only [opsTrace]
      rw [on_wanted hg he, cond_true, oper_le (ev_mono C (Nat.le_max_left n m)) a]
      simp only
      rw [opsTrace_le (ev_mono C (Nat.le_max_right n m)) _ _ _ _ _ c]
    · rw [List.append_assoc] at d; exact d

/-- Is the guard known to be off? -/
def Off (all : List Oper) (L : List (Nat × Value)) : Option (Nat × Bool) → Bool
  | none => false
  | some (j, want) => match nth all j with
    | some p => match p.dst with
      | some dd => match look L dd with
        | some (.bool b) => !(b == want)
        | some (.tuple _) => true
        | _ => false
      | none => false
    | none => false

theorem off_wanted {o : Oper} (hg : Off all L o.guard = true) {e : Env} (he : Knows e N L) : wanted o all e = false := by
  unfold Off at hg; unfold wanted
  split at hg
  · cases hg
  · rename_i j want q
    rw [q]; simp only
    split at hg
    · rename_i p hp
      split at hg
      · rename_i dd hd
        rw [hp]; simp only [hd]
        split at hg
        · rename_i b hb
          rw [he.get _ _ hb]; simpa using hg
        · rename_i b hb
          rw [he.get _ _ hb]
        · cases hg
      · cases hg
    · cases hg

theorem ow_off {o : Oper} (k : OW C (put md .idle) all rest K N (putL o.dst undef L) h Q) (hg : Off all L o.guard = true := by rfl) (hd : dstOk N o.dst = true := by rfl) : OW C md all (o :: rest) K N L h Q := by
  cases md with
  | none =>
    refine ⟨?_⟩
    intro e he
    obtain ⟨m, e2, h2, c, d⟩ := k.run (e.put o.dst undef) (knows_put he hd undef)
    refine ⟨m, e2, h2, ?_, d⟩
    simp only [opsRun]
    rw [off_wanted hg he, cond_false]; exact c
  | some acc =>
    refine ⟨?_⟩
    intro e he pre ds hp hr
    obtain ⟨m, e2, h2, ds', c, d, f⟩ := k.run (e.put o.dst undef) (knows_put he hd undef) (pre ++ [o]) (ds ++ [.idle]) (by rw [hp]; simp) (by rw [List.reverse_cons]; exact real_snoc (k := .idle) (d := .idle) hr trivial)
    refine ⟨m, e2, h2, .idle :: ds', ?_, ?_, f⟩
    · simp only [opsTrace]
      rw [off_wanted hg he, cond_false, c]
    · rw [List.append_assoc] at d; exact d

/-- A truth value, split. -/
theorem ow_know {t : Nat} {b : Bool} (hb : look L t = some (.bool b)) (k1 : b = true → OW C md all rest K N ((t, .bool true) :: L) h Q) (k2 : b = false → OW C md all rest K N ((t, .bool false) :: L) h Q) : OW C md all rest K N L h Q := by
  have aux : ∀ (e : Env), Knows e N L → Knows e N ((t, .bool b) :: L) := fun e he => ⟨he.n, fun s v hv => by
    simp only [look] at hv
    cases hq : Nat.beq t s with
    | true => rw [hq, cond_true] at hv; have := Nat.eq_of_beq_eq_true hq; subst this; simp only [Option.some.injEq] at hv; subst hv; exact he.get _ _ hb
    | false => rw [hq, cond_false] at hv; exact he.get _ _ hv⟩
  have : OW C md all rest K N ((t, .bool b) :: L) h Q := by cases b with
    | true => exact k1 rfl
    | false => exact k2 rfl
  cases md with
  | none => exact ⟨fun e he => this.run e (aux e he)⟩
  | some acc => exact ⟨fun e he => this.run e (aux e he)⟩

theorem OW.weak {L' : List (Nat × Value)} (k : OW C md all rest K N L' h Q) (hs : sub L L') : OW C md all rest K N L h Q := by
  cases md with
  | none => exact ⟨fun e he => k.run e (he.weak (sub_mem hs))⟩
  | some acc => exact ⟨fun e he => k.run e (he.weak (sub_mem hs))⟩
end
end Go.Mir

/- A rule for each kind of operation. -/
namespace Go.Mir
theorem blt_of {m n : Nat} (h : m < n) : Nat.blt m n = true := by rw [Nat.blt_eq]; exact h
section
variable {C : Ctx} {md : Option (List KD)} {all rest : List Oper} {K : List Fr} {N : Nat} {L : List (Nat × Value)} {h : H} {Q : Out → Env → H → Prop}

theorem oper_calm {r : R} {ρ : Operand → Value} {o : Oper} {v : Value} (hk : kindOf C o.op = .calm) (hv : calmF C h ρ o = some (v, none)) : oper C r h ρ o = some (v, h) := by
  unfold oper oper0
  rw [hk]; simp only [hv]
  rw [Nat.ble_eq_true_of_le (Nat.le_refl _)]; rfl
theorem oper_make {r : R} {ρ : Operand → Value} {o : Oper} {v : Value} {b : Blk} (hk : kindOf C o.op = .calm) (hv : calmF C h ρ o = some (v, some b)) : oper C r h ρ o = some (v, h.new b) := by
  unfold oper oper0
  rw [hk]; simp only [hv]
  have : Nat.ble h.next (h.new b).next = true := by rw [Nat.ble_eq, H.next_new]; omega
  rw [this]; rfl
theorem oper_loud {r : R} {ρ : Operand → Value} {o : Oper} {v : Value} {h1 : H} (hk : kindOf C o.op = .loud) (hv : loudF C h ρ o = some (v, h1)) (hn : h.next ≤ h1.next) : oper C r h ρ o = some (v, h1) := by
  unfold oper oper0
  rw [hk]; simp only [hv]
  have : Nat.ble h.next h1.next = true := by rw [Nat.ble_eq]; exact hn
  rw [this]; rfl

variable {d : Nat} {ty : TypeId} {pos : String} {aft : Array Edge} {g : Option (Nat × Bool)}

theorem ow_idle {op : Op} {v : Value} (hg : On all L g = true) (hd : Nat.blt d N = true) (hk : kindOf C op = .calm) (hr : readsMem C op = false) (hv : ∀ e, Knows e N L → calmF C h e.eval ⟨some d, op, ty, pos, aft, g⟩ = some (v, none))
    (k : OW C (put md .idle) all rest K N ((d, v) :: L) h Q) : OW C md all (⟨some d, op, ty, pos, aft, g⟩ :: rest) K N L h Q :=
  ow_gen (P := fun w h1 => w = v ∧ h1 = h) hg hd (fun e he => ⟨0, v, h, oper_calm hk (hv e he), ⟨rfl, rfl⟩, by
    show One C N _ .idle (match kindOf C op with | .calm => bif readsMem C op then .read e v else .idle | _ => .wrote h)
    rw [hk, hr]; trivial⟩) (fun w h1 q => by obtain ⟨rfl, rfl⟩ := q; exact k)

theorem ow_read {op : Op} {v : Value} (hg : On all L g = true) (hd : Nat.blt d N = true) (hk : kindOf C op = .calm) (hr : readsMem C op = true) (hv : ∀ e, Knows e N L → calmF C h e.eval ⟨some d, op, ty, pos, aft, g⟩ = some (v, none))
    (k : OW C (put md (.read h L v)) all rest K N ((d, v) :: L) h Q) : OW C md all (⟨some d, op, ty, pos, aft, g⟩ :: rest) K N L h Q :=
  ow_gen (P := fun w h1 => w = v ∧ h1 = h) hg hd (fun e he => ⟨0, v, h, oper_calm hk (hv e he), ⟨rfl, rfl⟩, by
    show One C N _ (.read h L v) (match kindOf C op with | .calm => bif readsMem C op then .read e v else .idle | _ => .wrote h)
    rw [hk, hr]; exact ⟨rfl, he, hv e he⟩⟩) (fun w h1 q => by obtain ⟨rfl, rfl⟩ := q; exact k)

theorem ow_make {op : Op} {v : Value} {b : Blk} (hg : On all L g = true) (hd : Nat.blt d N = true) (hk : kindOf C op = .calm) (hr : readsMem C op = false) (hv : ∀ e, Knows e N L → calmF C h e.eval ⟨some d, op, ty, pos, aft, g⟩ = some (v, some b))
    (k : OW C (put md .idle) all rest K N ((d, v) :: L) (h.new b) Q) : OW C md all (⟨some d, op, ty, pos, aft, g⟩ :: rest) K N L h Q :=
  ow_gen (P := fun w h1 => w = v ∧ h1 = h.new b) hg hd (fun e he => ⟨0, v, h.new b, oper_make hk (hv e he), ⟨rfl, rfl⟩, by
    show One C N _ .idle (match kindOf C op with | .calm => bif readsMem C op then .read e v else .idle | _ => .wrote h)
    rw [hk, hr]; trivial⟩) (fun w h1 q => by obtain ⟨rfl, rfl⟩ := q; exact k)

theorem ow_loud {dd : Option Nat} {op : Op} {v : Value} {h1 : H} (hg : On all L g = true) (hd : dstOk N dd = true) (hk : kindOf C op = .loud) (hv : ∀ e, Knows e N L → loudF C h e.eval ⟨dd, op, ty, pos, aft, g⟩ = some (v, h1)) (hn : h.next ≤ h1.next)
    (k : OW C (put md (.wrote h)) all rest K N (putL dd v L) h1 Q) : OW C md all (⟨dd, op, ty, pos, aft, g⟩ :: rest) K N L h Q :=
  ow_gen (P := fun w h2 => w = v ∧ h2 = h1) hg hd (fun e he => ⟨0, v, h1, oper_loud hk (hv e he) hn, ⟨rfl, rfl⟩, by
    show One C N _ (.wrote h) (match kindOf C op with | .calm => bif readsMem C op then .read e v else .idle | _ => .wrote h)
    rw [hk]; exact rfl⟩) (fun w h2 q => by obtain ⟨rfl, rfl⟩ := q; exact k)

/-! Calm ones -/
theorem ow_move {x : Operand} {v : Value} (k : OW C (put md .idle) all rest K N ((d, v) :: L) h Q) (hx : lookO L x = some v := by rfl) (hg : On all L g = true := by rfl) (hd : Nat.blt d N = true := by rfl) : OW C md all (⟨some d, .move x, ty, pos, aft, g⟩ :: rest) K N L h Q :=
  ow_idle hg hd rfl rfl (fun e he => by simp only [calmF, he.eval hx]) k
theorem ow_assign {x : Operand} {v : Value} (k : OW C (put md .idle) all rest K N ((d, v) :: L) h Q) (hx : lookO L x = some v := by rfl) (hg : On all L g = true := by rfl) (hd : Nat.blt d N = true := by rfl) : OW C md all (⟨some d, .assign x, ty, pos, aft, g⟩ :: rest) K N L h Q :=
  ow_idle hg hd rfl rfl (fun e he => by simp only [calmF, he.eval hx]) k
theorem ow_pickT {c x y : Operand} {v : Value} (k : OW C (put md .idle) all rest K N ((d, v) :: L) h Q) (hc : lookO L c = some (.bool true) := by rfl) (hx : lookO L x = some v := by rfl) (hg : On all L g = true := by rfl) (hd : Nat.blt d N = true := by rfl) : OW C md all (⟨some d, .pick c x y, ty, pos, aft, g⟩ :: rest) K N L h Q :=
  ow_idle hg hd rfl rfl (fun e he => by simp only [calmF, he.eval hc, he.eval hx, cond_true]) k
theorem ow_pickF {c x y : Operand} {v : Value} (k : OW C (put md .idle) all rest K N ((d, v) :: L) h Q) (hc : lookO L c = some (.bool false) := by rfl) (hy : lookO L y = some v := by rfl) (hg : On all L g = true := by rfl) (hd : Nat.blt d N = true := by rfl) : OW C md all (⟨some d, .pick c x y, ty, pos, aft, g⟩ :: rest) K N L h Q :=
  ow_idle hg hd rfl rfl (fun e he => by simp only [calmF, he.eval hc, he.eval hy, cond_false]) k

noncomputable def offOf (C : Ctx) (t : TypeId) (f : Nat) : Option Nat := match C.u t with
  | some (.struct fields) => match nth fields.toList f with
    | some fd => match C.size fd.type with
      | some s => bif Nat.beq s 0 then none else some fd.offset
      | none => none
    | none => none
  | _ => none

theorem ow_field {t : TypeId} {x : Operand} {f b o off : Nat} (k : OW C (put md .idle) all rest K N ((d, .pointer (some ⟨b, o + off, none⟩)) :: L) h Q) (ho : offOf C t f = some off := by rfl) (hx : lookO L x = some (.pointer (some ⟨b, o, none⟩)) := by rfl) (hg : On all L g = true := by rfl) (hd : Nat.blt d N = true := by rfl) : OW C md all (⟨some d, .fieldAddr t x f, ty, pos, aft, g⟩ :: rest) K N L h Q :=
  ow_idle hg hd rfl rfl (fun e he => by
    simp only [calmF, cFieldAddr, he.eval hx]
    unfold offOf at ho
    split at ho
    · rename_i fields hu
      rw [hu]; simp only
      split at ho
      · rename_i fd hf
        rw [hf]; simp only
        split at ho
        · rename_i s hs
          rw [hs]; simp only
          cases hb : Nat.beq s 0 with
          | true => rw [hb, cond_true] at ho; cases ho
          | false =>
            rw [hb, cond_false] at ho
            simp only [Option.some.injEq] at ho
            subst ho
            rw [cond_false]
            unfold Addr.add
            split
            · rename_i h0; rw [h0]; simp
            · rfl
        · cases ho
      · cases ho
    · cases ho) k

noncomputable def aggOf (C : Ctx) (t : TypeId) : Option Bool := (C.ty.get t).map fun i => isAggD i.u

theorem ow_load {t : TypeId} {x : Operand} {p : Addr} {v : Value} (hl : h.load p = some v) (k : OW C (put md (.read h L v)) all rest K N ((d, v) :: L) h Q) (ht : aggOf C t = some false := by rfl) (hx : lookO L x = some (.pointer (some p)) := by rfl) (hg : On all L g = true := by rfl) (hd : Nat.blt d N = true := by rfl) : OW C md all (⟨some d, .load t x, ty, pos, aft, g⟩ :: rest) K N L h Q :=
  ow_read hg hd rfl rfl (fun e he => by
    simp only [calmF, cLoad, he.eval hx]
    unfold aggOf at ht
    obtain ⟨i, hi, ha⟩ := Option.map_eq_some_iff.1 ht
    rw [hi]; simp only [loadV, ha, cond_false, hl, pv]) k

noncomputable def aggSize (C : Ctx) (t : TypeId) : Option Nat := (C.ty.get t).bind fun i => bif isAggD i.u then some i.info.size else none

theorem ow_loadA {t : TypeId} {x : Operand} {p : Addr} {s : Nat} {cs : List Value} (hl : h.read p s = some cs) (k : OW C (put md (.read h L (.agg ⟨cs⟩))) all rest K N ((d, .agg ⟨cs⟩) :: L) h Q) (ht : aggSize C t = some s := by rfl) (hx : lookO L x = some (.pointer (some p)) := by rfl) (hg : On all L g = true := by rfl) (hd : Nat.blt d N = true := by rfl) : OW C md all (⟨some d, .load t x, ty, pos, aft, g⟩ :: rest) K N L h Q :=
  ow_read hg hd rfl rfl (fun e he => by
    simp only [calmF, cLoad, he.eval hx]
    unfold aggSize at ht
    obtain ⟨i, hi, ha⟩ := Option.bind_eq_some_iff.1 ht
    rw [hi]; simp only
    cases hb : isAggD i.u with
    | false => rw [hb, cond_false] at ha; cases ha
    | true =>
      rw [hb, cond_true, Option.some.injEq] at ha
      simp only [loadV, hb, cond_true, ha, hl, pv]) k

theorem ow_nilCheck {x : Operand} {p : Addr} (k : OW C (put md .idle) all rest K N ((d, .pointer (some p)) :: L) h Q) (hx : lookO L x = some (.pointer (some p)) := by rfl) (hg : On all L g = true := by rfl) (hd : Nat.blt d N = true := by rfl) : OW C md all (⟨some d, .nilCheck x, ty, pos, aft, g⟩ :: rest) K N L h Q :=
  ow_idle hg hd rfl rfl (fun e he => by simp only [calmF, he.eval hx, notNil, pv]) k

theorem ow_extract {x : Operand} {i : Nat} {vs : List Value} {v : Value} (k : OW C (put md .idle) all rest K N ((d, v) :: L) h Q) (hx : lookO L x = some (.tuple ⟨vs⟩) := by rfl) (hn : nth vs i = some v := by rfl) (hg : On all L g = true := by rfl) (hd : Nat.blt d N = true := by rfl) : OW C md all (⟨some d, .extract x i, ty, pos, aft, g⟩ :: rest) K N L h Q :=
  ow_idle hg hd rfl rfl (fun e he => by simp only [calmF, cExtract, he.eval hx, hn]) k

noncomputable def isSliceT (C : Ctx) (t : TypeId) : Bool := match C.u t with | some (.slice _) => true | _ => false
noncomputable def isStrT (C : Ctx) (t : TypeId) : Bool := match C.u t with | some .string => true | _ => false

theorem ow_len {t : TypeId} {x : Operand} {a : Option Addr} {n c : Nat} (k : OW C (put md .idle) all rest K N ((d, .int .i64 (n : Int)) :: L) h Q) (ht : isSliceT C t = true := by rfl) (hx : lookO L x = some (.slice a n c) := by rfl) (hg : On all L g = true := by rfl) (hd : Nat.blt d N = true := by rfl) : OW C md all (⟨some d, .call { callee := .builtin .len, args := ⟨[x]⟩, argTypes := ⟨[t]⟩ }, ty, pos, aft, g⟩ :: rest) K N L h Q :=
  ow_idle hg hd rfl rfl (fun e he => by
    simp only [calmF, cBuiltin, he.eval hx]
    unfold isSliceT at ht
    split at ht
    · rename_i q; rw [q]; rfl
    · cases ht) k

theorem ow_lenS {t : TypeId} {x : Operand} {s : ByteArray} (k : OW C (put md .idle) all rest K N ((d, .int .i64 (s.size : Int)) :: L) h Q) (ht : isStrT C t = true := by rfl) (hx : lookO L x = some (.string s) := by rfl) (hg : On all L g = true := by rfl) (hd : Nat.blt d N = true := by rfl) : OW C md all (⟨some d, .call { callee := .builtin .len, args := ⟨[x]⟩, argTypes := ⟨[t]⟩ }, ty, pos, aft, g⟩ :: rest) K N L h Q :=
  ow_idle hg hd rfl rfl (fun e he => by
    simp only [calmF, cBuiltin, he.eval hx]
    unfold isStrT at ht
    split at ht
    · rename_i q; rw [q]; rfl
    · cases ht) k

theorem ow_bin {bop : BinOp} {t u : TypeId} {x y : Operand} {a b v : Value} (hx : lookO L x = some a) (hy : lookO L y = some b) (hv : abin C bop t x y a b = some v) (hg : On all L g = true) (hd : Nat.blt d N = true) (k : OW C (put md .idle) all rest K N ((d, v) :: L) h Q) : OW C md all (⟨some d, .binOp bop t x y u, ty, pos, aft, g⟩ :: rest) K N L h Q :=
  ow_idle hg hd rfl rfl (fun e he => by simp only [calmF, he.eval hx, he.eval hy, hv, pv]) k

theorem abin_int {bop : BinOp} {t : TypeId} {x y : Operand} {kk : IntKind} {m n : Int} (h1 : (match bop with | .shl | .shr => false | _ => true) = true) : abin C bop t x y (.int kk m) (.int kk n) = intOp bop kk m n := by
  unfold abin
  cases bop <;> first | (simp at h1; done) | (simp only [if_true])

theorem ow_int {bop : BinOp} {t u : TypeId} {x y : Operand} {kk : IntKind} {m n : Int} {v : Value} (k : OW C (put md .idle) all rest K N ((d, v) :: L) h Q) (hx : lookO L x = some (.int kk m) := by rfl) (hy : lookO L y = some (.int kk n) := by rfl) (h1 : (match bop with | .shl | .shr => false | _ => true) = true := by rfl) (hv : intOp bop kk m n = some v := by rfl) (hg : On all L g = true := by rfl) (hd : Nat.blt d N = true := by rfl) : OW C md all (⟨some d, .binOp bop t x y u, ty, pos, aft, g⟩ :: rest) K N L h Q :=
  ow_bin hx hy ((abin_int h1).trans hv) hg hd k

def isCmp : BinOp → Bool
  | .eql | .neq | .lss | .leq | .gtr | .geq => true
  | _ => false

/-- A comparison of numbers. -/
theorem ow_cmp {bop : BinOp} {t u : TypeId} {x y : Operand} {kk : IntKind} {m n : Int} {v : Value} (k : OW C (put md .idle) all rest K N ((d, v) :: L) h Q) (h0 : isCmp bop = true := by rfl) (hx : lookO L x = some (.int kk m) := by rfl) (hy : lookO L y = some (.int kk n) := by rfl) (hv : intOp bop kk m n = some v := by rfl) (hg : On all L g = true := by rfl) (hd : Nat.blt d N = true := by rfl) : OW C md all (⟨some d, .binOp bop t x y u, ty, pos, aft, g⟩ :: rest) K N L h Q :=
  ow_bin hx hy ((abin_int (by cases bop <;> first | rfl | cases h0)).trans hv) hg hd k

def isEq : BinOp → Bool
  | .eql | .neq => true
  | _ => false

/-- Another comparison. -/
theorem ow_eq {bop : BinOp} {t u : TypeId} {x y : Operand} {a b v : Value} (k : OW C (put md .idle) all rest K N ((d, v) :: L) h Q) (_h0 : isEq bop = true := by rfl) (hx : lookO L x = some a := by rfl) (hy : lookO L y = some b := by rfl) (hv : abin C bop t x y a b = some v := by rfl) (hg : On all L g = true := by rfl) (hd : Nat.blt d N = true := by rfl) : OW C md all (⟨some d, .binOp bop t x y u, ty, pos, aft, g⟩ :: rest) K N L h Q :=
  ow_bin hx hy hv hg hd k

theorem ow_not {t : TypeId} {x : Operand} {b : Bool} (k : OW C (put md .idle) all rest K N ((d, .bool !b) :: L) h Q) (hx : lookO L x = some (.bool b) := by rfl) (hg : On all L g = true := by rfl) (hd : Nat.blt d N = true := by rfl) : OW C md all (⟨some d, .unOp .not t x, ty, pos, aft, g⟩ :: rest) K N L h Q :=
  ow_idle hg hd rfl rfl (fun e he => by
    simp only [calmF, cUnOp, he.eval hx]
    rfl) k

theorem ow_conv {s t : TypeId} {x : Operand} {j kk : IntKind} {n : Int} (k : OW C (put md .idle) all rest K N ((d, .int kk (kk.wrap n)) :: L) h Q) (h1 : (C.u s).isSome = true := by rfl) (hs : isSliceT C s = false := by rfl) (h2 : C.u t = some (.int kk) := by rfl) (hx : lookO L x = some (.int j n) := by rfl) (hg : On all L g = true := by rfl) (hd : Nat.blt d N = true := by rfl) : OW C md all (⟨some d, .convert s t x, ty, pos, aft, g⟩ :: rest) K N L h Q := by
  have hk : kindOf C (.convert s t x) = .calm := by
    unfold kindOf; simp only [h2]
    cases C.u s with
    | none => rfl
    | some d => cases d <;> rfl
  have hr : readsMem C (.convert s t x) = false := by
    unfold readsMem
    unfold isSliceT at hs
    simp only
    cases hq : C.u s with
    | none => rfl
    | some d =>
      rw [hq] at hs
      cases d <;> first | rfl | (simp at hs; done)
  refine ow_idle hg hd hk hr (fun e he => ?_) k
  simp only [calmF, cConvert, he.eval hx, h2]
  obtain ⟨q, hq⟩ := Option.isSome_iff_exists.1 h1
  rw [hq]

theorem ow_func {f : FuncId} {first cap : List Operand} {fs cs : List Value} (k : OW C (put md .idle) all rest K N ((d, .func (.func f) ⟨fs⟩ ⟨cs⟩) :: L) h Q) (h1 : lookOs L first = some fs := by rfl) (h2 : lookOs L cap = some cs := by rfl) (hg : On all L g = true := by rfl) (hd : Nat.blt d N = true := by rfl) : OW C md all (⟨some d, .makeFunc (.func f) ⟨first⟩ ⟨cap⟩, ty, pos, aft, g⟩ :: rest) K N L h Q :=
  ow_idle hg hd rfl rfl (fun e he => by simp only [calmF, he.evals h1, he.evals h2]) k

noncomputable def elemSize (C : Ctx) (t : TypeId) : Option Nat := match C.u t with
  | some (.slice e) => C.size e
  | _ => none

theorem addr_step {b o n : Nat} : (⟨b, o, none⟩ : Addr).add n = ⟨b, o + n, none⟩ := by
  unfold Addr.add; split
  · rename_i h0; rw [h0]; simp
  · rfl

theorem ow_index {t : TypeId} {x i : Operand} {b o n c s m : Nat} {kk : IntKind} (hm : m < n) (hc : c ≤ LOOSE) (k : OW C (put md .idle) all rest K N ((d, .pointer (some ⟨b, o + m * s, none⟩)) :: L) h Q) (ht : elemSize C t = some s := by rfl) (hx : lookO L x = some (.slice (some ⟨b, o, none⟩) n c) := by rfl) (hi : lookO L i = some (.int kk (Int.ofNat m)) := by rfl) (hg : On all L g = true := by rfl) (hd : Nat.blt d N = true := by rfl) : OW C md all (⟨some d, .indexAddr t x i, ty, pos, aft, g⟩ :: rest) K N L h Q :=
  ow_idle hg hd rfl rfl (fun e he => by
    simp only [calmF, cIndexAddr, he.eval hx, he.eval hi, asNat]
    unfold elemSize at ht
    split at ht
    · rename_i el q
      rw [q]; simp only [ht]
      rw [blt_of hm, Nat.ble_eq_true_of_le hc]
      simp only [Bool.and_self, cond_true, addr_step]
    · cases ht) k

noncomputable def arrT (C : Ctx) (t : TypeId) : Option (Nat × Nat) := match C.u t with
  | some (.array n e) => match C.size e with | some s => some (n, s) | none => none
  | _ => none

theorem ow_indexArr {t : TypeId} {x i : Operand} {b o n s m : Nat} {kk : IntKind} (hm : m < n) (k : OW C (put md .idle) all rest K N ((d, .pointer (some ⟨b, o + m * s, none⟩)) :: L) h Q) (ht : arrT C t = some (n, s) := by rfl) (hx : lookO L x = some (.pointer (some ⟨b, o, none⟩)) := by rfl) (hi : lookO L i = some (.int kk (Int.ofNat m)) := by rfl) (hg : On all L g = true := by rfl) (hd : Nat.blt d N = true := by rfl) : OW C md all (⟨some d, .indexAddr t x i, ty, pos, aft, g⟩ :: rest) K N L h Q :=
  ow_idle hg hd rfl rfl (fun e he => by
    simp only [calmF, cIndexAddr, he.eval hx, he.eval hi, asNat]
    unfold arrT at ht
    split at ht
    · rename_i el n2 q
      split at ht
      · rename_i s2 hs
        simp only [Option.some.injEq, Prod.mk.injEq] at ht
        obtain ⟨rfl, rfl⟩ := ht
        rw [q]; simp only [hs]
        rw [blt_of hm]
        simp only [cond_true, addr_step]
      · cases ht
    · cases ht) k

/-! Those that make a block -/
theorem ow_alloc {t : TypeId} {z : Value} {cs : List Value} (k : OW C (put md .idle) all rest K N ((d, .pointer (some ⟨h.next, 0, none⟩)) :: L) (h.new (.cells cs 0)) Q) (hz : C.zero t = some z := by rfl) (hcs : z.cells.toList = cs := by rfl) (hg : On all L g = true := by rfl) (hd : Nat.blt d N = true := by rfl) : OW C md all (⟨some d, .alloc t, ty, pos, aft, g⟩ :: rest) K N L h Q :=
  ow_make hg hd rfl rfl (fun e he => by simp only [calmF, cAlloc, hz, hcs]) k
theorem ow_box {t : TypeId} {x : Operand} {cs : List Value} (k : OW C (put md .idle) all rest K N ((d, .pointer (some ⟨h.next, 0, none⟩)) :: L) (h.new (.cells cs 0)) Q) (hx : lookO L x = some (.agg ⟨cs⟩) := by rfl) (hg : On all L g = true := by rfl) (hd : Nat.blt d N = true := by rfl) : OW C md all (⟨some d, .box t x, ty, pos, aft, g⟩ :: rest) K N L h Q :=
  ow_make hg hd rfl rfl (fun e he => by simp only [calmF, he.eval hx]; rfl) k

/-! A read gives the same elsewhere -/
theorem at_load {t : TypeId} {x : Operand} {p : Addr} {v : Value} {a hx : H} (ht : aggOf C t = some false) (hp : lookO L x = some (.pointer (some p))) (hl : a.load p = some v) : Agn C N ⟨some d, .load t x, ty, pos, aft, g⟩ hx L v a := .inr fun e he => by
  simp only [calmF, cLoad, he.eval hp]
  unfold aggOf at ht
  obtain ⟨i, hi, ha⟩ := Option.map_eq_some_iff.1 ht
  rw [hi]; simp only [loadV, ha, cond_false, hl, pv]
theorem at_loadA {t : TypeId} {x : Operand} {p : Addr} {s : Nat} {cs : List Value} {a hx : H} (ht : aggSize C t = some s) (hp : lookO L x = some (.pointer (some p))) (hl : a.read p s = some cs) : Agn C N ⟨some d, .load t x, ty, pos, aft, g⟩ hx L (.agg ⟨cs⟩) a := .inr fun e he => by
  simp only [calmF, cLoad, he.eval hp]
  unfold aggSize at ht
  obtain ⟨i, hi, ha⟩ := Option.bind_eq_some_iff.1 ht
  rw [hi]; simp only
  cases hb : isAggD i.u with
  | false => rw [hb, cond_false] at ha; cases ha
  | true =>
    rw [hb, cond_true, Option.some.injEq] at ha
    simp only [loadV, hb, cond_true, ha, hl, pv]

/-! Calls -/
theorem ow_callV {dd : Option Nat} {f : Operand} {args : List Operand} {ats : Array TypeId} {fid : FuncId} {fs cs vs as : List Value} {P : Value → H → Prop} (hc : Cal C fid as h P) (k : ∀ v h1, P v h1 → OW C (put md (.wrote h)) all rest K N (putL dd v L) h1 Q) (hf : lookO L f = some (.func (.func fid) ⟨fs⟩ ⟨cs⟩) := by rfl) (ha : lookOs L args = some vs := by rfl) (he : fs ++ (vs ++ cs) = as := by rfl) (hg : On all L g = true := by rfl) (hd : dstOk N dd = true := by rfl) : OW C md all (⟨dd, .call { callee := .value f, args := ⟨args⟩, argTypes := ats }, ty, pos, aft, g⟩ :: rest) K N L h Q := by
  subst he
  refine ow_gen (P := P) (kd := .wrote h) hg hd (fun e he => ?_) k
  obtain ⟨n, v, h1, hcall, hn, hp⟩ := hc.run
  refine ⟨n, v, h1, ?_, hp, ?_⟩
  · unfold oper oper0
    simp only [kindOf, callVal, he.eval hf, he.evals ha, hcall]
    rw [Nat.ble_eq_true_of_le hn]; rfl
  · show One C N _ (.wrote h) (.wrote h); exact rfl

theorem ow_call {dd : Option Nat} {args : List Operand} {ats : Array TypeId} {fid : FuncId} {vs : List Value} {P : Value → H → Prop} (hc : Cal C fid vs h P) (k : ∀ v h1, P v h1 → OW C (put md (.wrote h)) all rest K N (putL dd v L) h1 Q) (ha : lookOs L args = some vs := by rfl) (hg : On all L g = true := by rfl) (hd : dstOk N dd = true := by rfl) : OW C md all (⟨dd, .call { callee := .value (.func fid), args := ⟨args⟩, argTypes := ats }, ty, pos, aft, g⟩ :: rest) K N L h Q :=
  ow_callV (fs := []) (cs := []) hc k rfl ha (by simp) hg hd
end

/-- A call of a function that is known to give a value. -/
theorem cal_orc {C : Ctx} {g : Nat} {v : Value} {rom : List Value} {h : H} (hf : C.fn.get g = none) (he : C.ext.get g = some (.orc v rom)) (hr : romIs h rom = true) : Cal C g [] h (fun r h' => r = v ∧ h = h') := by
  refine ⟨1, v, h, ?_, Nat.le_refl _, rfl, rfl⟩
  show callRun C (ev C 0) g [] h = _
  unfold callRun
  rw [hf]; simp only [he, hr, cond_true]
end Go.Mir

/- What is known of a memory: a base of which a part stays; and blocks of one's own beside it. -/
namespace Go.Mir

def Asn := List (Nat × Blk) → Prop
def blk (b : Nat) (x : Blk) : Asn := fun K => K = [(b, x)]

inductive Foot : List Asn → List (Nat × Blk) → Prop
  | nil : Foot [] []
  | cons {A : Asn} {As : List Asn} {K Ks : List (Nat × Blk)} : A K → Foot As Ks → Foot (A :: As) (K ++ Ks)

/-- Blocks of one's own, as a memory has them. -/
def Mine (S : Nat → Prop) (h : H) (K : List (Nat × Blk)) : Prop := (K.map (·.1)).Nodup ∧ ∀ p ∈ K, h.get p.1 = some p.2 ∧ p.1 < h.next ∧ ¬ S p.1

structure St (h0 : H) (S : Nat → Prop) (h : H) (As : List Asn) : Prop where
  lt : ∀ a, S a → a < h0.next
  nx : h0.next ≤ h.next
  same : ∀ a, S a → h.get a = h0.get a
  mine : ∃ K, Foot As K ∧ Mine S h K

def setL {α : Type} : List α → Nat → α → List α
  | [], _, _ => []
  | a :: as, n, x => match n with | 0 => x :: as | m + 1 => a :: setL as m x

def pull {α : Type} (l : List α) (i : Nat) : List α := match nth l i with
  | some a => a :: eraseAt l i
  | none => l

theorem Foot.at : ∀ {As : List Asn} {K : List (Nat × Blk)} {i : Nat} {A : Asn}, Foot As K → nth As i = some A → ∃ K1 K2 K3, K = K1 ++ K2 ++ K3 ∧ A K2 ∧ Foot (eraseAt As i) (K1 ++ K3) ∧ ∀ (B : Asn) (M : List (Nat × Blk)), B M → Foot (setL As i B) (K1 ++ M ++ K3)
  | _, _, i, A, .nil, hi => by simp [nth] at hi
  | A :: As, _, 0, B, .cons (K := K) (Ks := Ks) ha hf, hi => by
    simp only [nth, Option.some.injEq] at hi; subst hi
    exact ⟨[], K, Ks, by simp, ha, by simpa [eraseAt] using hf, fun B M hb => by simpa [setL] using Foot.cons hb hf⟩
  | A :: As, _, i + 1, B, .cons (K := K) (Ks := Ks) ha hf, hi => by
    simp only [nth] at hi
    obtain ⟨K1, K2, K3, e, hb, h1, h2⟩ := Foot.at hf hi
    refine ⟨K ++ K1, K2, K3, by rw [e]; simp, hb, ?_, fun B M hm => ?_⟩
    · simp only [eraseAt, List.append_assoc]; exact Foot.cons ha h1
    · have := Foot.cons ha (h2 B M hm)
      simpa [setL, List.append_assoc] using this

section
variable {h0 : H} {S : Nat → Prop} {h : H} {As : List Asn}

theorem St.init (hs : ∀ a, S a → a < h.next) : St h S h [] := ⟨hs, Nat.le_refl _, fun _ _ => rfl, [], .nil, by simp [Mine]⟩

theorem St.new (s : St h0 S h As) (x : Blk) : St h0 S (h.new x) (blk h.next x :: As) where
  lt := s.lt
  nx := Nat.le_trans s.nx (by rw [H.next_new]; omega)
  same := fun a ha => by
    have := s.lt a ha; have := s.nx
    rw [H.get_new, if_neg (by omega)]; exact s.same a ha
  mine := by
    obtain ⟨K, hf, hn, hm⟩ := s.mine
    refine ⟨(h.next, x) :: K, Foot.cons (K := [(h.next, x)]) rfl hf, ?_, fun p hp => ?_⟩
    · simp only [List.map_cons, List.nodup_cons]
      refine ⟨fun hq => ?_, hn⟩
      obtain ⟨p, hp, e⟩ := List.mem_map.1 hq
      have := (hm p hp).2.1; omega
    · rcases List.mem_cons.1 hp with rfl | hp
      · refine ⟨by rw [H.get_new, if_pos rfl], by rw [H.next_new]; exact Nat.lt_succ_self _, fun hs => ?_⟩
        have := s.lt _ hs; have := s.nx; simp only at *; omega
      · obtain ⟨a, b, c⟩ := hm p hp
        exact ⟨by rw [H.get_new, if_neg (by omega)]; exact a, by rw [H.next_new]; omega, c⟩

theorem St.get (s : St h0 S h As) (i : Nat) {b : Nat} {x : Blk} (hi : nth As i = some (blk b x)) : h.get b = some x := by
  obtain ⟨K, hf, hn, hm⟩ := s.mine
  obtain ⟨K1, K2, K3, e, ha, _, _⟩ := hf.at hi
  have : K2 = [(b, x)] := ha
  subst this
  exact (hm (b, x) (by rw [e]; simp)).1

theorem St.lt_next (s : St h0 S h As) (i : Nat) {b : Nat} {x : Blk} (hi : nth As i = some (blk b x)) : b < h.next := by
  obtain ⟨K, hf, hn, hm⟩ := s.mine
  obtain ⟨K1, K2, K3, e, ha, _, _⟩ := hf.at hi
  have : K2 = [(b, x)] := ha
  subst this
  exact (hm (b, x) (by rw [e]; simp)).2.1

theorem St.set (s : St h0 S h As) (i : Nat) {b : Nat} {x : Blk} (hi : nth As i = some (blk b x)) (y : Blk) : St h0 S (h.set b y) (setL As i (blk b y)) where
  lt := s.lt
  nx := s.nx
  same := fun a ha => by
    obtain ⟨K, hf, hn, hm⟩ := s.mine
    obtain ⟨K1, K2, K3, e, hb, _, _⟩ := hf.at hi
    have : K2 = [(b, x)] := hb
    subst this
    have := (hm (b, x) (by rw [e]; simp)).2.2
    rw [H.get_set, if_neg (fun q => this (by rw [q]; exact ha))]; exact s.same a ha
  mine := by
    obtain ⟨K, hf, hn, hm⟩ := s.mine
    obtain ⟨K1, K2, K3, e, hb, _, h2⟩ := hf.at hi
    have : K2 = [(b, x)] := hb
    subst this
    subst e
    have hb := hm (b, x) (by simp)
    refine ⟨K1 ++ [(b, y)] ++ K3, h2 _ _ rfl, by simpa using hn, fun p hp => ?_⟩
    simp only [List.append_assoc, List.cons_append, List.nil_append, List.mem_append, List.mem_cons] at hp
    simp only [List.append_assoc, List.cons_append, List.nil_append, List.map_append, List.map_cons, List.nodup_append, List.nodup_cons, List.mem_map, List.mem_cons] at hn
    have key : ∀ p, p ∈ K1 ∨ p ∈ K3 → p.1 ≠ b := by
      rintro p (hp | hp) e
      · exact hn.2.2 p.1 ⟨p, hp, rfl⟩ b (Or.inl rfl) e
      · exact hn.2.1.1 ⟨p, hp, e⟩
    have old : ∀ p, p ∈ K1 ∨ p ∈ K3 → (h.set b y).get p.1 = some p.2 ∧ p.1 < (h.set b y).next ∧ ¬ S p.1 := fun p hp => by
      have q := hm p (by simp only [List.append_assoc, List.cons_append, List.nil_append, List.mem_append, List.mem_cons]; rcases hp with hp | hp <;> simp [hp])
      exact ⟨by rw [H.get_set, if_neg (fun e => key p hp e.symm)]; exact q.1, q.2⟩
    rcases hp with hp | rfl | hp
    · exact old p (Or.inl hp)
    · exact ⟨by rw [H.get_set, if_pos rfl], hb.2⟩
    · exact old p (Or.inr hp)

theorem Mine.sub {K M : List (Nat × Blk)} (m : Mine S h K) (hs : M.Sublist K) : Mine S h M :=
  ⟨m.1.sublist (hs.map _), fun p hp => m.2 p (hs.subset hp)⟩

theorem Mine.perm {K M : List (Nat × Blk)} (m : Mine S h K) (hs : K.Perm M) : Mine S h M :=
  ⟨(hs.map _).nodup_iff.1 m.1, fun p hp => m.2 p (hs.mem_iff.2 hp)⟩

theorem St.drop (s : St h0 S h As) (i : Nat) {A : Asn} (hi : nth As i = some A) : St h0 S h (eraseAt As i) := by
  obtain ⟨K, hf, hm⟩ := s.mine
  obtain ⟨K1, K2, K3, e, _, h1, _⟩ := hf.at hi
  subst e
  exact ⟨s.lt, s.nx, s.same, K1 ++ K3, h1, hm.sub (by rw [List.append_assoc]; exact (List.Sublist.refl K1).append (List.sublist_append_right _ _))⟩

theorem St.pull (s : St h0 S h As) (i : Nat) {A : Asn} (hi : nth As i = some A) : St h0 S h (A :: eraseAt As i) := by
  obtain ⟨K, hf, hm⟩ := s.mine
  obtain ⟨K1, K2, K3, e, ha, h1, _⟩ := hf.at hi
  subst e
  refine ⟨s.lt, s.nx, s.same, K2 ++ (K1 ++ K3), Foot.cons ha h1, hm.perm ?_⟩
  rw [← List.append_assoc]
  exact List.perm_append_comm.append_right _

/-- Another word for one of one's own. -/
theorem St.imp (s : St h0 S h As) (i : Nat) {A B : Asn} (hi : nth As i = some A) (q : ∀ K, A K → B K) : St h0 S h (setL As i B) := by
  obtain ⟨K, hf, hm⟩ := s.mine
  obtain ⟨K1, K2, K3, e, ha, _, h2⟩ := hf.at hi
  subst e
  exact ⟨s.lt, s.nx, s.same, _, h2 B K2 (q _ ha), hm⟩

/-- One of one's own, seen. -/
theorem St.see (s : St h0 S h As) (i : Nat) {A : Asn} (hi : nth As i = some A) : ∃ K, A K := by
  obtain ⟨K, hf, hm⟩ := s.mine
  obtain ⟨K1, K2, K3, e, ha, _, h2⟩ := hf.at hi
  exact ⟨K2, ha⟩

/-- What is not changed any more stays from here on. -/
theorem St.freeze (s : St h0 S h As) (i : Nat) {A : Asn} (hi : nth As i = some A) : ∃ K, A K ∧ (∀ p ∈ K, h.get p.1 = some p.2) ∧ St h (fun a => S a ∨ ∃ p ∈ K, p.1 = a) h (eraseAt As i) := by
  obtain ⟨K, hf, hn, hm⟩ := s.mine
  obtain ⟨K1, K2, K3, e, ha, h1, _⟩ := hf.at hi
  subst e
  refine ⟨K2, ha, fun p hp => (hm p (by simp [hp])).1, ?_, Nat.le_refl _, fun _ _ => rfl, K1 ++ K3, h1, ?_, fun p hp => ?_⟩
  · rintro a (ha | ⟨p, hp, rfl⟩)
    · exact Nat.lt_of_lt_of_le (s.lt a ha) s.nx
    · exact (hm p (by simp [hp])).2.1
  · exact (Mine.sub ⟨hn, hm⟩ (by rw [List.append_assoc]; exact (List.Sublist.refl K1).append (List.sublist_append_right _ _))).1
  · have hp' : p ∈ K1 ++ K2 ++ K3 := by
      rcases List.mem_append.1 hp with q | q <;> simp [q]
    obtain ⟨a, b, c⟩ := hm p hp'
    refine ⟨a, b, ?_⟩
    rintro (q | ⟨p', hp2, e⟩)
    · exact c q
    · simp only [List.map_append, List.append_assoc] at hn
      rw [List.nodup_append] at hn
      obtain ⟨_, n2, n3⟩ := hn
      rw [List.nodup_append] at n2
      rcases List.mem_append.1 hp with q | q
      · exact n3 p.1 (List.mem_map_of_mem q) p'.1 (by simp only [List.mem_append]; exact Or.inl (List.mem_map_of_mem hp2)) e.symm
      · exact n2.2.2 p'.1 (List.mem_map_of_mem hp2) p.1 (List.mem_map_of_mem q) e

/-- The base moves to what is now. -/
theorem St.rebase (s : St h0 S h As) : St h S h As := ⟨fun a ha => Nat.lt_of_lt_of_le (s.lt a ha) s.nx, Nat.le_refl _, fun _ _ => rfl, s.mine⟩

theorem St.load (s : St h0 S h As) {b o : Nat} (hb : S b) : h.load ⟨b, o, none⟩ = h0.load ⟨b, o, none⟩ := by
  unfold H.load H.cells?; rw [s.same b hb]
theorem St.read (s : St h0 S h As) {b o n : Nat} (hb : S b) : h.read ⟨b, o, none⟩ n = h0.read ⟨b, o, none⟩ n := by
  unfold H.read H.cells?; rw [s.same b hb]
end

/-- All that was there stands. -/
def Le (h h' : H) : Prop := h.next ≤ h'.next ∧ ∀ a, a < h.next → h'.get a = h.get a
theorem Le.refl (h : H) : Le h h := ⟨Nat.le_refl _, fun _ _ => rfl⟩
theorem Le.trans {a b c : H} (p : Le a b) (q : Le b c) : Le a c := ⟨Nat.le_trans p.1 q.1, fun x hx => (q.2 x (Nat.lt_of_lt_of_le hx p.1)).trans (p.2 x hx)⟩
theorem Le.new (h : H) (x : Blk) : Le h (h.new x) := ⟨by rw [H.next_new]; omega, fun a ha => by rw [H.get_new, if_neg (by omega)]⟩

theorem St.le {h0 h h' : H} {S : Nat → Prop} {As : List Asn} (s : St h0 S h As) (q : Le h h') : St h0 S h' As where
  lt := s.lt
  nx := Nat.le_trans s.nx q.1
  same := fun a ha => (q.2 a (Nat.lt_of_lt_of_le (s.lt a ha) s.nx)).trans (s.same a ha)
  mine := by
    obtain ⟨K, hf, hn, hm⟩ := s.mine
    exact ⟨K, hf, hn, fun p hp => by
      obtain ⟨a, b, c⟩ := hm p hp
      exact ⟨(q.2 _ b).trans a, Nat.lt_of_lt_of_le b q.1, c⟩⟩

/-- All that is there as the base. -/
def Here (h : H) : Nat → Prop := fun a => a < h.next
theorem St.here (h : H) : St h (Here h) h [] := St.init fun _ q => q
theorem St.toLe {h h1 : H} {As : List Asn} (s : St h (Here h) h1 As) : Le h h1 := ⟨s.nx, s.same⟩

/-- A cell of a block that is known. -/
theorem loadOf {h : H} {b o : Nat} {cs : List Value} {z : Nat} {v : Value} (hb : h.get b = some (.cells cs z)) (hv : nth cs o = some v) : h.load ⟨b, o, none⟩ = some v := by
  unfold H.load H.cells?; rw [hb]; exact hv
theorem readOf {h : H} {b o n : Nat} {cs r : List Value} {z : Nat} (hb : h.get b = some (.cells cs z)) (hv : takeN n (dropN o cs) = some r) : h.read ⟨b, o, none⟩ n = some r := by
  unfold H.read H.cells?; rw [hb]; exact hv

theorem read_load {h : H} {b o n k : Nat} {cs : List Value} (hr : h.read ⟨b, o, none⟩ n = some cs) (hk : k < n) : h.load ⟨b, o + k, none⟩ = nth cs k := by
  unfold H.read at hr
  unfold H.load
  cases hc : h.cells? b with
  | none => simp [hc] at hr
  | some c =>
    simp only [hc] at hr ⊢
    obtain ⟨_, _, h3⟩ := take_of hr
    rw [nth_eq, nth_eq, h3 k hk]

/-- A slice in the part that stays: its elements, each of so many cells. -/
def Sl {α : Type} (h : H) (S : Nat → Prop) (w : Nat) (R : α → List Value → Prop) (v : Value) (xs : List α) : Prop :=
  ∃ a n c, v = .slice a n c ∧ n = xs.length ∧ c ≤ LOOSE ∧ n < 2 ^ 62 ∧ (match a with
    | none => n = 0 ∧ c = 0
    | some a => n = 0 ∨ ∃ b o, a = ⟨b, o, none⟩ ∧ S b ∧ ∀ i x, xs[i]? = some x → ∃ cs, cs.length = w ∧ R x cs ∧ h.read ⟨b, o + i * w, none⟩ w = some cs)

theorem Sl.to {α : Type} {h h' : H} {S S' : Nat → Prop} {w : Nat} {R R' : α → List Value → Prop} {v : Value} {xs : List α} (q : Sl h S w R v xs) (hs : ∀ a, S a → S' a ∧ h'.get a = h.get a) (hr : ∀ x cs, R x cs → R' x cs) : Sl h' S' w R' v xs := by
  obtain ⟨a, n, c, e, h1, h2, h3, h4⟩ := q
  refine ⟨a, n, c, e, h1, h2, h3, ?_⟩
  cases a with
  | none => exact h4
  | some a =>
    rcases h4 with h4 | ⟨b, o, e1, e2, e3⟩
    · exact .inl h4
    refine .inr ⟨b, o, e1, (hs b e2).1, fun i x hx => ?_⟩
    obtain ⟨cs, f1, f2, f3⟩ := e3 i x hx
    refine ⟨cs, f1, hr _ _ f2, ?_⟩
    rw [← f3]; unfold H.read H.cells?; rw [(hs b e2).2]

/-! An allocation, a store, with what is known of the memory -/
section
variable {C : Ctx} {md : Option (List KD)} {all rest : List Oper} {K : List Fr} {N : Nat} {L : List (Nat × Value)} {h : H} {Q : Out → Env → H → Prop} {d : Nat} {ty : TypeId} {pos : String} {aft : Array Edge} {g : Option (Nat × Bool)} {h0 : H} {S : Nat → Prop} {As : List Asn}

theorem st_alloc {t : TypeId} {cs : List Value} (s : St h0 S h As) (k : ∀ b h1, St h0 S h1 (blk b (.cells cs 0) :: As) → OW C (put md .idle) all rest K N ((d, .pointer (some ⟨b, 0, none⟩)) :: L) h1 Q) (hz : (C.zero t).map (·.cells.toList) = some cs := by rfl) (hg : On all L g = true := by rfl) (hd : Nat.blt d N = true := by rfl) : OW C md all (⟨some d, .alloc t, ty, pos, aft, g⟩ :: rest) K N L h Q := by
  obtain ⟨z, hz1, hz2⟩ := Option.map_eq_some_iff.1 hz
  exact ow_alloc (k _ _ (s.new _)) hz1 hz2 hg hd

theorem st_box {t : TypeId} {x : Operand} {cs : List Value} (s : St h0 S h As) (k : ∀ b h1, St h0 S h1 (blk b (.cells cs 0) :: As) → OW C (put md .idle) all rest K N ((d, .pointer (some ⟨b, 0, none⟩)) :: L) h1 Q) (hx : lookO L x = some (.agg ⟨cs⟩) := by rfl) (hg : On all L g = true := by rfl) (hd : Nat.blt d N = true := by rfl) : OW C md all (⟨some d, .box t x, ty, pos, aft, g⟩ :: rest) K N L h Q :=
  ow_box (k _ _ (s.new _)) hx hg hd

theorem st_box1 {t : TypeId} {x : Operand} {v : Value} (s : St h0 S h As) (k : ∀ b h1, St h0 S h1 (blk b (.cells [v] 0) :: As) → OW C (put md .idle) all rest K N ((d, .pointer (some ⟨b, 0, none⟩)) :: L) h1 Q) (hx : lookO L x = some v := by rfl) (ho : v.cells.toList = [v] := by rfl) (hg : On all L g = true := by rfl) (hd : Nat.blt d N = true := by rfl) : OW C md all (⟨some d, .box t x, ty, pos, aft, g⟩ :: rest) K N L h Q :=
  ow_make (v := .pointer (some ⟨h.next, 0, none⟩)) (b := .cells [v] 0) hg hd rfl rfl (fun e he => by simp only [calmF, he.eval hx, ho]) (k _ _ (s.new _))

theorem st_load {t : TypeId} {x : Operand} {b o i : Nat} {cs : List Value} {z : Nat} {v : Value} (s : St h0 S h As) (k : OW C (put md (.read h L v)) all rest K N ((d, v) :: L) h Q) (ht : aggOf C t = some false := by rfl) (hx : lookO L x = some (.pointer (some ⟨b, o, none⟩)) := by rfl) (hi : nth As i = some (blk b (.cells cs z)) := by rfl) (hv : nth cs o = some v := by rfl) (hg : On all L g = true := by rfl) (hd : Nat.blt d N = true := by rfl) : OW C md all (⟨some d, .load t x, ty, pos, aft, g⟩ :: rest) K N L h Q :=
  ow_load (loadOf (s.get i hi) hv) k ht hx hg hd

theorem st_loadA {t : TypeId} {x : Operand} {b o i n : Nat} {cs r : List Value} {z : Nat} (s : St h0 S h As) (k : OW C (put md (.read h L (.agg ⟨r⟩))) all rest K N ((d, .agg ⟨r⟩) :: L) h Q) (ht : aggSize C t = some n := by rfl) (hx : lookO L x = some (.pointer (some ⟨b, o, none⟩)) := by rfl) (hi : nth As i = some (blk b (.cells cs z)) := by rfl) (hv : takeN n (dropN o cs) = some r := by rfl) (hg : On all L g = true := by rfl) (hd : Nat.blt d N = true := by rfl) : OW C md all (⟨some d, .load t x, ty, pos, aft, g⟩ :: rest) K N L h Q :=
  ow_loadA (readOf (s.get i hi) hv) k ht hx hg hd

theorem st_store {dd : Option Nat} {t : TypeId} {p x : Operand} {b o i n : Nat} {cs cs' : List Value} {z : Nat} {v : Value} {vs : List Value} (s : St h0 S h As) (k : ∀ h1, St h0 S h1 (setL As i (blk b (.cells cs' z))) → OW C (put md (.wrote h)) all rest K N (putL dd undef L) h1 Q) (ht : C.size t = some n := by rfl) (hp : lookO L p = some (.pointer (some ⟨b, o, none⟩)) := by rfl) (hx : lookO L x = some v := by rfl) (hvs : v.cells.toList = vs := by rfl) (hn : vs.length = n := by rfl) (ho : allB oneCell vs = true := by rfl) (hi : nth As i = some (blk b (.cells cs z)) := by rfl) (hw : overAt o vs cs = some cs' := by rfl) (hg : On all L g = true := by rfl) (hd : dstOk N dd = true := by rfl) : OW C md all (⟨dd, .store t p x, ty, pos, aft, g⟩ :: rest) K N L h Q := by
  refine ow_loud (v := undef) (h1 := h.set b (.cells cs' z)) hg hd rfl (fun e he => ?_) (Nat.le_refl _) (k _ (s.set i hi _))
  simp only [loudF, lStore, he.eval hp, he.eval hx, ht, hvs, hn, Nat.beq_refl, cond_true]
  unfold H.write
  simp only [s.get i hi, ho, cond_true, hw]

def lookPs (L : List (Nat × Value)) : List (Nat × Operand) → Option (List (Nat × Value))
  | [] => some []
  | (i, x) :: xs => match lookO L x, lookPs L xs with
    | some v, some vs => some ((i, v) :: vs)
    | _, _ => none

theorem lookPs_map {e : Env} (he : Knows e N L) : ∀ {ps : List (Nat × Operand)} {pvs : List (Nat × Value)}, lookPs L ps = some pvs → (ps.map fun p => (p.1, e.eval p.2)) = pvs
  | [], pvs, q => by simpa [lookPs] using q
  | (i, x) :: ps, pvs, q => by
    simp only [lookPs] at q
    cases h1 : lookO L x with
    | none => rw [h1] at q; simp at q
    | some v =>
      cases h2 : lookPs L ps with
      | none => rw [h1, h2] at q; simp at q
      | some vs =>
        rw [h1, h2] at q; simp only [Option.some.injEq] at q; subst q
        simp only [List.map_cons, he.eval h1, lookPs_map he h2]

noncomputable def buildSK (C : Ctx) (t : TypeId) (len : Nat) (pvs : List (Nat × Value)) : Option (List Value) :=
  match C.u t with
  | some (.slice e) => match C.size e, C.zero e with
    | some s, some z => bif Nat.ble (len * s) (2 ^ 24) && Nat.beq z.cells.toList.length s && Nat.ble 1 s then fillL (fun i => some (i * s, s)) (rep z.cells.toList len) pvs else none
    | _, _ => none
  | _ => none

theorem st_buildS {t : TypeId} {len : Nat} {parts : List (Nat × Operand)} {pvs : List (Nat × Value)} {cs : List Value} (s : St h0 S h As) (k : ∀ b h1, St h0 S h1 (blk b (.cells cs 0) :: As) → OW C (put md .idle) all rest K N ((d, .slice (some ⟨b, 0, none⟩) len len) :: L) h1 Q) (hp : lookPs L parts = some pvs := by rfl) (hb : buildSK C t len pvs = some cs := by rfl) (hg : On all L g = true := by rfl) (hd : Nat.blt d N = true := by rfl) : OW C md all (⟨some d, .buildSlice t len ⟨parts⟩, ty, pos, aft, g⟩ :: rest) K N L h Q :=
  ow_make (v := .slice (some ⟨h.next, 0, none⟩) len len) (b := .cells cs 0) hg hd rfl rfl (fun e he => by
    simp only [calmF, cBuildSlice, lookPs_map he hp]
    unfold buildSK at hb
    split at hb
    · rename_i el q
      rw [q]; simp only
      split at hb
      · rename_i sz z h1 h2
        rw [h1, h2]; simp only
        cases hc : (Nat.ble (len * sz) (2 ^ 24) && Nat.beq z.cells.toList.length sz && Nat.ble 1 sz) with
        | false => rw [hc, cond_false] at hb; cases hb
        | true => rw [hc, cond_true] at hb; rw [cond_true, hb]
      · cases hb
    · cases hb) (k _ _ (s.new _))

noncomputable def buildK (C : Ctx) (t : TypeId) (pvs : List (Nat × Value)) : Option (List Value) :=
  match C.zero t, C.u t with
  | some z, some (.struct fields) => match placesOf C fields.toList with
    | some places => fillL (nth places) z.cells.toList pvs
    | none => none
  | _, _ => none

theorem ow_build {t : TypeId} {parts : List (Nat × Operand)} {pvs : List (Nat × Value)} {cs : List Value} (k : OW C (put md .idle) all rest K N ((d, .agg ⟨cs⟩) :: L) h Q) (hp : lookPs L parts = some pvs := by rfl) (hb : buildK C t pvs = some cs := by rfl) (hg : On all L g = true := by rfl) (hd : Nat.blt d N = true := by rfl) : OW C md all (⟨some d, .build t ⟨parts⟩, ty, pos, aft, g⟩ :: rest) K N L h Q :=
  ow_idle (v := .agg ⟨cs⟩) hg hd rfl rfl (fun e he => by
    simp only [calmF, cBuild, lookPs_map he hp]
    unfold buildK at hb
    split at hb
    · rename_i z fields h1 h2
      rw [h1, h2]; simp only
      split at hb
      · rename_i places h3
        rw [h3]; simp only [hb]
      · cases hb
    · cases hb) k

theorem end_cell {o : Out} {rs : List ResultVar} {a t b k : Nat} {P : Value → H → Prop} {hh : H} {v : Value} (hr : rs = [.cell a t]) (hn : hh.next ≤ h.next) (hl : h.load ⟨b, k, none⟩ = some v) (q : P v h) (ha : look L a = some (.pointer (some ⟨b, k, none⟩)) := by rfl) (ht : aggOf C t = some false := by rfl) (ho : (match o with | .exit _ => False | _ => True) := by exact trivial) : DN C o [] N L h (Ends C rs hh P) := by
  subst hr
  refine end_res (vs := [v]) hn ?_ q ho
  unfold aggOf at ht
  obtain ⟨i, hi, hb⟩ := Option.map_eq_some_iff.1 ht
  simp only [resKs, resK, ha, hi, loadV, hb, cond_false, hl]

theorem end_cellA {o : Out} {rs : List ResultVar} {a t b k n : Nat} {P : Value → H → Prop} {hh : H} {cs : List Value} (hr : rs = [.cell a t]) (hn : hh.next ≤ h.next) (hl : h.read ⟨b, k, none⟩ n = some cs) (q : P (.agg ⟨cs⟩) h) (ha : look L a = some (.pointer (some ⟨b, k, none⟩)) := by rfl) (ht : aggSize C t = some n := by rfl) (ho : (match o with | .exit _ => False | _ => True) := by exact trivial) : DN C o [] N L h (Ends C rs hh P) := by
  subst hr
  refine end_res (vs := [.agg ⟨cs⟩]) hn ?_ q ho
  unfold aggSize at ht
  obtain ⟨i, hi, hb⟩ := Option.bind_eq_some_iff.1 ht
  cases hq : isAggD i.u with
  | false => rw [hq, cond_false] at hb; cases hb
  | true =>
    rw [hq, cond_true, Option.some.injEq] at hb
    simp only [resKs, resK, ha, hi, loadV, hq, cond_true, hb, hl]
end
end Go.Mir

/- The short words of a walk: each runs over the operations that are plain, and leaves the rest. -/
namespace Go.Mir

/-- What is left to be shown, out of the way of what is known. -/
structure Boxed (R : Prop) : Prop where
  out : R

/-- Plain operations, but comparisons. -/
theorem goM {P R : Prop} (k : R) (h : Boxed R → P := by intro k; (repeat (first | refine ow_move ?_ | refine ow_assign ?_ | refine ow_field ?_ | refine wk_seq ?_ | refine wk_region ?_ | refine ow_nil ?_ | refine dn_seq ?_ | refine dn_block ?_ | refine ow_extract ?_ | refine ow_nilCheck ?_ | refine ow_len ?_ | refine ow_lenS ?_ | refine ow_conv ?_ | refine ow_func ?_ | refine ow_not ?_ | refine ow_pickT ?_ | refine ow_pickF ?_ | refine ow_off ?_ | refine wk_block ?_ | refine wk_skip ?_ | refine wk_true ?_ | refine wk_false ?_ | refine wk_exit ?_ | refine dx_seq ?_ | refine dx_loop ?_ | refine dx_here ?_ | refine dx_on ?_ | refine wk_ret ?_ | refine dr_seq ?_ | refine dr_block ?_ | refine dr_loop ?_ | refine wk_scope ?_)); exact k.out) : P := h ⟨k⟩

/-- Plain operations. -/
theorem goA {P R : Prop} (k : R) (h : Boxed R → P := by intro k; (repeat (first | refine ow_move ?_ | refine ow_assign ?_ | refine ow_field ?_ | refine wk_seq ?_ | refine wk_region ?_ | refine ow_nil ?_ | refine dn_seq ?_ | refine dn_block ?_ | refine ow_extract ?_ | refine ow_nilCheck ?_ | refine ow_len ?_ | refine ow_lenS ?_ | refine ow_cmp ?_ | refine ow_conv ?_ | refine ow_func ?_ | refine ow_not ?_ | refine ow_pickT ?_ | refine ow_pickF ?_ | refine ow_eq ?_ | refine ow_off ?_ | refine wk_block ?_ | refine wk_skip ?_ | refine wk_true ?_ | refine wk_false ?_ | refine wk_exit ?_ | refine dx_seq ?_ | refine dx_loop ?_ | refine dx_here ?_ | refine dx_on ?_ | refine wk_ret ?_ | refine dr_seq ?_ | refine dr_block ?_ | refine dr_loop ?_ | refine wk_scope ?_)); exact k.out) : P := h ⟨k⟩

/-- Plain operations, but comparisons, and loads of one's own. -/
theorem goLM {P R : Prop} (k : R) (h : Boxed R → P := by intro k; (repeat (first | refine ow_move ?_ | refine ow_assign ?_ | refine ow_field ?_ | refine wk_seq ?_ | refine wk_region ?_ | refine ow_nil ?_ | refine dn_seq ?_ | refine dn_block ?_ | refine ow_extract ?_ | refine ow_nilCheck ?_ | refine ow_len ?_ | refine ow_lenS ?_ | refine ow_conv ?_ | refine ow_func ?_ | refine ow_not ?_ | refine ow_pickT ?_ | refine ow_pickF ?_ | refine ow_off ?_ | refine wk_block ?_ | refine wk_skip ?_ | refine wk_true ?_ | refine wk_false ?_ | refine wk_exit ?_ | refine dx_seq ?_ | refine dx_loop ?_ | refine dx_here ?_ | refine dx_on ?_ | refine wk_ret ?_ | refine dr_seq ?_ | refine dr_block ?_ | refine dr_loop ?_ | refine wk_scope ?_ | refine st_load (i := 0) (by assumption) ?_ | refine st_load (i := 1) (by assumption) ?_ | refine st_load (i := 2) (by assumption) ?_ | refine st_loadA (i := 0) (by assumption) ?_ | refine st_loadA (i := 1) (by assumption) ?_ | refine st_loadA (i := 2) (by assumption) ?_)); exact k.out) : P := h ⟨k⟩

/-- Plain operations, and loads of one's own. -/
theorem goL {P R : Prop} (k : R) (h : Boxed R → P := by intro k; (repeat (first | refine ow_move ?_ | refine ow_assign ?_ | refine ow_field ?_ | refine wk_seq ?_ | refine wk_region ?_ | refine ow_nil ?_ | refine dn_seq ?_ | refine dn_block ?_ | refine ow_extract ?_ | refine ow_nilCheck ?_ | refine ow_len ?_ | refine ow_lenS ?_ | refine ow_cmp ?_ | refine ow_conv ?_ | refine ow_func ?_ | refine ow_not ?_ | refine ow_pickT ?_ | refine ow_pickF ?_ | refine ow_eq ?_ | refine ow_off ?_ | refine wk_block ?_ | refine wk_skip ?_ | refine wk_true ?_ | refine wk_false ?_ | refine wk_exit ?_ | refine dx_seq ?_ | refine dx_loop ?_ | refine dx_here ?_ | refine dx_on ?_ | refine wk_ret ?_ | refine dr_seq ?_ | refine dr_block ?_ | refine dr_loop ?_ | refine wk_scope ?_ | refine st_load (i := 0) (by assumption) ?_ | refine st_load (i := 1) (by assumption) ?_ | refine st_load (i := 2) (by assumption) ?_ | refine st_loadA (i := 0) (by assumption) ?_ | refine st_loadA (i := 1) (by assumption) ?_ | refine st_loadA (i := 2) (by assumption) ?_)); exact k.out) : P := h ⟨k⟩
end Go.Mir

/- The data of scripts and commands, as they lie in the evaluator's memory. -/
namespace Go.Mir

structure PVal where
  kind : Int
  n : Int
  f : Int
  s : ByteArray

structure PAttr where
  key : Int
  v : PVal

structure PChg where
  key : Int
  gone : Bool
  v : PVal

structure POp where
  kind : Int
  n : Int
  runes : List Int
  set : List PAttr
  patch : List PChg

def PVal.cells (v : PVal) : List Value := [.int .u8 v.kind, .int .i64 v.n, .int .u64 v.f, .string v.s]
def PAttr.cells (a : PAttr) : List Value := .int .i64 a.key :: a.v.cells
def PChg.cells (c : PChg) : List Value := .int .i64 c.key :: .bool c.gone :: c.v.cells

def RRune (x : Int) (cs : List Value) : Prop := cs = [.int .i32 x]
def RByte (x : UInt8) (cs : List Value) : Prop := cs = [.int .u8 x.toNat]
def RAttr (x : PAttr) (cs : List Value) : Prop := cs = x.cells
def RChg (x : PChg) (cs : List Value) : Prop := cs = x.cells
def ROp (h : H) (S : Nat → Prop) (x : POp) (cs : List Value) : Prop :=
  ∃ r s p, cs = [.int .u8 x.kind, .int .i64 x.n, r, s, p] ∧ Sl h S 1 RRune r x.runes ∧ Sl h S 5 RAttr s x.set ∧ Sl h S 6 RChg p x.patch

theorem ROp.to {h h' : H} {S S' : Nat → Prop} {x : POp} {cs : List Value} (q : ROp h S x cs) (hs : ∀ a, S a → S' a ∧ h'.get a = h.get a) : ROp h' S' x cs := by
  obtain ⟨r, s, p, e, h1, h2, h3⟩ := q
  exact ⟨r, s, p, e, h1.to hs (fun _ _ q => q), h2.to hs (fun _ _ q => q), h3.to hs (fun _ _ q => q)⟩

/-- A round of a loop whose measure falls. -/
theorem wk_inv {C : Ctx} {b : Code} {K : List Fr} {N : Nat} {Q : Out → Env → H → Prop} {ι : Type} (L : ι → List (Nat × Value)) (M : ι → H) (ok : ι → Prop) (μ : ι → Nat)
    (step : ∀ i, ok i → (∀ j, ok j → μ j < μ i → WK C (.loop b) K N (L j) (M j) Q) → WK C b (.loop b :: K) N (L i) (M i) Q) (i : ι) (hi : ok i) : WK C (.loop b) K N (L i) (M i) Q := by
  have : ∀ n i, μ i < n → ok i → WK C (.loop b) K N (L i) (M i) Q := by
    intro n
    induction n with
    | zero => intro i h; omega
    | succ n ih => exact fun i hn hi => wk_loop (step i hi fun j hj hlt => ih j (by omega) hj)
  exact this _ i (Nat.lt_succ_self _) hi

theorem add_one {i : Nat} (h : i < 2 ^ 62) : intOp .add .i64 (i : Int) 1 = some (.int .i64 ((i + 1 : Nat) : Int)) := by
  simp only [intOp]
  rw [IntWalk.i64_in _ (by omega)]
  rfl

theorem le_loose {n : Nat} (h : n < 2 ^ 62) : n ≤ LOOSE := by unfold LOOSE; omega

theorem add_00 : intOp .add .i64 0 0 = some (.int .i64 0) := by
  simp only [intOp]; rw [IntWalk.i64_in _ (by omega)]; rfl

theorem Sl.inv {α : Type} {h : H} {S : Nat → Prop} {w : Nat} {R : α → List Value → Prop} {v : Value} {xs : List α} (q : Sl h S w R v xs) :
    ∃ a n c, v = .slice a n c ∧ n = xs.length ∧ c ≤ LOOSE ∧ n < 2 ^ 62 ∧ ∀ i, i < n → ∃ b o x cs, a = some ⟨b, o, none⟩ ∧ S b ∧ xs[i]? = some x ∧ cs.length = w ∧ R x cs ∧ h.read ⟨b, o + i * w, none⟩ w = some cs := by
  obtain ⟨a, n, c, e, h1, h2, h3, h4⟩ := q
  refine ⟨a, n, c, e, h1, h2, h3, fun i hi => ?_⟩
  cases a with
  | none => simp only at h4; omega
  | some a =>
    rcases h4 with h4 | ⟨b, o, e1, e2, e3⟩
    · omega
    obtain ⟨x, hx⟩ : ∃ x, xs[i]? = some x := ⟨xs[i]'(by omega), List.getElem?_eq_getElem (by omega)⟩
    obtain ⟨cs, f1, f2, f3⟩ := e3 i x hx
    exact ⟨b, o, x, cs, by rw [e1], e2, hx, f1, f2, f3⟩
end Go.Mir

/- Data of the model's memory, taken over into the evaluator's: each slice as a row of its own that is only read. -/
namespace Go.Mir

structure Imp (C : Ctx) (w : World) (j : J) (h : H) : Prop where
  rel : Rel C j h w
  rom : ∀ a x, h.get a = some x → x.live = false
  new : ∀ a, h.next ≤ a → j a = none

theorem le_new (h : H) (x : Blk) : Le h (h.new x) := Le.new h x

section
variable {C : Ctx} {w : World}

theorem Imp.add {j : J} {h : H} (q : Imp C w j h) (x : Blk) (i : Img) (hx : x.live = false)
    (hb : BlkRel C (j.upd h.next i) i x w.heap[i.blk]?) : Imp C w (j.upd h.next i) (h.new x) ∧ Ext.le j (j.upd h.next i) := by
  have hn : j h.next = none := q.new _ (Nat.le_refl _)
  have hle := upd_le (i := i) hn
  have held : ∀ b, ¬ Held (j.upd h.next i) (h.new x) b := by
    rintro b ⟨a, i', y, h1, h2, h3, _⟩
    rw [H.get_new] at h2
    by_cases e : h.next = a
    · rw [if_pos e] at h2; cases h2; rw [hx] at h3; cases h3
    · rw [if_neg e] at h2; rw [q.rom a y h2] at h3; cases h3
  have live : ∀ a y, (h.new x).get a = some y → y.live = false := fun a y h2 => by
    rw [H.get_new] at h2
    by_cases e : h.next = a
    · rw [if_pos e] at h2; cases h2; exact hx
    · rw [if_neg e] at h2; exact q.rom a y h2
  refine ⟨⟨⟨fun a i' b h1 h2 => ?_, fun a a' i1 i2 b b' _ _ h3 _ h5 => ?_, fun a b h2 => ?_, fun g hg => ?_, fun a i' c _ _ => held _⟩, live, fun a ha => ?_⟩, hle⟩
  · rw [H.get_new] at h2
    by_cases e : h.next = a
    · subst e
      rw [if_pos rfl] at h2; cases h2
      rw [upd_self] at h1; cases h1
      exact hb
    · rw [if_neg e] at h2
      have h1' : j a = some i' := by
        unfold J.upd at h1; rw [if_neg (fun q => e q.symm)] at h1; exact h1
      have := q.rel.blk a i' b h1' h2
      have hr := q.rom a b h2
      cases b with
      | dead => trivial
      | rom c =>
        obtain ⟨c', el, fz, e1, e2, e3, e4, e5⟩ := this
        exact ⟨c', el, fz, e1, e2, e3, e4, fun k v hk => ⟨by rw [(e5 k v hk).2.ren hle]; exact (e5 k v hk).1, (e5 k v hk).2.le hle⟩⟩
      | cells _ _ => cases hr
      | map _ _ => cases hr
      | iter _ _ => cases hr
      | loop _ => cases hr
  · rw [live a b h3] at h5; cases h5
  · rw [H.get_new] at h2
    rw [H.next_new]
    by_cases e : h.next = a
    · omega
    · rw [if_neg e] at h2; have := q.rel.lt a b h2; omega
  · obtain ⟨i', h1, h2⟩ := q.rel.glob g hg
    exact ⟨i', hle _ _ h1, h2⟩
  · rw [H.next_new] at ha
    unfold J.upd; rw [if_neg (by omega)]; exact q.new a (by omega)

/-- These cells can be taken over. -/
def Take (C : Ctx) (w : World) (cs : List Value) (R : H → List Value → Prop) : Prop :=
  ∀ j h, Imp C w j h → ∃ j' h' cs', Imp C w j' h' ∧ Ext.le j j' ∧ Le h h' ∧ cs'.map (ren j') = cs ∧ (∀ v ∈ cs', Wf j' v) ∧ R h' cs'

def Mono (R : H → List Value → Prop) : Prop := ∀ h h' cs, R h cs → Le h h' → R h' cs

theorem Take.mono {cs : List Value} {R R' : H → List Value → Prop} (p : Take C w cs R) (q : ∀ h cs, R h cs → R' h cs) : Take C w cs R' := fun j h i => by
  obtain ⟨j', h', cs', a, b, c, d, e, f⟩ := p j h i
  exact ⟨j', h', cs', a, b, c, d, e, q _ _ f⟩

theorem ext_refl (j : J) : Ext.le j j := fun _ _ h => h
theorem ext_trans {a b c : J} (p : Ext.le a b) (q : Ext.le b c) : Ext.le a c := fun x i h => q x i (p x i h)

theorem Take.lit {cs : List Value} {R : H → List Value → Prop} (hl : ∀ v ∈ cs, lit v = true) (hr : ∀ h, R h cs) : Take C w cs R := fun j h i =>
  ⟨j, h, cs, i, ext_refl j, Le.refl h, by
    have : ∀ v ∈ cs, ren j v = id v := fun v hv => (lit_ren j v (hl v hv)).1
    rw [List.map_congr_left this, List.map_id], fun v hv => (lit_ren j v (hl v hv)).2, hr h⟩

theorem map_ren_le {j j' : J} (h : Ext.le j j') {cs : List Value} (hw : ∀ v ∈ cs, Wf j v) : cs.map (ren j') = cs.map (ren j) :=
  List.map_congr_left fun v hv => (hw v hv).ren h

theorem Take.append {ls bs : List Value} {R Q : H → List Value → Prop} (p : Take C w ls R) (hm : Mono R) (q : Take C w bs Q) : Take C w (ls ++ bs) (fun h cs => ∃ a b, cs = a ++ b ∧ R h a ∧ Q h b) := fun j h i => by
  obtain ⟨j1, h1, c1, i1, e1, l1, m1, w1, r1⟩ := p j h i
  obtain ⟨j2, h2, c2, i2, e2, l2, m2, w2, r2⟩ := q j1 h1 i1
  refine ⟨j2, h2, c1 ++ c2, i2, ext_trans e1 e2, l1.trans l2, by rw [List.map_append, map_ren_le e2 w1, m1, m2], fun v hv => ?_, c1, c2, rfl, hm _ _ _ r1 l2, r2⟩
  rcases List.mem_append.1 hv with hv | hv
  · exact (w1 v hv).le e2
  · exact w2 v hv

/-- Rows, one behind the other; each has a thing of at most so much. -/
theorem Take.rowsM {α : Type} {wd : Nat} {R : H → α → List Value → Prop} (μ : α → Nat) (hm : ∀ h h' x cs, R h x cs → Le h h' → R h' x cs) : ∀ (rows : List (List Value × Nat)),
    (∀ r ∈ rows, Take C w r.1 (fun h cs => cs.length = wd ∧ ∃ x, R h x cs ∧ μ x ≤ r.2)) →
    ∀ j h, Imp C w j h → ∃ (j' : J) (h' : H) (rs : List (List Value)) (xs : List α), Imp C w j' h' ∧ Ext.le j j' ∧ Le h h' ∧ rs.length = rows.length ∧ xs.length = rows.length ∧ (rs.flatten.map (ren j') = (rows.map (·.1)).flatten) ∧ (∀ r ∈ rs, ∀ v ∈ r, Wf j' v) ∧ (∀ r ∈ rs, r.length = wd) ∧
      (∀ (i : Nat) (x : α), xs[i]? = some x → ∃ r, rs[i]? = some r ∧ R h' x r) ∧ (xs.map μ).sum ≤ (rows.map (·.2)).sum
  | [], _, j, h, i => ⟨j, h, [], [], i, ext_refl j, Le.refl h, rfl, rfl, rfl, by simp, by simp, by simp, by simp⟩
  | r :: rows, hr, j, h, i => by
    obtain ⟨j1, h1, c1, i1, e1, l1, m1, w1, n1, x1, r1, u1⟩ := hr r (by simp) j h i
    obtain ⟨j2, h2, rs, xs, i2, e2, l2, k1, k2, m2, w2, n2, r2, u2⟩ := Take.rowsM μ hm rows (fun r' h' => hr r' (List.mem_cons_of_mem _ h')) j1 h1 i1
    refine ⟨j2, h2, c1 :: rs, x1 :: xs, i2, ext_trans e1 e2, l1.trans l2, by simp [k1], by simp [k2], ?_, ?_, ?_, ?_, ?_⟩
    · rw [List.flatten_cons, List.map_append, map_ren_le e2 w1, m1, m2, List.map_cons, List.flatten_cons]
    · intro r' hr' v hv
      rcases List.mem_cons.1 hr' with rfl | hr'
      · exact (w1 v hv).le e2
      · exact w2 r' hr' v hv
    · intro r' hr'
      rcases List.mem_cons.1 hr' with rfl | hr'
      · exact n1
      · exact n2 r' hr'
    · intro k x hx
      cases k with
      | zero =>
        simp only [List.getElem?_cons_zero, Option.some.injEq] at hx
        subst hx
        exact ⟨c1, rfl, hm _ _ _ _ r1 l2⟩
      | succ k =>
        simp only [List.getElem?_cons_succ] at hx ⊢
        exact r2 k x hx
    · simp only [List.map_cons, List.sum_cons]; omega

theorem flatten_length {rs : List (List Value)} {wd : Nat} (h : ∀ r ∈ rs, r.length = wd) : rs.flatten.length = rs.length * wd := by
  induction rs with
  | nil => simp
  | cons r rs ih =>
    rw [List.flatten_cons, List.length_append, h r (by simp), ih (fun r' h' => h r' (List.mem_cons_of_mem _ h')), List.length_cons, Nat.succ_mul]; omega

theorem flatten_row : ∀ {rs : List (List Value)} {wd i : Nat} {r : List Value}, (∀ r ∈ rs, r.length = wd) → rs[i]? = some r → takeN wd (dropN (i * wd) rs.flatten) = some r
  | [], _, _, _, _, h => by simp at h
  | r0 :: rs, wd, 0, r, hl, h => by
    simp only [List.getElem?_cons_zero, Option.some.injEq] at h
    subst h
    have := hl r0 (by simp)
    rw [dropN_eq, takeN_eq]
    simp [← this]
  | r0 :: rs, wd, i + 1, r, hl, h => by
    simp only [List.getElem?_cons_succ] at h
    have h0 := hl r0 (by simp)
    have ih := flatten_row (fun r' h' => hl r' (List.mem_cons_of_mem _ h')) h
    rw [dropN_eq] at ih ⊢
    rw [List.flatten_cons, List.drop_append, List.drop_eq_nil_of_le (by rw [h0, Nat.succ_mul]; omega), List.nil_append, h0]
    have : (i + 1) * wd - wd = i * wd := by rw [Nat.succ_mul]; omega
    rw [this]; exact ih

/-- A slice whose cap is known. -/
def SlK {α : Type} (h : H) (S : Nat → Prop) (w : Nat) (R : α → List Value → Prop) (v : Value) (xs : List α) : Prop := Sl h S w R v xs ∧ ∃ a n c, v = .slice a n c ∧ n ≤ c ∧ c < LOOSE

/-- A slice, of rows that can be taken over. -/
theorem Take.sliceM {α : Type} {wd : Nat} (hwd : 1 ≤ wd) {R : H → α → List Value → Prop} (μ : α → Nat) (hm : ∀ h h' x cs, R h x cs → Le h h' → R h' x cs) {a : Addr} {len cap base : Nat} (hc : cap < LOOSE) (hlc : len ≤ cap) (h62 : len < 2 ^ 62)
    {rowsN : List (List Value × Nat)} (hrN : rowsN.length = len) (hrowN : ∀ i r, rowsN[i]? = some r → w.cells? base (a.add (i * wd)) wd = some r.1) (hcanN : ∀ r ∈ rowsN, Take C w r.1 (fun h cs => cs.length = wd ∧ ∃ x, R h x cs ∧ μ x ≤ r.2)) :
    Take C w [.slice (some a) len cap] (fun h cs => ∃ v xs, cs = [v] ∧ SlK h (Here h) wd (R h) v (xs : List α) ∧ (xs.map μ).sum ≤ (rowsN.map (·.2)).sum) := fun j h i => by
  obtain ⟨j1, h1, rs, xs, i1, e1, l1, k1, k2, m1, w1, n1, r1, u1⟩ := Take.rowsM μ hm rowsN hcanN j h i
  obtain ⟨rows, hrows⟩ : ∃ rows, rows = rowsN.map (·.1) := ⟨_, rfl⟩
  have hr : rows.length = len := by rw [hrows, List.length_map]; exact hrN
  have hrow : ∀ i r, rows[i]? = some r → w.cells? base (a.add (i * wd)) wd = some r := fun i r hi => by
    rw [hrows, List.getElem?_map] at hi
    obtain ⟨p, hp, rfl⟩ := Option.map_eq_some_iff.1 hi
    exact hrowN i p hp
  have k1 : rs.length = rows.length := by rw [hrows, List.length_map]; exact k1
  have k2 : xs.length = rows.length := by rw [hrows, List.length_map]; exact k2
  rw [← hrows] at m1
  have hren : ∀ (j : J) (a : Addr), ren j (.slice (some a) len cap) = .slice (some (j.addr a)) len cap := fun j a => by
    have hn : ¬ (LOOSE ≤ cap ∧ j.last a ≠ cap - LOOSE) := fun q => Nat.not_le_of_lt hc q.1
    have hn2 : ¬ LOOSE ≤ cap := Nat.not_le_of_lt hc
    simp only [ren, J.sAddr, J.sCap, if_neg hn, if_neg hn2]
  have hwf : ∀ (j : J) (a : Addr) (im : Img), j a.block = some im → Wf j (.slice (some a) len cap) := fun j a im hj => by
    simp only [Wf]; exact ⟨im, hj, fun q => absurd q (Nat.not_le_of_lt hc)⟩
  by_cases h0 : len = 0
  · -- no element: an address, and no more
    subst h0
    obtain ⟨i2, e2⟩ := i1.add .dead ⟨a.block, 0, 0, 0, 0⟩ rfl trivial
    refine ⟨_, _, [.slice (some ⟨h1.next, a.off, a.spot⟩) 0 cap], i2, ext_trans e1 e2, l1.trans (Le.new _ _), ?_, ?_, _, xs, rfl, ⟨⟨_, _, _, rfl, by omega, Nat.le_of_lt hc, by omega, .inl rfl⟩, ⟨_, _, _, rfl, hlc, hc⟩⟩, u1⟩
    · rw [List.map_singleton, hren]
      simp [J.addr, upd_self]
    · intro v hv
      simp only [List.mem_singleton] at hv
      subst hv
      exact hwf _ _ _ (upd_self _ _ _)
  · have hcell : ∀ k r, rows[k]? = some r → r.length = wd ∧ ∀ m, m < wd → w.cell? (a.add (k * wd + m)) = r[m]? := fun k r hk => by
      obtain ⟨b1, b2, b3⟩ := World.cells?_some (hrow k r hk)
      refine ⟨b2, fun m hm2 => ?_⟩
      rw [← b3 m hm2, Deep.add_add]
    have hlen : ∀ r ∈ rows, r.length = wd := fun r hr' => by
      obtain ⟨k, hk⟩ := List.getElem?_of_mem hr'
      exact (hcell k r hk).1
    -- the block
    obtain ⟨r0, hr0⟩ : ∃ r, rows[0]? = some r := ⟨_, List.getElem?_eq_getElem (by omega)⟩
    obtain ⟨hl0, hc0⟩ := hcell 0 r0 hr0
    have h00 := hc0 0 (by omega)
    rw [List.getElem?_eq_getElem (by omega)] at h00
    have hsp : a.spot = none := by
      have := World.cell?_spot h00
      revert this; unfold Addr.add; split
      · exact id
      · intro; simp_all
    obtain ⟨ab, ao, asp⟩ := a
    simp only at hsp; subst hsp
    have hadd : ∀ n, (⟨ab, ao, none⟩ : Addr).add n = ⟨ab, ao + n, none⟩ := fun n => addr_step
    obtain ⟨c', el, fz, hblk⟩ : ∃ c' el fz, w.heap[ab]? = some (.cells c' el fz) := by
      rw [hadd] at h00
      unfold World.cell? at h00
      simp only at h00
      split at h00
      · rename_i c el fz hq; exact ⟨c, el, fz, hq⟩
      · cases h00
    have hget : ∀ o, w.cell? ⟨ab, o, none⟩ = c'[o]? := fun o => by
      unfold World.cell?; simp [hblk]
    have hflat : ∀ k v, rows.flatten[k]? = some v → c'[ao + k]? = some v := fun k v hk => by
      have hkl : k < rows.length * wd := by
        have := (List.getElem?_eq_some_iff.1 hk).1
        rw [flatten_length hlen] at this; exact this
      have hq : k / wd < rows.length := by
        rw [Nat.div_lt_iff_lt_mul (by omega)]; exact hkl
      obtain ⟨r, hr'⟩ : ∃ r, rows[k / wd]? = some r := ⟨_, List.getElem?_eq_getElem hq⟩
      have hrow2 := flatten_row hlen hr'
      obtain ⟨_, _, t3⟩ := take_of hrow2
      have hm2 : k % wd < wd := Nat.mod_lt _ (by omega)
      have hk2 : k / wd * wd + k % wd = k := by rw [Nat.mul_comm]; exact Nat.div_add_mod k wd
      have := t3 (k % wd) hm2
      rw [hk2, hk] at this
      have h5 := (hcell _ r hr').2 (k % wd) hm2
      rw [hk2, hadd, hget] at h5
      rw [h5, this]
    have hsz : ao + rs.flatten.length ≤ c'.size := by
      rw [flatten_length n1, k1]
      have hpos : 0 < rows.length * wd := Nat.mul_pos (by omega) (by omega)
      have hfl := flatten_length hlen
      obtain ⟨v, hv⟩ : ∃ v, rows.flatten[rows.length * wd - 1]? = some v := ⟨_, List.getElem?_eq_getElem (by rw [hfl]; omega)⟩
      have := (Array.getElem?_eq_some_iff.1 (hflat _ v hv)).1
      omega
    obtain ⟨i2, e2⟩ := i1.add (.rom rs.flatten) ⟨ab, ao, rs.flatten.length, 0, c'.size - ao⟩ rfl (by
      refine ⟨c', el, fz, hblk, rfl, by simp only; omega, by simp only; omega, fun k v hk => ?_⟩
      have hmem := List.mem_of_getElem? hk
      obtain ⟨r, hr1, hr2⟩ := List.mem_flatten.1 hmem
      have hw := w1 r hr1 v hr2
      have hle := upd_le (i := ⟨ab, ao, rs.flatten.length, 0, c'.size - ao⟩) (i1.new _ (Nat.le_refl _))
      refine ⟨?_, hw.le hle⟩
      rw [hw.ren hle]
      apply hflat
      rw [← m1, List.getElem?_map, hk]; rfl)
    refine ⟨_, _, [.slice (some ⟨h1.next, 0, none⟩) len cap], i2, ext_trans e1 e2, l1.trans (Le.new _ _), ?_, ?_, _, xs, rfl, ⟨⟨_, _, _, rfl, by omega, Nat.le_of_lt hc, h62, .inr ⟨h1.next, 0, rfl, by show h1.next < (h1.new _).next; rw [H.next_new]; omega, fun k x hx => ?_⟩⟩, ⟨_, _, _, rfl, hlc, hc⟩⟩, u1⟩
    · rw [List.map_singleton, hren]
      simp [J.addr, upd_self]
    · intro v hv
      simp only [List.mem_singleton] at hv
      subst hv
      exact hwf _ _ _ (upd_self _ _ _)
    · obtain ⟨r, hr1, hr2⟩ := r1 k x hx
      refine ⟨r, n1 r (List.mem_of_getElem? hr1), hm _ _ _ _ hr2 (Le.new _ _), ?_⟩
      unfold H.read H.cells?
      rw [H.get_new, if_pos rfl]
      simp only [Nat.zero_add]
      exact flatten_row n1 hr1

theorem Take.sliceNilK {α : Type} {wd : Nat} {R : H → α → List Value → Prop} : Take C w [.slice none 0 0] (fun h cs => ∃ v, cs = [v] ∧ SlK h (Here h) wd (R h) v ([] : List α)) :=
  Take.lit (by intro v hv; simp only [List.mem_singleton] at hv; subst hv; rfl) (fun h => ⟨_, rfl, ⟨none, 0, 0, rfl, rfl, Nat.zero_le _, by omega, rfl, rfl⟩, none, 0, 0, rfl, Nat.le_refl _, by decide⟩)

theorem weightsAll_mem {X : Type} {P : Program} {e : TypeId} : ∀ {l : List (DataW X)} {d : DataW X}, d ∈ l → ∀ n ∈ d.weights P e, n ∈ DataW.weightsAll P e l
  | [], _, h, _, _ => by cases h
  | d0 :: l, d, h, n, hn => by
    simp only [DataW.weightsAll, List.mem_append]
    rcases List.mem_cons.1 h with rfl | h
    · exact .inl hn
    · exact .inr (weightsAll_mem h n hn)

/-- A slice that reads as data can be taken over, where its elements can. -/
theorem can_sliceM {X : Type} {enc : TypeId × Value → X} {P : Program} {base : Nat} {sp : Nat → Bool} {held : Bool} {fuel : Nat} {cs : List Value} {x : DataW X × List MemPlace} {t e : TypeId} {wd : Nat} {α : Type}
    (ht : P.underlying t = some (.slice e)) (hwd : P.cellsOf e = wd) (h1 : 1 ≤ wd) (hb : Nat.ble 1 (P.bytesOf e) = true) {R : H → α → List Value → Prop} (μ : α → Nat) (β : DataW X → Nat) (hβ : ∀ el sp, (el.map β).sum ≤ β (.slice el sp)) (hm : ∀ h h' x cs, R h x cs → Le h h' → R h' x cs)
    (hel : ∀ fuel cs x, DataW.trod enc P w base sp held fuel e cs = some x → (∀ n ∈ x.1.weights P e, n ≤ reachBytes) → Take C w cs (fun h cs' => cs'.length = wd ∧ ∃ a, R h a cs' ∧ μ a ≤ β x.1))
    (h : DataW.trod enc P w base sp held fuel t cs = some x) (hw : ∀ n ∈ x.1.weights P t, n ≤ reachBytes) :
    Take C w cs (fun h cs' => ∃ v xs, cs' = [v] ∧ SlK h (Here h) wd (R h) v (xs : List α) ∧ (xs.map μ).sum ≤ β x.1) := by
  rcases DataW.trod_slice ht h with ⟨rfl, _⟩ | ⟨a, len, cap, elems, rest, n, _, rfl, rfl, _, hlc, hmax, hlen, hget, _, _⟩
  · exact Take.sliceNilK.mono fun _ _ ⟨v, e, q⟩ => ⟨v, [], e, q, by simp⟩
  · rw [hwd] at hget
    have hws : ∀ n ∈ ((elems.map (·.1)).length * P.bytesOf e + (rest.map (·.1)).length * P.bytesOf e) :: DataW.weightsAll P e (elems.map (·.1)), n ≤ reachBytes := by
      intro n hn
      apply hw
      simp only [DataW.weights, ht]
      rcases List.mem_cons.1 hn with rfl | hn
      · rw [← Nat.add_mul]; exact List.mem_cons_self ..
      · exact List.mem_cons_of_mem _ (List.mem_append_left _ hn)
    have hlen62 : len < 2 ^ 62 := by
      have := hws _ (List.mem_cons_self ..)
      rw [List.length_map, hlen] at this
      have h2 : len ≤ len * P.bytesOf e := Nat.le_mul_of_pos_right _ (Nat.le_of_ble_eq_true hb)
      unfold reachBytes at this
      omega
    have hrow : ∀ i, i < len → ∃ r, w.cells? base (a.add (i * wd)) wd = some r ∧ ∃ y, DataW.trod enc P w base sp held n e r = some y ∧ elems[i]? = some y := fun i hi => by
      have := hget i hi
      rw [List.getElem?_eq_getElem (by omega)] at this
      obtain ⟨r, q1, q2⟩ := Option.bind_eq_some_iff.1 this
      exact ⟨r, q1, _, q2, by rw [List.getElem?_eq_getElem (by omega)]⟩
    have hb2 : (elems.map fun y => β y.1).sum ≤ β (DataW.slice (elems.map (·.1)) (rest.map (·.1))) := by
      have := hβ (elems.map (·.1)) (rest.map (·.1))
      rw [List.map_map] at this
      exact this
    obtain ⟨rws, hrws⟩ : ∃ rws : List (List Value × Nat), rws = (List.range len).map fun i => ((w.cells? base (a.add (i * wd)) wd).getD [], ((elems[i]?).map fun y => β y.1).getD 0) := ⟨_, rfl⟩
    have hsum : (rws.map (·.2)).sum = (elems.map fun y => β y.1).sum := by
      rw [hrws, List.map_map, ← hlen]
      have : ∀ l : List (DataW X × List MemPlace), (List.range l.length).map ((·.2) ∘ fun i => ((w.cells? base (a.add (i * wd)) wd).getD [], ((l[i]?).map fun y => β y.1).getD 0)) = l.map fun y => β y.1 := fun l => by
        apply List.ext_getElem
        · simp
        · intro i h1 h2
          simp at h1 ⊢
          rw [List.getElem?_eq_getElem (by simpa using h2)]; rfl
      rw [this]
    refine (Take.sliceM (a := a) (len := len) (cap := cap) (base := base) h1 μ hm (by unfold maxLen at hmax; unfold LOOSE; omega) hlc hlen62 (rowsN := rws) (by rw [hrws]; simp) (fun i r hr => ?_) (fun r hr => ?_)).mono fun h cs ⟨v, xs, q1, q2, q3⟩ => ⟨v, xs, q1, q2, Nat.le_trans q3 (Nat.le_trans (Nat.le_of_eq hsum) hb2)⟩
    · rw [hrws, List.getElem?_map] at hr
      obtain ⟨k, hk, rfl⟩ := Option.map_eq_some_iff.1 hr
      have hi : i < len := by have := (List.getElem?_eq_some_iff.1 hk).1; simpa using this
      have : k = i := by
        rw [List.getElem?_range hi] at hk; simpa using hk.symm
      subst this
      obtain ⟨r, q, _⟩ := hrow k hi
      rw [q]; rfl
    · rw [hrws] at hr
      obtain ⟨i, hi, rfl⟩ := List.mem_map.1 hr
      obtain ⟨r, q, y, q2, q3⟩ := hrow i (List.mem_range.1 hi)
      rw [q, q3]
      refine hel n r y q2 fun m hm => hws m (List.mem_cons_of_mem _ (weightsAll_mem (d := y.1) ?_ m hm))
      exact List.mem_map.2 ⟨y, List.mem_of_getElem? q3, rfl⟩

theorem can_sliceK {X : Type} {enc : TypeId × Value → X} {P : Program} {base : Nat} {sp : Nat → Bool} {held : Bool} {fuel : Nat} {cs : List Value} {x : DataW X × List MemPlace} {t e : TypeId} {wd : Nat} {α : Type}
    (ht : P.underlying t = some (.slice e)) (hwd : P.cellsOf e = wd) (h1 : 1 ≤ wd) (hb : Nat.ble 1 (P.bytesOf e) = true) {R : H → α → List Value → Prop} (hm : ∀ h h' x cs, R h x cs → Le h h' → R h' x cs)
    (hel : ∀ fuel cs x, DataW.trod enc P w base sp held fuel e cs = some x → (∀ n ∈ x.1.weights P e, n ≤ reachBytes) → Take C w cs (fun h cs' => cs'.length = wd ∧ ∃ a, R h a cs'))
    (h : DataW.trod enc P w base sp held fuel t cs = some x) (hw : ∀ n ∈ x.1.weights P t, n ≤ reachBytes) :
    Take C w cs (fun h cs' => ∃ v xs, cs' = [v] ∧ SlK h (Here h) wd (R h) v (xs : List α)) :=
  (can_sliceM ht hwd h1 hb (fun _ => 0) (fun _ => 0) (fun el _ => by induction el with | nil => exact Nat.le_refl _ | cons a l ih => simpa using ih) hm (fun fuel cs x q1 q2 => (hel fuel cs x q1 q2).mono fun _ _ ⟨a, b, c⟩ => ⟨a, b, c, Nat.le_refl _⟩) h hw).mono fun _ _ ⟨v, xs, e, q, _⟩ => ⟨v, xs, e, q⟩

theorem can_slice {X : Type} {enc : TypeId × Value → X} {P : Program} {base : Nat} {sp : Nat → Bool} {held : Bool} {fuel : Nat} {cs : List Value} {x : DataW X × List MemPlace} {t e : TypeId} {wd : Nat} {α : Type}
    (ht : P.underlying t = some (.slice e)) (hwd : P.cellsOf e = wd) (h1 : 1 ≤ wd) (hb : Nat.ble 1 (P.bytesOf e) = true) {R : H → α → List Value → Prop} (hm : ∀ h h' x cs, R h x cs → Le h h' → R h' x cs)
    (hel : ∀ fuel cs x, DataW.trod enc P w base sp held fuel e cs = some x → (∀ n ∈ x.1.weights P e, n ≤ reachBytes) → Take C w cs (fun h cs' => cs'.length = wd ∧ ∃ a, R h a cs'))
    (h : DataW.trod enc P w base sp held fuel t cs = some x) (hw : ∀ n ∈ x.1.weights P t, n ≤ reachBytes) :
    Take C w cs (fun h cs' => ∃ v xs, cs' = [v] ∧ Sl h (Here h) wd (R h) v (xs : List α)) :=
  (can_sliceK ht hwd h1 hb hm hel h hw).mono fun _ _ ⟨v, xs, e, q, _⟩ => ⟨v, xs, e, q⟩
end
end Go.Mir

