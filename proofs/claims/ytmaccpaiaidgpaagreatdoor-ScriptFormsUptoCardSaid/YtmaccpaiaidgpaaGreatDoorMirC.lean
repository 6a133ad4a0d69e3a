/- The evaluator is sound: what it answers of a call, the model answers on every tape. -/
import Derived.Test.YtmaccpaiaidgpaaGreatDoorMirB
/- Operations, and a region in the order of its text. -/
namespace Go.Mir

/-- The code has come to an end, or to a jump. -/
def Goes (P : Program) (fr : Frame) (m : Machine) (k : List Item) (cs : List Frame) (out : Out) (tmps' : Array Value) (ds' : List Deferred) (w' : World) : Prop :=
  match out with
  | .normal => Steps P m (lone (At fr tmps' k ds') cs w')
  | .exit id => ∃ k1, Steps P m (lone (At fr tmps' (.code (.exit id) :: k1) ds') cs w') ∧ exitTo id k1 = exitTo id k
  | .ret => ∃ k1, Steps P m (lone (At fr tmps' (.code .ret :: k1) ds') cs w')

/-- The marks of loops over functions, that a frame has taken on. -/
def Marks (w : World) (j' : J) (h' : H) (w' : World) (ds ds' : List Deferred) : Prop :=
  ∃ rs : List Nat, ds' = rs.map (fun r => (⟨.collected r, #[]⟩ : Deferred)) ++ ds ∧ rs.Nodup ∧ ∀ r ∈ rs, w.heap.size ≤ r ∧ w'.heap[r]? = some (.deferred (some [])) ∧ ¬ Held j' h' r

theorem Marks.refl (w : World) (j' : J) (h' : H) (w' : World) (ds : List Deferred) : Marks w j' h' w' ds ds := ⟨[], rfl, List.nodup_nil, by simp⟩

theorem Marks.trans {w w1 w2 : World} {j1 j2 : J} {h1 h2 : H} {ds ds1 ds2 : List Deferred} (p : Marks w j1 h1 w1 ds ds1) (hs : w.heap.size ≤ w1.heap.size) (a : Adv j1 h1 w1 j2 h2 w2) (q : Marks w1 j2 h2 w2 ds1 ds2) : Marks w j2 h2 w2 ds ds2 := by
  obtain ⟨r1, rfl, n1, p1⟩ := p
  obtain ⟨r2, rfl, n2, p2⟩ := q
  have lt1 : ∀ r ∈ r1, r < w1.heap.size := fun r hr => (Array.getElem?_eq_some_iff.1 (p1 r hr).2.1).1
  refine ⟨r2 ++ r1, by simp, ?_, fun r hr => ?_⟩
  · rw [List.nodup_append]
    refine ⟨n2, n1, fun x hx y hy e => ?_⟩
    subst e
    have := (p2 x hx).1; have := lt1 x hy; omega
  · rw [List.mem_append] at hr
    rcases hr with hr | hr
    · have := p2 r hr
      exact ⟨by omega, this.2⟩
    · have := p1 r hr
      exact ⟨this.1, by rw [a.keep r (lt1 r hr) this.2.2]; exact this.2.1, fun hh => this.2.2 (a.held r (lt1 r hr) hh)⟩

theorem Marks.after {w w1 w2 : World} {j1 j2 : J} {h1 h2 : H} {ds ds1 : List Deferred} (p : Marks w j1 h1 w1 ds ds1) (hs : w.heap.size ≤ w1.heap.size) (a : Adv j1 h1 w1 j2 h2 w2) : Marks w j2 h2 w2 ds ds1 :=
  p.trans hs a (Marks.refl _ _ _ _ _)

theorem Marks.before {w0 w : World} {j' : J} {h' : H} {w' : World} {ds ds' : List Deferred} (p : Marks w j' h' w' ds ds') (hs : w0.heap.size ≤ w.heap.size) : Marks w0 j' h' w' ds ds' := by
  obtain ⟨r, h1, h2, h3⟩ := p
  exact ⟨r, h1, h2, fun x hx => ⟨Nat.le_trans hs (h3 x hx).1, (h3 x hx).2⟩⟩

def CodeSim (C : Ctx) (c : Code) (e : Env) (h : H) (out : Out) (e' : Env) (h' : H) : Prop :=
  ∀ (j : J) (w : World) (fr : Frame) (tmps : Array Value) (k : List Item) (ds : List Deferred) (cs : List Frame), Rel C j h w → EnvRel j e tmps → Fresh j h h' → (fr.roundOf = none ∨ plainC c = true) →
    ∃ (j' : J) (w' : World) (tmps' : Array Value) (ds' : List Deferred), Adv j h w j' h' w' ∧ Rel C j' h' w' ∧ EnvRel j' e' tmps' ∧ Marks w j' h' w' ds ds' ∧ (plainC c = true → ds' = ds) ∧
      Goes C.P fr (lone (At fr tmps (.code c :: k) ds) cs w) k cs out tmps' ds' w'

def CallSim (C : Ctx) (g : FuncId) (args : List Value) (h : H) (v : Value) (h' : H) : Prop :=
  ∀ (j : J) (w : World), Rel C j h w → (∀ a ∈ args, Wf j a) → Fresh j h h' → OpOk C j h w (callFunc g ⟨args.map (ren j)⟩) v h'

def YieldSim (C : Ctx) (l : Nat) (args : List Value) (h : H) (v : Value) (h' : H) : Prop :=
  ∀ (j : J) (w : World), Rel C j h w → (j l).isSome → (∀ a ∈ args, Wf j a) → Fresh j h h' → OpOk C j h w (Instr.yield (j.blk l) ⟨args.map (ren j)⟩) v h'

structure Sound (C : Ctx) (r : R) : Prop where
  code : ∀ c e h out e' h', r.code c e h = some (out, e', h') → okC C c = true → h.next ≤ h'.next ∧ CodeSim C c e h out e' h'
  call : ∀ g args h v h', r.call g args h = some (v, h') → CallSim C g args h v h'
  yield : ∀ l args h v h', r.yield l args h = some (v, h') → YieldSim C l args h v h'

section
variable {C : Ctx} {r : R} {j : J} {h : H} {w : World}

theorem OpOk.of_run {s s' : Sem Next} {v : Value} {h' : H} (e : s'.run C.P w = s.run C.P w) (p : OpOk C j h w s v h') : OpOk C j h w s' v h' := by
  rcases p with ⟨j', w', nx, h1, h2⟩ | ⟨g, args, h1, h2⟩ | ⟨l, fn, tmps, a, b, h1, h2⟩
  · exact .inl ⟨j', w', nx, by rw [e]; exact h1, h2⟩
  · exact .inr (.inl ⟨g, args, by rw [e]; exact h1, h2⟩)
  · exact .inr (.inr ⟨l, fn, tmps, a, b, by rw [e]; exact h1, h2⟩)

theorem callVal_ok (hs : Sound C r) (hr : Rel C j h w) {f : Value} {args : List Value} {v : Value} {h' : H} (hf : Wf j f) (ha : ∀ a ∈ args, Wf j a) (hfr : Fresh j h h') (e : callVal r f args h = some (v, h')) :
    OpOk C j h w (do let d ← Deferred.ofValue (ren j f) ⟨args.map (ren j)⟩; invoke d.target d.args) v h' := by
  unfold callVal at e
  split at e
  · rename_i g first captured
    obtain ⟨first⟩ := first; obtain ⟨captured⟩ := captured
    simp only [Wf, Wfs_iff] at hf
    refine OpOk.of_run ?_ (hs.call _ _ _ _ _ e j w hr ?_ hfr)
    · have : ren j (.func (.func g) ⟨first⟩ ⟨captured⟩) = .func (.func g) ⟨first.map (ren j)⟩ ⟨captured.map (ren j)⟩ := by simp only [ren, J.fn, rens_eq]
      rw [this]
      simp only [Deferred.ofValue, Sem.run_bind, Sem.run_pure, Result.andThen_ok, invoke]
      congr 2
      apply Array.ext'; simp
    · intro a hm
      simp only [List.mem_append] at hm
      rcases hm with hm | hm | hm
      · exact hf.2.1 a hm
      · exact ha a hm
      · exact hf.2.2 a hm
  · rename_i l first captured
    obtain ⟨first⟩ := first; obtain ⟨captured⟩ := captured
    simp only [Wf, Wfs_iff] at hf
    refine OpOk.of_run ?_ (hs.yield _ _ _ _ _ e j w hr hf.1 ?_ hfr)
    · have : ren j (.func (.yield l) ⟨first⟩ ⟨captured⟩) = .func (.yield (j.blk l)) ⟨first.map (ren j)⟩ ⟨captured.map (ren j)⟩ := by simp only [ren, J.fn, rens_eq]
      rw [this]
      simp only [Deferred.ofValue, Sem.run_bind, Sem.run_pure, Result.andThen_ok, invoke]
      congr 2
      apply Array.ext'; simp
    · intro a hm
      simp only [List.mem_append] at hm
      rcases hm with hm | hm
      · exact hf.2.1 a hm
      · exact ha a hm
  · cases e

theorem calm_loud {s : Sem Next} {v : Value} (p : CalmOk C j h w s v none) (hr : Rel C j h w) : LoudOk C j h w s v h := ⟨j, w, _, p.1, .inl rfl, Adv.refl _ _ _, hr, p.2⟩

theorem calm_loud_new {s : Sem Next} {v : Value} {b : Blk} (p : CalmOk C j h w s v (some b)) (hr : Rel C j h w) (hn : j h.next = none) : LoudOk C j h w s v (h.new b) := by
  obtain ⟨i, ob, w', p1, p2, p3, p4, p5, p6, p7, p8, p9, p10⟩ := p
  obtain ⟨q1, q2⟩ := new_block hr hn p1 p5 p6 p8 p9 p10 (fun c e => by subst e; cases p7)
  exact ⟨_, w', _, p3, .inl rfl, q1, q2, p4⟩

theorem oper_of {ρ : Operand → Value} {o : Oper} {v : Value} {h' : H} (e : oper C r h ρ o = some (v, h')) : oper0 C r h ρ o = some (v, h') ∧ h.next ≤ h'.next := by
  unfold oper at e
  split at e
  · rename_i v0 h0 hh
    rw [cond_ble] at e
    split at e
    · rename_i hle; cases e; exact ⟨hh, hle⟩
    · cases e
  · cases e

theorem oper_ok (hc : CtxOk C) (hs : Sound C r) (hr : Rel C j h w) {ρ ρ' : Operand → Value} {o : Oper} (hρ' : ∀ x ∈ o.op.operands.toList, ρ' x = ren j (ρ x) ∧ Wf j (ρ x))
    {v : Value} {h' : H} (hf : Fresh j h h') (e : oper C r h ρ o = some (v, h')) : OpOk C j h w (execOp ρ' o) v h' ∧ ∀ c, o.op ≠ .defer c := by
  replace e := (oper_of e).1
  unfold oper0 at e
  simp only [calmF_eq, loudF_eq] at e
  split at e
  · rename_i hk
    have hd : ∀ c, o.op ≠ .defer c := by
      intro c hh
      unfold calm at e
      rw [hh] at e
      simp at e
    refine ⟨.inl ?_, hd⟩
    split at e
    · rename_i v0 hcalm
      simp only [Option.some.injEq, Prod.mk.injEq] at e
      obtain ⟨rfl, rfl⟩ := e
      exact calm_loud (calm_sound hc hr hρ' (by simp) hcalm) hr
    · rename_i v0 b hcalm
      simp only [Option.some.injEq, Prod.mk.injEq] at e
      obtain ⟨rfl, rfl⟩ := e
      have hn : j h.next = none := hf _ (Nat.le_refl _) (by simp [H.new])
      exact calm_loud_new (calm_sound hc hr hρ' (fun _ => hn) hcalm) hr hn
    · cases e
  · rename_i hk
    refine ⟨.inl (loud_sound hc hr hρ' hf e), fun c hh => ?_⟩
    unfold loud at e
    rw [hh] at e
    simp at e
  · split at e
    · rename_i f args ats hop
      rw [hop] at hρ'
      have hfv := hρ' f (by simp [Op.operands, Call.operands])
      have ha : ∀ x ∈ args.toList, ρ' x = ren j (ρ x) ∧ Wf j (ρ x) := fun x hx => hρ' x (by simp only [Op.operands, Call.operands]; simp; exact .inr (by simpa using hx))
      have hmap : args.map ρ' = ⟨(args.toList.map ρ).map (ren j)⟩ := by
        apply Array.ext'
        rw [Array.toList_map, List.map_map]
        exact List.map_congr_left fun x hx => (ha x hx).1
      have hwf : ∀ v ∈ args.toList.map ρ, Wf j v := fun v hv => by
        obtain ⟨x, hx, rfl⟩ := List.mem_map.1 hv
        exact (ha x hx).2
      refine ⟨OpOk.of_run ?_ (callVal_ok hs hr hfv.2 hwf hf e), fun c hh => by rw [hop] at hh; cases hh⟩
      unfold execOp
      rw [hop]
      simp only [resolve, hmap, hfv.1]
    · cases e

theorem eval_ok (hr : Rel C j h w) {e : Env} {tmps : Array Value} (he : EnvRel j e tmps) (fr : Frame) : ∀ x, litOp C x = true → ({ fr with tmps := tmps } : Frame).eval x = ren j (e.eval x) ∧ Wf j (e.eval x) := by
  intro x hx
  cases x with
  | tmp t => exact he.get t
  | const v =>
    have := lit_ren j v hx
    exact ⟨this.1.symm, this.2⟩
  | global g =>
    simp only [litOp, Nat.blt_eq] at hx
    obtain ⟨i, h1, h2, h3⟩ := hr.glob g hx
    refine ⟨?_, ?_⟩
    · show Value.pointer (some ⟨g, 0, none⟩) = ren j (.pointer (some ⟨g, 0, none⟩))
      rw [ren_ptr]
      simp [J.addr, h1, h2, h3]
    · show Wf j (.pointer (some ⟨g, 0, none⟩))
      simp [Wf, h1]
  | func f =>
    refine ⟨?_, ?_⟩
    · show Value.func (.func f) #[] #[] = ren j (.func (.func f) ⟨[]⟩ ⟨[]⟩)
      simp [ren, J.fn, rens]
    · show Wf j (.func (.func f) ⟨[]⟩ ⟨[]⟩)
      simp [Wf, Wfs]

theorem ren_bool_inv {v : Value} {b : Bool} (h : ren j v = .bool b) : v = .bool b := by
  cases v with
  | pointer a => cases a <;> simp [ren] at h
  | slice a l c => cases a <;> simp [ren] at h
  | map r => cases r <;> simp [ren] at h
  | func f a b => obtain ⟨a⟩ := a; obtain ⟨b⟩ := b; simp [ren] at h
  | agg a => obtain ⟨a⟩ := a; simp [ren] at h
  | tuple a => obtain ⟨a⟩ := a; simp [ren] at h
  | bool x => simpa [ren] using h
  | _ => simp [ren] at h

theorem wanted_eq {e : Env} {tmps : Array Value} (he : EnvRel j e tmps) (o : Oper) (ops : Array Oper) : Region.wanted o (yielded ops tmps) = wanted o ops.toList e := by
  unfold Region.wanted wanted
  cases hg : o.guard with
  | none => rfl
  | some g =>
    obtain ⟨q, want⟩ := g
    simp only [yielded, nth_eq]
    have hq : ops[q]? = ops.toList[q]? := by simp
    rw [hq]
    cases hp : ops.toList[q]? with
    | none => rfl
    | some p =>
      simp only [Option.bind_some]
      cases hd : p.dst with
      | none => rfl
      | some d =>
        simp only [Option.bind_some]
        have := (he.get d).1
        rw [Array.getD_eq_getD_getElem?] at this
        cases hv : e.get d with
        | bool b =>
          rw [hv, ren_bool] at this
          cases ht : tmps[d]? with
          | none => rw [ht] at this; simp [undef] at this
          | some x =>
            rw [ht] at this
            simp only [Option.getD_some] at this
            subst this
            cases b <;> cases want <;> rfl
        | _ =>
          rw [hv] at this
          cases ht : tmps[d]? with
          | none => rfl
          | some x =>
            rw [ht] at this
            simp only [Option.getD_some] at this
            cases x with
            | bool b => exact absurd (ren_bool_inv this.symm) (by simp)
            | _ => rfl

theorem env_put {e : Env} {tmps : Array Value} (he : EnvRel j e tmps) (d : Option Nat) {v : Value} (hv : Wf j v) : EnvRel j (e.put d v) (putT tmps d (ren j v)) := by
  cases d with
  | none => exact he
  | some d => exact he.set d hv

theorem opsOk_mem {ops : List Oper} (h : opsOk C ops = true) {o : Oper} (ho : o ∈ ops) : allB (litOp C) o.op.operands.toList = true := (allB_iff _ _).1 h o ho

/-- The operations from a place on, in the order of the text. -/
theorem opsRun_sim (hc : CtxOk C) (hs : Sound C r) (ops : Array Oper) (hok : opsOk C ops.toList = true) : ∀ (rest : List Oper) (i : Nat) (e : Env) (h : H) (e' : Env) (h' : H), ops.toList.drop i = rest → opsRun C r ops.toList rest e h = some (e', h') →
    h.next ≤ h'.next ∧ ∀ (j : J) (w : World) (fr : Frame) (tmps : Array Value) (k : List Item) (ds : List Deferred) (cs : List Frame), Rel C j h w → EnvRel j e tmps → Fresh j h h' →
      ∃ (j' : J) (w' : World) (tmps' : Array Value), Adv j h w j' h' w' ∧ Rel C j' h' w' ∧ EnvRel j' e' tmps' ∧ Steps C.P (lone (At fr tmps (.inRegion ops (List.range' i rest.length) :: k) ds) cs w) (lone (At fr tmps' k ds) cs w')
  | [], i, e, h, e', h', hd, ev => by
    simp only [opsRun, Option.some.injEq, Prod.mk.injEq] at ev
    obtain ⟨rfl, rfl⟩ := ev
    refine ⟨Nat.le_refl _, fun j w fr tmps k ds cs hr he hf => ⟨j, w, tmps, Adv.refl _ _ _, hr, he, .one ?_⟩⟩
    exact s_regionEnd
  | o :: rest, i, e, h, e', h', hd, ev => by
    have hi : ops.toList[i]? = some o := by
      have := congrArg (·[0]?) hd
      simpa [List.getElem?_drop] using this
    have hi' : ops[i]? = some o := by simpa using hi
    have hd' : ops.toList.drop (i + 1) = rest := by
      rw [← List.drop_drop, hd]; rfl
    have hm : o ∈ ops.toList := List.mem_of_getElem? hi
    simp only [opsRun] at ev
    cases hw : wanted o ops.toList e with
    | false =>
      rw [hw, cond_false] at ev
      obtain ⟨n1, ih⟩ := opsRun_sim hc hs ops hok rest (i + 1) _ _ _ _ hd' ev
      refine ⟨n1, fun j w fr tmps k ds cs hr he hf => ?_⟩
      have he2 : EnvRel j (e.put o.dst undef) (putT tmps o.dst undef) := by
        have := env_put he o.dst (undef_ren j).2
        rwa [(undef_ren j).1] at this
      obtain ⟨j', w', tmps', a1, a2, a3, a4⟩ := ih j w fr _ k ds cs hr he2 hf
      refine ⟨j', w', tmps', a1, a2, a3, .head ?_ a4⟩
      exact s_opSkip hi' (by rw [wanted_eq he]; exact hw)
    | true =>
      rw [hw, cond_true] at ev
      split at ev
      · rename_i v h1 hop
        obtain ⟨n1, ih⟩ := opsRun_sim hc hs ops hok rest (i + 1) _ _ _ _ hd' ev
        have n0 := (oper_of hop).2
        refine ⟨by omega, fun j w fr tmps k ds cs hr he hf => ?_⟩
        obtain ⟨p1, p2⟩ := oper_ok hc hs hr (fun x hx => eval_ok hr he fr x ((allB_iff _ _).1 (opsOk_mem hok hm) x hx)) (hf.left n1) hop
        obtain ⟨j1, w1, b1, b2, b3, b4⟩ := ok_steps p1 (fr := At fr tmps (.inRegion ops (i :: List.range' (i + 1) rest.length) :: k) ds) (cs := cs) trivial
          (congrArg GStep.bare (g_op hi' (by rw [wanted_eq he]; exact hw) p2))
        rw [At_finish ops i _ hi'] at b1
        obtain ⟨j', w', tmps', a1, a2, a3, a4⟩ := ih j1 w1 fr _ k ds cs b3 (env_put (he.le b2.le) o.dst b4) (hf.right b2)
        exact ⟨j', w', tmps', b2.trans a1, a2, a3, b1.trans a4⟩
      · cases ev
end
end Go.Mir

/- A region whose order is open: what stands ahead of what; the orders that its edges allow. -/
namespace Go.Mir

def maskF (acc : List Nat) (s : Nat) (e : Edge) : Nat := bif Region.binds .any e then s ||| 2 ^ e.on ||| (nth acc e.on).getD 0 else s

theorem fold_bits (acc : List Nat) (k : Nat) : ∀ (es : List Edge) (s : Nat), (es.foldl (maskF acc) s).testBit k = true ↔ s.testBit k = true ∨ ∃ e ∈ es, Region.binds .any e = true ∧ (e.on = k ∨ ((nth acc e.on).getD 0).testBit k = true)
  | [], s => by simp
  | e :: es, s => by
    rw [List.foldl_cons, fold_bits acc k es]
    unfold maskF
    cases hb : Region.binds .any e with
    | false => simp [hb]
    | true =>
      simp only [cond_true, Nat.testBit_or, Nat.testBit_two_pow, Bool.or_eq_true, decide_eq_true_eq, List.mem_cons, exists_eq_or_imp, hb, true_and]
      constructor
      · rintro (((h | h) | h) | h)
        · exact .inl h
        · exact .inr (.inl (.inl h))
        · exact .inr (.inl (.inr h))
        · exact .inr (.inr h)
      · rintro (h | (h | h) | h)
        · exact .inl (.inl (.inl h))
        · exact .inl (.inl (.inr h))
        · exact .inl (.inr h)
        · exact .inr h

theorem befs_cons (acc : List Nat) (o : Oper) (os : List Oper) : befs acc (o :: os) = o.after.toList.foldl (maskF acc) 0 :: befs (acc ++ [o.after.toList.foldl (maskF acc) 0]) os := rfl

theorem befs_length : ∀ (os : List Oper) (acc : List Nat), (befs acc os).length = os.length
  | [], acc => rfl
  | o :: os, acc => by rw [befs_cons, List.length_cons, befs_length os, List.length_cons]

theorem befs_spec : ∀ (os : List Oper) (acc : List Nat) (i : Nat) (o : Oper), os[i]? = some o → (∀ e ∈ o.after.toList, Region.binds .any e = true → e.on < acc.length + i) →
    ∃ m, (befs acc os)[i]? = some m ∧ ∀ k, m.testBit k = true ↔ ∃ e ∈ o.after.toList, Region.binds .any e = true ∧ (e.on = k ∨ (((acc ++ befs acc os)[e.on]?).getD 0).testBit k = true)
  | [], acc, i, o, h, _ => by simp at h
  | o' :: os, acc, 0, o, h, he => by
    simp only [List.getElem?_cons_zero, Option.some.injEq] at h
    subst h
    refine ⟨_, by rw [befs_cons]; rfl, fun k => ?_⟩
    rw [fold_bits]
    simp only [Nat.zero_testBit, Bool.false_eq_true, false_or]
    constructor
    · rintro ⟨e, h1, h2, h3⟩
      refine ⟨e, h1, h2, h3.imp id fun h => ?_⟩
      rw [List.getElem?_append_left (by simpa using he e h1 h2), ← nth_eq]; exact h
    · rintro ⟨e, h1, h2, h3⟩
      refine ⟨e, h1, h2, h3.imp id fun h => ?_⟩
      rw [List.getElem?_append_left (by simpa using he e h1 h2), ← nth_eq] at h; exact h
  | o' :: os, acc, i + 1, o, h, he => by
    simp only [List.getElem?_cons_succ] at h
    obtain ⟨m, h1, h2⟩ := befs_spec os (acc ++ [o'.after.toList.foldl (maskF acc) 0]) i o h (fun e h3 h4 => by have := he e h3 h4; simp; omega)
    refine ⟨m, by rw [befs_cons]; simpa using h1, fun k => ?_⟩
    rw [h2 k, befs_cons]
    simp only [List.append_assoc, List.singleton_append]

theorem rowsOf_get : ∀ (L : List Oper) (ds : List Did) (bs : List Nat) (i k : Nat) (o : Oper) (d : Did) (b : Nat), L[k]? = some o → ds[k]? = some d → bs[k]? = some b → (rowsOf i L ds bs)[k]? = some ⟨i + k, o, d, b⟩
  | o' :: L, d' :: ds, b' :: bs, i, 0, o, d, b, h1, h2, h3 => by simp at h1 h2 h3; subst h1; subst h2; subst h3; rfl
  | o' :: L, d' :: ds, b' :: bs, i, k + 1, o, d, b, h1, h2, h3 => by
    simp only [List.getElem?_cons_succ] at h1 h2 h3
    have := rowsOf_get L ds bs (i + 1) k o d b h1 h2 h3
    simp only [rowsOf, List.getElem?_cons_succ, this]
    congr 2; omega
  | [], _, _, _, k, _, _, _, h1, _, _ => by simp at h1
  | _ :: _, [], _, _, k, _, _, _, _, h2, _ => by simp at h2
  | _ :: _, _ :: _, [], _, k, _, _, _, _, _, h3 => by simp at h3

/-- Is the second bound to stand ahead of the first? -/
def bef (L : List Oper) (i k : Nat) : Bool := (((befs [] L)[i]?).getD 0).testBit k

structure DrawFacts (C : Ctx) (L : List Oper) : Prop where
  dst : ∀ (i k : Nat) (oi ok : Oper) (d : Nat), i ≠ k → L[i]? = some oi → L[k]? = some ok → oi.dst = some d → ok.dst ≠ some d
  use : ∀ (i k : Nat) (oi ok : Oper) (d : Nat), i ≠ k → L[i]? = some oi → L[k]? = some ok → ok.dst = some d → (Operand.tmp d) ∈ oi.op.operands.toList → bef L i k = true ∨ bef L k i = true
  eff : ∀ (i k : Nat) (oi ok : Oper), i ≠ k → L[i]? = some oi → L[k]? = some ok → isCalm C oi = false → isCalm C ok = false → bef L i k = true ∨ bef L k i = true
  guard : ∀ (i : Nat) (oi : Oper) (q : Nat) (b : Bool), L[i]? = some oi → oi.guard = some (q, b) → bef L i q = true
  edge : ∀ (i : Nat) (oi : Oper), L[i]? = some oi → ∀ e ∈ oi.after.toList, Region.binds .any e = true → e.on < i

theorem anyB_iff {α : Type} (p : α → Bool) : ∀ l : List α, anyB p l = true ↔ ∃ a ∈ l, p a = true
  | [] => by simp [anyB]
  | a :: as => by
    simp only [anyB]
    cases h : p a <;> simp [h, anyB_iff p as]

theorem drawFacts {C : Ctx} {L : List Oper} (h : drawOk C L = true) : DrawFacts C L := by
  have hrow : ∀ i o, L[i]? = some o → (⟨i, o, .idle, ((befs [] L)[i]?).getD 0⟩ : Row) ∈ rowsOf 0 L (L.map fun _ => Did.idle) (befs [] L) := by
    intro i o ho
    have hl : i < L.length := (List.getElem?_eq_some_iff.1 ho).1
    have hb : (befs [] L)[i]? = some (((befs [] L)[i]?).getD 0) := by
      rw [List.getElem?_eq_getElem (by rw [befs_length]; exact hl)]; rfl
    have := rowsOf_get L (L.map fun _ => Did.idle) (befs [] L) 0 i o .idle _ ho (by simp [ho]) hb
    rw [Nat.zero_add] at this
    exact List.mem_of_getElem? this
  unfold drawOk at h
  simp only at h
  rw [allB_iff] at h
  have pr : ∀ i k oi ok, i ≠ k → L[i]? = some oi → L[k]? = some ok → pairOk C ⟨i, oi, .idle, ((befs [] L)[i]?).getD 0⟩ ⟨k, ok, .idle, ((befs [] L)[k]?).getD 0⟩ = true := by
    intro i k oi ok hne hi hk
    have := h _ (hrow i oi hi)
    rw [Bool.and_eq_true, allB_iff] at this
    have := this.2 _ (hrow k ok hk)
    rw [Bool.or_eq_true] at this
    rcases this with h' | h'
    · exact absurd (Nat.eq_of_beq_eq_true h') hne
    · exact h'
  have ro : ∀ i oi, L[i]? = some oi → rowOk ⟨i, oi, .idle, ((befs [] L)[i]?).getD 0⟩ = true := by
    intro i oi hi
    have := h _ (hrow i oi hi)
    rw [Bool.and_eq_true] at this
    exact this.1
  refine ⟨?_, ?_, ?_, ?_, ?_⟩
  · intro i k oi ok d hne hi hk h1 h2
    have := pr i k oi ok hne hi hk
    unfold pairOk at this
    simp only [Bool.and_eq_true, h1, h2] at this
    have := this.1.1
    simp [Nat.beq_refl] at this
  · intro i k oi ok d hne hi hk h1 h2
    have := pr i k oi ok hne hi hk
    unfold pairOk at this
    simp only [Bool.and_eq_true, h1] at this
    have := this.1.2
    simp only [Bool.or_eq_true] at this
    rcases this with (h' | h') | h'
    · exfalso
      have hu : usesTmp oi d = true := by
        unfold usesTmp
        rw [anyB_iff]
        exact ⟨_, h2, Nat.beq_refl _⟩
      rw [hu] at h'; cases h'
    · exact .inl h'
    · exact .inr h'
  · intro i k oi ok hne hi hk h1 h2
    have := pr i k oi ok hne hi hk
    unfold pairOk at this
    simp only [Bool.and_eq_true, h1, h2, Bool.false_or, Bool.or_eq_true] at this
    exact this.2
  · intro i oi q b hi hg
    have := ro i oi hi
    unfold rowOk at this
    simp only [hg, Bool.and_eq_true] at this
    exact this.1
  · intro i oi hi e he hb
    have := ro i oi hi
    unfold rowOk at this
    rw [Bool.and_eq_true, allB_iff] at this
    have := this.2 e he
    rw [hb] at this
    simpa [Nat.blt_eq] using this

section
variable {C : Ctx} {L : List Oper} (D : DrawFacts C L)
 include D

theorem bef_spec {i k : Nat} {o : Oper} (ho : L[i]? = some o) : bef L i k = true ↔ ∃ e ∈ o.after.toList, Region.binds .any e = true ∧ (e.on = k ∨ bef L e.on k = true) := by
  obtain ⟨m, h1, h2⟩ := befs_spec L [] i o ho (fun e h3 h4 => by have := D.edge i o ho e h3 h4; simpa using this)
  unfold bef
  rw [h1]
  simp only [Option.getD_some, List.nil_append] at h2 ⊢
  exact h2 k

theorem bef_lt : ∀ (i k : Nat), bef L i k = true → k < i := by
  intro i
  induction i using Nat.strongRecOn with
  | _ i ih =>
    intro k h
    cases ho : L[i]? with
    | none =>
      have : (befs [] L)[i]? = none := by
        rw [List.getElem?_eq_none_iff, befs_length]; exact List.getElem?_eq_none_iff.1 ho
      unfold bef at h; rw [this] at h; simp at h
    | some o =>
      obtain ⟨e, h1, h2, h3⟩ := (bef_spec D ho).1 h
      have := D.edge i o ho e h1 h2
      rcases h3 with h3 | h3
      · omega
      · have := ih e.on this k h3; omega
end

/-- An order that the edges allow. -/
structure Order (L : List Oper) (p : List Nat) : Prop where
  nodup : p.Nodup
  all : ∀ i, i ∈ p ↔ i < L.length
  edge : ∀ d i t, p = d ++ i :: t → ∀ o, L[i]? = some o → ∀ e ∈ o.after.toList, Region.binds .any e = true → e.on ∈ d

theorem Order.bef {C : Ctx} {L : List Oper} (D : DrawFacts C L) {p : List Nat} (h : Order L p) : ∀ (i : Nat) (d t : List Nat), p = d ++ i :: t → ∀ k, bef L i k = true → k ∈ d := by
  intro i
  induction i using Nat.strongRecOn with
  | _ i ih =>
    intro d t hp k hk
    have hi : i < L.length := (h.all i).1 (by rw [hp]; simp)
    have ho : L[i]? = some L[i] := List.getElem?_eq_getElem hi
    obtain ⟨e, h1, h2, h3⟩ := (bef_spec D ho).1 hk
    have he := h.edge d i t hp _ ho e h1 h2
    rcases h3 with h3 | h3
    · rw [← h3]; exact he
    · have hlt := D.edge i _ ho e h1 h2
      obtain ⟨d1, d2, hd⟩ := List.append_of_mem he
      have := ih e.on hlt d1 (d2 ++ i :: t) (by rw [hp, hd]; simp) k h3
      rw [hd]; simp [this]

theorem sub_len : ∀ (l1 l2 : List Nat), l1.Nodup → (∀ x ∈ l1, x ∈ l2) → l1.length ≤ l2.length
  | [], l2, _, _ => Nat.zero_le _
  | a :: l1, l2, hn, hs => by
    have ha : a ∈ l2 := hs a (List.mem_cons_self ..)
    rw [List.nodup_cons] at hn
    have := sub_len l1 (l2.erase a) hn.2 (fun x hx => (List.mem_erase_of_ne (a := x) (b := a) (fun e => hn.1 (by rw [← e]; exact hx))).2 (hs x (List.mem_cons_of_mem _ hx)))
    rw [List.length_erase_of_mem ha] at this
    have hp : 0 < l2.length := List.length_pos_of_mem ha
    simp only [List.length_cons]; omega

theorem go_spec {C : Ctx} (ops : Array Oper) (D : DrawFacts C ops.toList) : ∀ (fuel t : Nat) (listed : Array Bool) (acc : List Nat), listed.size = ops.size → (∀ i, i < ops.size → (listed.getD i true = true ↔ i ∈ acc)) → acc.Nodup → (∀ i ∈ acc, i < ops.size) → fuel + acc.length = ops.size →
    ∃ rest, Region.linearise.go .any ops fuel t listed acc = acc.reverse ++ rest ∧ (acc.reverse ++ rest).Nodup ∧ (∀ i, i < ops.size → i ∈ acc ∨ i ∈ rest) ∧ (∀ i ∈ rest, i < ops.size) ∧
      ∀ d i t, rest = d ++ i :: t → ∀ o, ops[i]? = some o → ∀ e ∈ o.after.toList, Region.binds .any e = true → e.on ∈ acc ∨ e.on ∈ d
  | 0, t, listed, acc, hs, hl, hn, hb, hf => by
    refine ⟨[], by simp [Region.linearise.go], by simpa [List.Nodup, List.pairwise_reverse, ne_comm] using hn, ?_, by simp, by intro d i t hh; simp at hh⟩
    intro i hi
    left
    -- all are listed
    by_cases hm : i ∈ acc
    · exact hm
    · exfalso
      have := sub_len (i :: acc) (List.range ops.size) (List.nodup_cons.2 ⟨hm, hn⟩) (fun x hx => by
        rw [List.mem_range]
        rcases List.mem_cons.1 hx with rfl | hx
        · exact hi
        · exact hb x hx)
      simp at this; omega
  | fuel + 1, t, listed, acc, hs, hl, hn, hb, hf => by
    let rs := (List.range ops.size).filter fun i => !listed.getD i true && ((ops[i]?).map (·.after.all fun e => !Region.binds .any e || listed.getD e.on false)).getD false
    have hmem : ∀ i, i ∈ rs ↔ i < ops.size ∧ i ∉ acc ∧ ∀ o, ops[i]? = some o → ∀ e ∈ o.after.toList, Region.binds .any e = true → e.on ∈ acc := by
      intro i
      simp only [rs, List.mem_filter, List.mem_range]
      constructor
      · rintro ⟨h1, h2⟩
        rw [Bool.and_eq_true, Bool.not_eq_true'] at h2
        refine ⟨h1, fun hm => ?_, fun o ho e he hbd => ?_⟩
        · rw [(hl i h1).2 hm] at h2; cases h2.1
        · have h3 := h2.2
          rw [ho] at h3
          simp only [Option.map_some, Option.getD_some] at h3
          rw [← Array.all_toList, List.all_eq_true] at h3
          have h4 := h3 e he
          rw [hbd] at h4
          simp only [Bool.not_true, Bool.false_or] at h4
          have hlt : e.on < ops.size := by
            have := D.edge i o (by simpa using ho) e he hbd; omega
          refine (hl e.on hlt).1 ?_
          rw [Array.getD_eq_getD_getElem?] at h4 ⊢
          rw [Array.getElem?_eq_getElem (by omega)] at h4 ⊢
          exact h4
      · rintro ⟨h1, h2, h3⟩
        refine ⟨h1, ?_⟩
        rw [Bool.and_eq_true, Bool.not_eq_true']
        refine ⟨?_, ?_⟩
        · cases hh : listed.getD i true with
          | false => rfl
          | true => exact absurd ((hl i h1).1 hh) h2
        · have ho : ops[i]? = some ops[i] := Array.getElem?_eq_getElem h1
          rw [ho]
          simp only [Option.map_some, Option.getD_some]
          rw [← Array.all_toList, List.all_eq_true]
          intro e he
          cases hbd : Region.binds .any e with
          | false => rfl
          | true =>
            have hm := h3 _ ho e he hbd
            have hlt := hb _ hm
            have := (hl e.on hlt).2 hm
            simp only [Bool.not_true, Bool.false_or]
            rw [Array.getD_eq_getD_getElem?] at this ⊢
            rw [Array.getElem?_eq_getElem (by omega)] at this ⊢
            exact this
    -- there is one
    have hne : rs ≠ [] := by
      obtain ⟨i, hi, hia⟩ : ∃ i, i < ops.size ∧ i ∉ acc := by
        refine Classical.byContradiction fun hcon => ?_
        have hall : ∀ i, i < ops.size → i ∈ acc := fun i hi => by
          by_cases hm : i ∈ acc
          · exact hm
          · exact absurd ⟨i, hi, hm⟩ hcon
        have := sub_len (List.range ops.size) acc List.nodup_range (fun x hx => hall x (List.mem_range.1 hx))
        simp at this; omega
      -- the least one
      have least : ∃ i, i < ops.size ∧ i ∉ acc ∧ ∀ q, q < i → q ∈ acc := by
        induction i using Nat.strongRecOn with
        | _ i ih =>
          by_cases hq : ∀ q, q < i → q ∈ acc
          · exact ⟨i, hi, hia, hq⟩
          · simp only [Classical.not_forall] at hq
            obtain ⟨q, h1, h2⟩ := hq
            exact ih q h1 (by omega) h2
      obtain ⟨i, h1, h2, h3⟩ := least
      intro hnil
      have : i ∈ rs := (hmem i).2 ⟨h1, h2, fun o ho e he hbd => h3 _ (D.edge i o (by simpa using ho) e he hbd)⟩
      rw [hnil] at this; cases this
    have hpos : 0 < rs.length := List.length_pos_iff.2 hne
    have hlt : t % rs.length < rs.length := Nat.mod_lt _ hpos
    have hget : rs[t % rs.length]? = some rs[t % rs.length] := List.getElem?_eq_getElem hlt
    generalize hx : rs[t % rs.length] = x at hget
    obtain ⟨x1, x2, x3⟩ := (hmem x).1 (by rw [← hx]; exact List.getElem_mem hlt)
    obtain ⟨rest, r1, r2, r3, r4, r5⟩ := go_spec ops D fuel (t / rs.length) (listed.setIfInBounds x true) (x :: acc) (by simpa using hs) (by
      intro i hi
      rw [Array.getD_eq_getD_getElem?]
      by_cases e : x = i
      · subst e
        rw [Array.getElem?_setIfInBounds_self_of_lt (by omega)]; simp
      · rw [Array.getElem?_setIfInBounds_ne e, ← Array.getD_eq_getD_getElem?, hl i hi]
        simp [Ne.symm e]) (List.nodup_cons.2 ⟨x2, hn⟩) (by
      intro i hi
      rcases List.mem_cons.1 hi with rfl | hi
      · exact x1
      · exact hb i hi) (by simp; omega)
    refine ⟨x :: rest, ?_, ?_, ?_, ?_, ?_⟩
    · have : Region.linearise.go .any ops (fuel + 1) t listed acc = Region.linearise.go .any ops fuel (t / rs.length) (listed.setIfInBounds x true) (x :: acc) := by
        show (match rs[t % rs.length]? with | some i => _ | none => _) = _
        rw [hget]
      rw [this, r1]; simp
    · simpa using r2
    · intro i hi
      rcases r3 i hi with h | h
      · rcases List.mem_cons.1 h with rfl | h
        · exact .inr (List.mem_cons_self ..)
        · exact .inl h
      · exact .inr (List.mem_cons_of_mem _ h)
    · intro i hi
      rcases List.mem_cons.1 hi with rfl | hi
      · exact x1
      · exact r4 i hi
    · intro d i t' hd o ho e he hbd
      cases d with
      | nil =>
        simp only [List.nil_append, List.cons.injEq] at hd
        obtain ⟨rfl, _⟩ := hd
        exact .inl (x3 o ho e he hbd)
      | cons y d =>
        simp only [List.cons_append, List.cons.injEq] at hd
        obtain ⟨rfl, hd⟩ := hd
        rcases r5 d i t' hd o ho e he hbd with h | h
        · rcases List.mem_cons.1 h with h | h
          · exact .inr (by rw [h]; exact List.mem_cons_self ..)
          · exact .inl h
        · exact .inr (List.mem_cons_of_mem _ h)

theorem order_of {C : Ctx} (ops : Array Oper) (D : DrawFacts C ops.toList) (t : Nat) : Order ops.toList (Region.linearise .any ops t) := by
  obtain ⟨rest, r1, r2, r3, r4, r5⟩ := go_spec ops D ops.size t (Array.replicate ops.size false) [] (by simp) (by
    intro i hi
    rw [Array.getD_eq_getD_getElem?, Array.getElem?_replicate, if_pos hi]; simp) List.nodup_nil (by simp) (by simp)
  have e : Region.linearise .any ops t = rest := by unfold Region.linearise; rw [r1]; rfl
  rw [e]
  refine ⟨by simpa using r2, fun i => ⟨fun h => by simpa using r4 i h, fun h => ?_⟩, fun d i t' hd o ho e' he hb => ?_⟩
  · rcases r3 i (by simpa using h) with h | h
    · cases h
    · exact h
  · rcases r5 d i t' hd o (by simpa using ho) e' he hb with h | h
    · cases h
    · exact h
end Go.Mir

/- A region whose order is open: what its run in the order of the text has left behind. -/
namespace Go.Mir

 mutual
theorem sameVal_eq : ∀ (v w : Value), sameVal v w = true → v = w
  | .bool a, w, h => by cases w <;> simp [sameVal] at h; rw [h]
  | .int j a, w, h => by cases w <;> simp [sameVal] at h; rw [h.1, h.2]
  | .float j a, w, h => by cases w <;> simp [sameVal] at h; rw [h.1, h.2]
  | .string a, w, h => by
    cases w <;> simp [sameVal] at h
    rename_i b
    obtain ⟨⟨a⟩⟩ := a; obtain ⟨⟨b⟩⟩ := b
    simp at h; rw [h]
  | .pointer a, w, h => by cases w <;> simp [sameVal] at h; rw [h]
  | .slice a l c, w, h => by cases w <;> simp [sameVal] at h; obtain ⟨⟨rfl, rfl⟩, rfl⟩ := h; rfl
  | .map a, w, h => by cases w <;> simp [sameVal] at h; rw [h]
  | .func f ⟨a⟩ ⟨b⟩, w, h => by
    cases w with
    | func g c d =>
      obtain ⟨c⟩ := c; obtain ⟨d⟩ := d
      simp only [sameVal, Bool.and_eq_true, beq_iff_eq] at h
      rw [h.1.1, sames_eq a c h.1.2, sames_eq b d h.2]
    | _ => simp [sameVal] at h
  | .nilFunc, w, h => by cases w <;> simp [sameVal] at h; rfl
  | .agg ⟨a⟩, w, h => by
    cases w with
    | agg b => obtain ⟨b⟩ := b; simp only [sameVal] at h; rw [sames_eq a b h]
    | _ => simp [sameVal] at h
  | .tuple ⟨a⟩, w, h => by
    cases w with
    | tuple b => obtain ⟨b⟩ := b; simp only [sameVal] at h; rw [sames_eq a b h]
    | _ => simp [sameVal] at h
  | .complex _ _ _, w, h => by cases w <;> simp [sameVal] at h
  | .chan _, w, h => by cases w <;> simp [sameVal] at h
  | .iface _ _, w, h => by cases w <;> simp [sameVal] at h
  | .nilIface, w, h => by cases w <;> simp [sameVal] at h
theorem sames_eq : ∀ (a b : List Value), sameVal.sames a b = true → a = b
  | [], b, h => by cases b <;> simp [sameVal.sames] at h; rfl
  | x :: a, b, h => by
    cases b with
    | nil => simp [sameVal.sames] at h
    | cons y b =>
      simp only [sameVal.sames, Bool.and_eq_true] at h
      rw [sameVal_eq x y h.1, sames_eq a b h.2]
end

theorem readSame_of {C : Ctx} {h : H} {ρ : Operand → Value} {o : Oper} {v : Value} (e : readSame C h ρ o v = true) : calm C h ρ o = some (v, none) := by
  unfold readSame at e
  rw [calmF_eq] at e
  split at e
  · rename_i w hw; rw [hw, sameVal_eq v w e]
  · cases e

/-- An operation that doesn't read memory gives the same whatever it is. -/
theorem calm_indep {C : Ctx} {n : Nat} {m m' : T Blk} {ρ : Operand → Value} {o : Oper} (h : readsMem C o.op = false) : calm C ⟨n, m⟩ ρ o = calm C ⟨n, m'⟩ ρ o := by
  unfold calm
  cases hop : o.op with
  | load t a => rw [hop] at h; cases h
  | lookup t x k ok => rw [hop] at h; cases h
  | slice t x a b c => rw [hop] at h; cases h
  | convert s d x =>
    rw [hop] at h
    simp only [readsMem] at h
    split at h
    · cases h
    · rename_i hs
      simp only
      cases hu : C.u s with
      | none => rfl
      | some u =>
        cases u with
        | slice e => exact absurd hu (hs e)
        | _ =>
          generalize C.u d = q
          generalize ρ x = y
          cases q with
          | none => rfl
          | some u2 => cases u2 <;> first | rfl | (cases y <;> rfl)
  | makeFunc fn a b => cases fn <;> rfl
  | makeMap t r => cases r <;> rfl
  | call c =>
    obtain ⟨callee, args, ats⟩ := c
    cases callee with
    | builtin b => cases b <;> rfl
    | _ => rfl
  | _ => rfl

/-- A run in the order of the text: the temporaries and the memory ahead of each operation, and what it gave. -/
structure Trace (C : Ctx) (r : R) (L rest : List Oper) (E : Nat → Env) (Hp : Nat → H) (V : Nat → Value) (ds : List Did) : Prop where
  wt : ∀ (i : Nat) (o : Oper), rest[i]? = some o → wanted o L (E i) = true → oper C r (Hp i) (E i).eval o = some (V i, Hp (i + 1)) ∧ ds[i]? = some (didOf C o (E i) (V i) (Hp i))
  un : ∀ (i : Nat) (o : Oper), rest[i]? = some o → wanted o L (E i) = false → V i = undef ∧ Hp (i + 1) = Hp i ∧ ds[i]? = some .idle
  en : ∀ (i : Nat) (o : Oper), rest[i]? = some o → E (i + 1) = (E i).put o.dst (V i)

def shift {α : Type} (a : α) (f : Nat → α) : Nat → α
  | 0 => a
  | n + 1 => f n

theorem trace_of {C : Ctx} {r : R} {L : List Oper} : ∀ (rest : List Oper) (e : Env) (h : H) (e' : Env) (h' : H) (ds : List Did), opsTrace C r L rest e h = some (e', h', ds) →
    ∃ E Hp V, E 0 = e ∧ Hp 0 = h ∧ E rest.length = e' ∧ Hp rest.length = h' ∧ Trace C r L rest E Hp V ds ∧ ds.length = rest.length
  | [], e, h, e', h', ds, ev => by
    simp only [opsTrace, Option.some.injEq, Prod.mk.injEq] at ev
    obtain ⟨rfl, rfl, rfl⟩ := ev
    exact ⟨fun _ => e, fun _ => h, fun _ => undef, rfl, rfl, rfl, rfl, ⟨by simp, by simp, by simp⟩, rfl⟩
  | o :: rest, e, h, e', h', ds, ev => by
    simp only [opsTrace] at ev
    cases hw : wanted o L e with
    | true =>
      rw [hw, cond_true] at ev
      split at ev
      · rename_i v h1 hop
        split at ev
        · rename_i e2 h2 ds2 htr
          simp only [Option.some.injEq, Prod.mk.injEq] at ev
          obtain ⟨rfl, rfl, rfl⟩ := ev
          obtain ⟨E, Hp, V, q1, q2, q3, q4, q5, q6⟩ := trace_of rest _ _ _ _ _ htr
          refine ⟨shift e E, shift h Hp, shift v V, rfl, rfl, q3, q4, ⟨?_, ?_, ?_⟩, by simp [q6]⟩
          · intro i o' hi hw'
            cases i with
            | zero =>
              simp only [List.getElem?_cons_zero, Option.some.injEq] at hi; subst hi
              exact ⟨by simp only [shift, q2]; exact hop, rfl⟩
            | succ i => simpa [shift] using q5.wt i o' (by simpa using hi) hw'
          · intro i o' hi hw'
            cases i with
            | zero =>
              simp only [List.getElem?_cons_zero, Option.some.injEq] at hi; subst hi
              simp only [shift] at hw'; rw [hw] at hw'; cases hw'
            | succ i => simpa [shift] using q5.un i o' (by simpa using hi) hw'
          · intro i o' hi
            cases i with
            | zero =>
              simp only [List.getElem?_cons_zero, Option.some.injEq] at hi; subst hi
              simp only [shift, q1]
            | succ i => simpa [shift] using q5.en i o' (by simpa using hi)
        · cases ev
      · cases ev
    | false =>
      rw [hw, cond_false] at ev
      split at ev
      · rename_i e2 h2 ds2 htr
        simp only [Option.some.injEq, Prod.mk.injEq] at ev
        obtain ⟨rfl, rfl, rfl⟩ := ev
        obtain ⟨E, Hp, V, q1, q2, q3, q4, q5, q6⟩ := trace_of rest _ _ _ _ _ htr
        refine ⟨shift e E, shift h Hp, shift undef V, rfl, rfl, q3, q4, ⟨?_, ?_, ?_⟩, by simp [q6]⟩
        · intro i o' hi hw'
          cases i with
          | zero =>
            simp only [List.getElem?_cons_zero, Option.some.injEq] at hi; subst hi
            simp only [shift] at hw'; rw [hw] at hw'; cases hw'
          | succ i => simpa [shift] using q5.wt i o' (by simpa using hi) hw'
        · intro i o' hi hw'
          cases i with
          | zero => exact ⟨rfl, q2, rfl⟩
          | succ i => simpa [shift] using q5.un i o' (by simpa using hi) hw'
        · intro i o' hi
          cases i with
          | zero =>
            simp only [List.getElem?_cons_zero, Option.some.injEq] at hi; subst hi
            simp only [shift, q1]
          | succ i => simpa [shift] using q5.en i o' (by simpa using hi)
      · cases ev

/-- The temporaries behind some of the operations. -/
noncomputable def envOf (L : List Oper) (V : Nat → Value) (e : Env) (d : List Nat) : Env := d.foldl (fun e k => match L[k]? with | some o => e.put o.dst (V k) | none => e) e

theorem envOf_snoc (L : List Oper) (V : Nat → Value) (e : Env) (d : List Nat) (k : Nat) {o : Oper} (ho : L[k]? = some o) : envOf L V e (d ++ [k]) = (envOf L V e d).put o.dst (V k) := by
  simp only [envOf, List.foldl_append, List.foldl_cons, List.foldl_nil, ho]

theorem put_n (e : Env) (d : Option Nat) (v : Value) : (e.put d v).n = e.n := by cases d <;> simp [Env.put, Env.n_set]

theorem envOf_n (L : List Oper) (V : Nat → Value) (e : Env) (d : List Nat) : (envOf L V e d).n = e.n := by
  unfold envOf
  induction d generalizing e with
  | nil => rfl
  | cons k d ih =>
    rw [List.foldl_cons, ih]
    split
    · rw [put_n]
    · rfl

theorem envOf_cons (L : List Oper) (V : Nat → Value) (e : Env) (k : Nat) (d : List Nat) : envOf L V e (k :: d) = envOf L V (match L[k]? with | some o => e.put o.dst (V k) | none => e) d := rfl

/-- What a temporary holds behind some of the operations: what the one of them that writes it gave, or what it held. -/
theorem envOf_get (L : List Oper) (V : Nat → Value) (t : Nat) (hu : ∀ (i k : Nat) (oi ok : Oper), i ≠ k → L[i]? = some oi → L[k]? = some ok → oi.dst = some t → ok.dst ≠ some t) : ∀ (d : List Nat) (e : Env), d.Nodup →
    (∀ k o, k ∈ d → L[k]? = some o → o.dst = some t → (envOf L V e d).get t = if t < e.n then V k else e.get t) ∧ ((∀ k o, k ∈ d → L[k]? = some o → o.dst ≠ some t) → (envOf L V e d).get t = e.get t)
  | [], e, _ => ⟨by simp, fun _ => rfl⟩
  | q :: d, e, hn => by
    rw [List.nodup_cons] at hn
    rw [envOf_cons]
    cases hq : L[q]? with
    | none =>
      obtain ⟨i1, i2⟩ := envOf_get L V t hu d e hn.2
      refine ⟨fun k o hk ho hd => ?_, fun hh => i2 fun k o hk => hh k o (List.mem_cons_of_mem _ hk)⟩
      rcases List.mem_cons.1 hk with rfl | hk
      · rw [hq] at ho; cases ho
      · exact i1 k o hk ho hd
    | some oq =>
      simp only
      obtain ⟨i1, i2⟩ := envOf_get L V t hu d (e.put oq.dst (V q)) hn.2
      rw [put_n] at i1
      by_cases hdq : oq.dst = some t
      · have hno : ∀ k o, k ∈ d → L[k]? = some o → o.dst ≠ some t := fun k o hk ho => hu q k oq o (fun e => hn.1 (e ▸ hk)) hq ho hdq
        have i3 := i2 hno
        have hv : (e.put oq.dst (V q)).get t = if t < e.n then V q else e.get t := by
          rw [hdq]; simp only [Env.put, Env.get_set, true_and]
        refine ⟨fun k o hk ho hd => ?_, fun hh => absurd hdq (hh q oq (List.mem_cons_self ..) hq)⟩
        rcases List.mem_cons.1 hk with rfl | hk
        · rw [i3, hv]
        · exact absurd hd (hno k o hk ho)
      · have hv : (e.put oq.dst (V q)).get t = e.get t := by
          cases hd : oq.dst with
          | none => rfl
          | some x =>
            rw [hd] at hdq
            simp only [Env.put, Env.get_set]
            rw [if_neg (fun h => hdq (by rw [h.1]))]
        rw [hv] at i1 i2
        refine ⟨fun k o hk ho hd => ?_, fun hh => i2 fun k o hk => hh k o (List.mem_cons_of_mem _ hk)⟩
        rcases List.mem_cons.1 hk with rfl | hk
        · rw [hq] at ho; cases ho; exact absurd hd hdq
        · exact i1 k o hk ho hd

theorem E_range {C : Ctx} {r : R} {L : List Oper} {E : Nat → Env} {Hp : Nat → H} {V : Nat → Value} {ds : List Did} (T : Trace C r L L E Hp V ds) : ∀ i, i ≤ L.length → E i = envOf L V (E 0) (List.range i)
  | 0, _ => rfl
  | i + 1, h => by
    have ho : L[i]? = some L[i] := List.getElem?_eq_getElem (by omega)
    rw [List.range_succ, envOf_snoc L V (E 0) _ i ho, ← E_range T i (by omega)]
    exact T.en i _ ho
end Go.Mir

/- A region whose order is open: the memory as it is made up when some of its blocks are made ahead of their time. -/
namespace Go.Mir

/-- It writes, or calls. -/
def Eff (C : Ctx) (L : List Oper) (E : Nat → Env) (i : Nat) : Prop := ∃ o, L[i]? = some o ∧ wanted o L (E i) = true ∧ kindOf C o.op ≠ .calm

/-- The block that an operation makes that only makes one. -/
noncomputable def bkOf (C : Ctx) (L : List Oper) (E : Nat → Env) (Hp : Nat → H) (i : Nat) : Option Blk :=
  match L[i]? with
  | some o => bif wanted o L (E i) then (match kindOf C o.op with | .calm => (match calm C (Hp i) (E i).eval o with | some (_, b) => b | none => none) | _ => none) else none
  | none => none

noncomputable def vm (bk : Nat → Option Blk) (Hp : Nat → H) : Nat → Nat → T Blk → T Blk
  | 0, _, m => m
  | k + 1, q, m => vm bk Hp k (q + 1) (match bk q with | some b => m.set (Hp q).next b | none => m)

theorem vm_other (bk : Nat → Option Blk) (Hp : Nat → H) (a : Nat) : ∀ (k q : Nat) (m : T Blk), (∀ i, q ≤ i → i < q + k → bk i ≠ none → (Hp i).next ≠ a) → (vm bk Hp k q m).get a = m.get a
  | 0, _, _, _ => rfl
  | k + 1, q, m, h => by
    rw [vm, vm_other bk Hp a k (q + 1) _ (fun i h1 h2 => h i (by omega) (by omega))]
    cases hb : bk q with
    | none => rfl
    | some b => simp only [T.get_set]; rw [if_neg (h q (by omega) (by omega) (by simp [hb]))]

theorem vm_get (bk : Nat → Option Blk) (Hp : Nat → H) (i0 : Nat) (b : Blk) (hb : bk i0 = some b) (hu : ∀ i, i ≠ i0 → bk i ≠ none → (Hp i).next ≠ (Hp i0).next) : ∀ (k q : Nat) (m : T Blk), q ≤ i0 → i0 < q + k → (vm bk Hp k q m).get (Hp i0).next = some b
  | 0, q, m, h1, h2 => by omega
  | k + 1, q, m, h1, h2 => by
    rw [vm]
    by_cases e : q = i0
    · subst e
      rw [vm_other bk Hp _ k (q + 1) _ (fun i h3 h4 h5 => hu i (by omega) h5), hb]
      simp only [T.get_set, if_pos]
    · exact vm_get bk Hp i0 b hb hu k (q + 1) _ (by omega) (by omega)

section
variable {C : Ctx} {r : R} {L : List Oper} {E : Nat → Env} {Hp : Nat → H} {V : Nat → Value} {ds : List Did} (T : Trace C r L L E Hp V ds)
 include T

theorem T_calm {i : Nat} {o : Oper} (ho : L[i]? = some o) (hw : wanted o L (E i) = true) (hk : kindOf C o.op = .calm) : calm C (Hp i) (E i).eval o = some (V i, bkOf C L E Hp i) ∧ Hp (i + 1) = (match bkOf C L E Hp i with | some b => (Hp i).new b | none => Hp i) := by
  have h1 := (oper_of (T.wt i o ho hw).1).1
  have h2 : bkOf C L E Hp i = (match calm C (Hp i) (E i).eval o with | some (_, b) => b | none => none) := by
    unfold bkOf; rw [ho]; simp only [hw, cond_true, hk]
  unfold oper0 at h1
  rw [hk] at h1
  simp only [calmF_eq] at h1
  cases hc : calm C (Hp i) (E i).eval o with
  | none => rw [hc] at h1; cases h1
  | some p =>
    obtain ⟨v, b⟩ := p
    rw [hc] at h1 h2
    simp only at h2
    rw [h2]
    cases b with
    | none => simp only [Option.some.injEq, Prod.mk.injEq] at h1; exact ⟨by rw [h1.1], h1.2.symm⟩
    | some b => simp only [Option.some.injEq, Prod.mk.injEq] at h1; exact ⟨by rw [h1.1], h1.2.symm⟩

theorem T_idle {i : Nat} (hi : i < L.length) (he : ¬ Eff C L E i) : Hp (i + 1) = (match bkOf C L E Hp i with | some b => (Hp i).new b | none => Hp i) := by
  have ho : L[i]? = some L[i] := List.getElem?_eq_getElem hi
  cases hw : wanted L[i] L (E i) with
  | false =>
    have : bkOf C L E Hp i = none := by unfold bkOf; rw [ho]; simp only [hw, cond_false]
    rw [this]; exact (T.un i _ ho hw).2.1
  | true =>
    have hk : kindOf C L[i].op = .calm := by
      cases h : kindOf C L[i].op with
      | calm => rfl
      | _ => exact absurd ⟨_, ho, hw, by rw [h]; simp⟩ he
    exact (T_calm T ho hw hk).2

theorem T_mono {i : Nat} (hi : i < L.length) : (Hp i).next ≤ (Hp (i + 1)).next := by
  have ho : L[i]? = some L[i] := List.getElem?_eq_getElem hi
  cases hw : wanted L[i] L (E i) with
  | false => rw [(T.un i _ ho hw).2.1]; exact Nat.le_refl _
  | true => exact (oper_of (T.wt i _ ho hw).1).2

theorem T_monos : ∀ (k i : Nat), i + k ≤ L.length → (Hp i).next ≤ (Hp (i + k)).next
  | 0, i, _ => Nat.le_refl _
  | k + 1, i, h => Nat.le_trans (T_monos k i (by omega)) (T_mono T (i := i + k) (by omega))

theorem T_le {i k : Nat} (h : i ≤ k) (hk : k ≤ L.length) : (Hp i).next ≤ (Hp k).next := by
  have := T_monos T (k - i) i (by omega)
  rwa [Nat.add_sub_cancel' h] at this

theorem bk_lt {i : Nat} (hb : bkOf C L E Hp i ≠ none) : i < L.length ∧ ¬ Eff C L E i ∧ (Hp (i + 1)).next = (Hp i).next + 1 := by
  unfold bkOf at hb
  cases ho : L[i]? with
  | none => rw [ho] at hb; exact absurd rfl hb
  | some o =>
    have hi := (List.getElem?_eq_some_iff.1 ho).1
    rw [ho] at hb
    simp only at hb
    cases hw : wanted o L (E i) with
    | false => rw [hw] at hb; exact absurd rfl hb
    | true =>
      rw [hw, cond_true] at hb
      cases hk : kindOf C o.op with
      | calm =>
        refine ⟨hi, ?_, ?_⟩
        · rintro ⟨o', h1, h2, h3⟩
          rw [ho] at h1; cases h1; exact h3 hk
        · obtain ⟨h1, h2⟩ := T_calm T ho hw hk
          rw [h2]
          rw [hk] at hb
          simp only [h1] at hb
          cases hbb : bkOf C L E Hp i with
          | none => exact absurd hbb hb
          | some b => rfl
      | _ => rw [hk] at hb; exact absurd rfl hb

theorem bk_uniq (i0 i : Nat) (hne : i ≠ i0) (h0 : bkOf C L E Hp i0 ≠ none) (hb : bkOf C L E Hp i ≠ none) : (Hp i).next ≠ (Hp i0).next := by
  obtain ⟨a1, _, a3⟩ := bk_lt T h0
  obtain ⟨b1, _, b3⟩ := bk_lt T hb
  rcases Nat.lt_or_gt_of_ne hne with h | h
  · have := T_le T (i := i + 1) (k := i0) h (by omega); omega
  · have := T_le T (i := i0 + 1) (k := i) h (by omega); omega
end

/-- The memory ahead of an operation, with the blocks that are to come. -/
noncomputable def VH (C : Ctx) (L : List Oper) (E : Nat → Env) (Hp : Nat → H) (q : Nat) : H := ⟨(Hp L.length).next, vm (bkOf C L E Hp) Hp (L.length - q) q (Hp q).m⟩

section
variable {C : Ctx} {r : R} {L : List Oper} {E : Nat → Env} {Hp : Nat → H} {V : Nat → Value} {ds : List Did}

theorem VH_end : VH C L E Hp L.length = Hp L.length := by simp [VH, vm]

variable (T : Trace C r L L E Hp V ds)
 include T

theorem VH_step {q : Nat} (hq : q < L.length) (he : ¬ Eff C L E q) : VH C L E Hp q = VH C L E Hp (q + 1) := by
  have h1 := T_idle T hq he
  have h2 : L.length - q = (L.length - (q + 1)) + 1 := by omega
  unfold VH
  rw [h2, vm]
  congr 2
  rw [h1]
  cases bkOf C L E Hp q <;> rfl

theorem VH_steps : ∀ (k q : Nat), q + k ≤ L.length → (∀ i, q ≤ i → i < q + k → ¬ Eff C L E i) → VH C L E Hp q = VH C L E Hp (q + k)
  | 0, q, _, _ => rfl
  | k + 1, q, h, he => by
    rw [VH_steps k q (by omega) (fun i h1 h2 => he i h1 (by omega))]
    exact VH_step T (q := q + k) (by omega) (he _ (by omega) (by omega))

theorem VH_move {p q : Nat} (h : p ≤ q) (hq : q ≤ L.length) (he : ∀ i, p ≤ i → i < q → ¬ Eff C L E i) : VH C L E Hp p = VH C L E Hp q := by
  have := VH_steps T (q - p) p (by omega) (fun i h1 h2 => he i h1 (by omega))
  rwa [Nat.add_sub_cancel' h] at this

/-- A block that is to come. -/
theorem VH_new {q i : Nat} {b : Blk} (hq : q ≤ i) (hb : bkOf C L E Hp i = some b) : (VH C L E Hp q).get (Hp i).next = some b := by
  have hi := (bk_lt T (i := i) (by simp [hb])).1
  exact vm_get _ _ i b hb (fun k hne hk => bk_uniq T i k hne (by simp [hb]) hk) _ _ _ hq (by omega)

/-- A block that is there. -/
theorem VH_old {q a : Nat} (_hq : q ≤ L.length) (ha : ∀ i, q ≤ i → bkOf C L E Hp i ≠ none → (Hp i).next ≠ a) : (VH C L E Hp q).get a = (Hp q).get a := by
  have _t := T
  exact vm_other _ _ a _ _ _ fun i h1 _ h3 => ha i h1 h3

theorem VH_lt {q a : Nat} (hq : q ≤ L.length) (ha : a < (Hp q).next) : (VH C L E Hp q).get a = (Hp q).get a :=
  VH_old T hq fun i h1 h3 => by
    have := T_le T h1 (Nat.le_of_lt (bk_lt T h3).1); omega

/-- Every block is one or the other. -/
theorem VH_cases {q a : Nat} (hq : q ≤ L.length) : (∃ i b, q ≤ i ∧ bkOf C L E Hp i = some b ∧ (Hp i).next = a) ∨ (VH C L E Hp q).get a = (Hp q).get a := by
  by_cases h : ∃ i b, q ≤ i ∧ bkOf C L E Hp i = some b ∧ (Hp i).next = a
  · exact .inl h
  · refine .inr (VH_old T hq fun i h1 h3 e => ?_)
    cases hb : bkOf C L E Hp i with
    | none => exact h3 hb
    | some b => exact h ⟨i, b, h1, hb, e⟩
end

/-- What stays, where blocks come between two bounds. -/
structure Mv (lo hi : Nat) (j : J) (h : H) (w : World) (j' : J) (h' : H) (w' : World) : Prop where
  le : Ext.le j j'
  new : ∀ a i, j' a = some i → j a = none → lo ≤ a ∧ a < hi
  sz : w.heap.size ≤ w'.heap.size
  held : ∀ b, b < w.heap.size → Held j' h' b → Held j h b
  keep : ∀ b, b < w.heap.size → ¬ Held j h b → w'.heap[b]? = w.heap[b]?
  abs : ∀ a, a < lo → j a = none → h'.get a = h.get a
  os : w'.os = w.os
  out : w'.output = w.output
  tape : w'.tape = w.tape
  rom : ∀ a i c, j' a = some i → h'.get a = some (.rom c) → j a = some i ∧ h.get a = some (.rom c)

theorem Mv.trans {lo hi : Nat} {j j1 j2 : J} {h h1 h2 : H} {w w1 w2 : World} (p : Mv lo hi j h w j1 h1 w1) (q : Mv lo hi j1 h1 w1 j2 h2 w2) : Mv lo hi j h w j2 h2 w2 where
  le := fun a i e => q.le _ _ (p.le _ _ e)
  new := fun a i e n => by
    cases hj : j1 a with
    | none => exact q.new a i e hj
    | some i' => exact p.new a i' hj n
  sz := Nat.le_trans p.sz q.sz
  held := fun b hb hh => p.held b hb (q.held b (Nat.lt_of_lt_of_le hb p.sz) hh)
  keep := fun b hb hn => by
    rw [q.keep b (Nat.lt_of_lt_of_le hb p.sz) (fun hh => hn (p.held b hb hh)), p.keep b hb hn]
  abs := fun a ha hn => by
    rw [q.abs a ha ?_, p.abs a ha hn]
    cases hj : j1 a with
    | none => rfl
    | some i => have := p.new a i hj hn; omega
  os := q.os.trans p.os
  out := q.out.trans p.out
  tape := q.tape.trans p.tape
  rom := fun a i c h1 h2 => by obtain ⟨x, y⟩ := q.rom a i c h1 h2; exact p.rom a i c x y

theorem Mv.wide {lo hi lo' hi' : Nat} {j j1 : J} {h h1 : H} {w w1 : World} (p : Mv lo hi j h w j1 h1 w1) (hl : lo' ≤ lo) (hu : hi ≤ hi') : Mv lo' hi' j h w j1 h1 w1 :=
  ⟨p.le, fun a i e n => by have := p.new a i e n; omega, p.sz, p.held, p.keep, fun a ha hn => p.abs a (by omega) hn, p.os, p.out, p.tape, p.rom⟩

theorem Mv.refl (lo hi : Nat) (j : J) (h : H) (w : World) : Mv lo hi j h w j h w :=
  ⟨fun _ _ h => h, fun a i h h' => by simp [h] at h', Nat.le_refl _, fun _ _ h => h, fun _ _ _ => rfl, fun _ _ _ => rfl, rfl, rfl, rfl, fun _ _ _ h1 h2 => ⟨h1, h2⟩⟩

section
variable {C : Ctx} {j : J} {h : H} {w : World}
/-- A block that was there already on paper is now there in truth. -/
theorem come_block {lo hi a0 : Nat} {i : Img} {b : Blk} {ob : Obj} {w' : World} (hr : Rel C j h w) (hn : j a0 = none) (h0 : h.get a0 = some b) (hlo : lo ≤ a0) (hhi : a0 < hi) (hib : i.blk = w.heap.size) (hh : w'.heap = w.heap.push ob)
    (hb : BlkRel C (j.upd a0 i) i b (some ob)) (ho : w'.os = w.os) (hout : w'.output = w.output) (htape : w'.tape = w.tape) (hrom : ∀ c, b ≠ .rom c) :
    Mv lo hi j h w (j.upd a0 i) h w' ∧ Rel C (j.upd a0 i) h w' := by
  have hle : Ext.le j (j.upd a0 i) := upd_le hn
  have old : ∀ a k, j.upd a0 i a = some k → a ≠ a0 → j a = some k := fun a k e hne => by
    simp only [J.upd, if_neg hne] at e; exact e
  have hget : ∀ k, k < w.heap.size → w'.heap[k]? = w.heap[k]? := fun k hk => by
    rw [hh, Array.getElem?_push, if_neg (by omega)]
  have hheld : ∀ x, x < w.heap.size → Held (j.upd a0 i) h x → Held j h x := by
    rintro x hx ⟨a1, i1, b1, h1, h2, h3, h4⟩
    by_cases ha : a1 = a0
    · subst ha
      rw [upd_self] at h1; cases h1
      omega
    · exact ⟨a1, i1, b1, old a1 i1 h1 ha, h2, h3, h4⟩
  have hback : ∀ a1 i1 c, j.upd a0 i a1 = some i1 → h.get a1 = some (.rom c) → j a1 = some i1 ∧ h.get a1 = some (.rom c) := fun a1 i1 c h1 h2 => by
    by_cases ha : a1 = a0
    · subst ha; rw [h0] at h2; cases h2; exact absurd rfl (hrom c)
    · exact ⟨old a1 i1 h1 ha, h2⟩
  refine ⟨⟨hle, ?_, by rw [hh]; simp, hheld, fun x hx _ => hget x hx, fun _ _ _ => rfl, ho, hout, htape, hback⟩, ⟨?_, ?_, hr.lt, ?_, rom_next hr hheld hback⟩⟩
  · intro a k e hn2
    by_cases ha : a = a0
    · subst ha; exact ⟨hlo, hhi⟩
    · rw [old a k e ha] at hn2; cases hn2
  · intro a1 i1 b1 h1 h2
    by_cases ha : a1 = a0
    · subst ha
      rw [h0] at h2; cases h2
      rw [upd_self] at h1; cases h1
      rw [hh, hib]; simpa using hb
    · have h1' := old a1 i1 h1 ha
      exact ((hr.blk _ _ _ h1' h2).le hle).same fun hd => hget _ (solid_lt hr h1' h2 hd)
  · intro a1 a2 i1 i2 b1 b2 h1 h2 h3 h4 h5 h6 h7
    by_cases e1 : a1 = a0
    · by_cases e2 : a2 = a0
      · rw [e1, e2]
      · have := lt_of_rel hr (old a2 i2 h2 e2) h4 h6
        subst e1; rw [upd_self] at h1; cases h1; omega
    · by_cases e2 : a2 = a0
      · have := lt_of_rel hr (old a1 i1 h1 e1) h3 h5
        subst e2; rw [upd_self] at h2; cases h2; omega
      · exact hr.inj _ _ _ _ _ _ (old a1 i1 h1 e1) (old a2 i2 h2 e2) h3 h4 h5 h6 h7
  · intro g hg
    obtain ⟨k, h1, h2⟩ := hr.glob g hg
    exact ⟨k, hle _ _ h1, h2⟩
end
end Go.Mir

/- A region whose order is open: one operation, done in its turn. -/
namespace Go.Mir

section
variable {C : Ctx} {r : R} {L : List Oper} {E : Nat → Env} {Hp : Nat → H} {V : Nat → Value} {ds : List Did} (T : Trace C r L L E Hp V ds)
 include T

/-- From the memory with what is to come, the memory without. -/
theorem VH_rel {q : Nat} {j : J} {w : World} (hq : q ≤ L.length) (hlt : ∀ a b, (Hp q).get a = some b → a < (Hp q).next) (hr : Rel C j (VH C L E Hp q) w) : Rel C j (Hp q) w where
  blk := fun a i b h1 h2 => hr.blk a i b h1 (by rw [VH_lt T hq (hlt a b h2)]; exact h2)
  inj := fun a a' i i' b b' h1 h2 h3 h4 => hr.inj a a' i i' b b' h1 h2 (by rw [VH_lt T hq (hlt a b h3)]; exact h3) (by rw [VH_lt T hq (hlt a' b' h4)]; exact h4)
  lt := hlt
  glob := hr.glob
  rom := fun a i c h1 h2 hh => by
    refine hr.rom a i c h1 (by rw [VH_lt T hq (hlt a _ h2)]; exact h2) ?_
    obtain ⟨p, q', r, s1, s2, s3, s4⟩ := hh
    exact ⟨p, q', r, s1, by rw [VH_lt T hq (hlt p _ s2)]; exact s2, s3, s4⟩

/-- An operation that writes, done at its place. -/
theorem VH_eff {i : Nat} {j j1 : J} {w w1 : World} (hi : i < L.length) (he : Eff C L E i) (hlt : ∀ a b, (Hp i).get a = some b → a < (Hp i).next) (hr : Rel C j (VH C L E Hp i) w)
    (ha : Adv j (Hp i) w j1 (Hp (i + 1)) w1) (hr1 : Rel C j1 (Hp (i + 1)) w1) :
    Mv (Hp i).next (Hp (i + 1)).next j (VH C L E Hp i) w j1 (VH C L E Hp (i + 1)) w1 ∧ Rel C j1 (VH C L E Hp (i + 1)) w1 := by
  have hnb : bkOf C L E Hp i = none := by
    cases hb : bkOf C L E Hp i with
    | none => rfl
    | some b => exact absurd he (bk_lt T (i := i) (by simp [hb])).2.1
  have hrp := VH_rel T (Nat.le_of_lt hi) hlt hr
  -- what is to come
  have far : ∀ k b, i + 1 ≤ k → bkOf C L E Hp k = some b → (Hp (i + 1)).next ≤ (Hp k).next ∧ (VH C L E Hp i).get (Hp k).next = some b ∧ (VH C L E Hp (i + 1)).get (Hp k).next = some b ∧ (Hp k).next < (Hp L.length).next := fun k b hk hb => by
    have hkl := bk_lt T (i := k) (by simp [hb])
    refine ⟨T_le T hk (Nat.le_of_lt hkl.1), VH_new T (by omega) hb, VH_new T hk hb, ?_⟩
    have := T_le T (i := k + 1) (k := L.length) hkl.1 (Nat.le_refl _); omega
  have jfar : ∀ k b m, i + 1 ≤ k → bkOf C L E Hp k = some b → j1 (Hp k).next = some m → j (Hp k).next = some m := fun k b m hk hb hm => by
    cases hj : j (Hp k).next with
    | none => have := ha.new _ _ hm hj; have := (far k b hk hb).1; omega
    | some m' => have := ha.le _ _ hj; rw [hm] at this; cases this; rfl
  have nheld : ∀ k b m, i + 1 ≤ k → bkOf C L E Hp k = some b → b ≠ .dead → j (Hp k).next = some m → ¬ Held j (Hp i) m.blk := fun k b m hk hb hl hm => by
    rintro ⟨a, i', x, h1, h2, h3, h4⟩
    have f := far k b hk hb
    have hal := hlt a x h2
    have hmo := T_mono T hi
    exact apart_of hr h1 (by rw [VH_lt T (Nat.le_of_lt hi) hal]; exact h2) h3 hm f.2.1 hl (by omega) h4
  have livd : ∀ b : Blk, b.live = true → b ≠ .dead := fun b h e => by subst e; cases h
  have cas := fun a => VH_cases T (q := i + 1) (a := a) hi
  have hlt1 := hr1.lt
  have heldV : ∀ b, Held j (Hp i) b → Held j (VH C L E Hp i) b := fun b ⟨a, i', x, h1, h2, h3, h4⟩ => ⟨a, i', x, h1, by rw [VH_lt T (Nat.le_of_lt hi) (hlt a x h2)]; exact h2, h3, h4⟩
  have hheld : ∀ b, b < w.heap.size → Held j1 (VH C L E Hp (i + 1)) b → Held j (VH C L E Hp i) b := by
    rintro b hb ⟨a, i', x, h1, h2, h3, h4⟩
    rcases cas a with ⟨k, y, hk, hy, rfl⟩ | hc
    · have f := far k y hk hy
      rw [f.2.2.1] at h2; cases h2
      exact ⟨_, i', x, jfar k x i' hk hy h1, f.2.1, h3, h4⟩
    · rw [hc] at h2
      exact heldV b (ha.held b hb ⟨a, i', x, h1, h2, h3, h4⟩)
  have hback : ∀ a m c, j1 a = some m → (VH C L E Hp (i + 1)).get a = some (.rom c) → j a = some m ∧ (VH C L E Hp i).get a = some (.rom c) := fun a m c h1 h2 => by
    rcases cas a with ⟨k, y, hk, hy, rfl⟩ | hc
    · have f := far k y hk hy
      rw [f.2.2.1] at h2; cases h2
      exact ⟨jfar k _ m hk hy h1, f.2.1⟩
    · rw [hc] at h2
      obtain ⟨x, y⟩ := ha.rom a m c h1 h2
      exact ⟨x, by rw [VH_lt T (Nat.le_of_lt hi) (hlt a _ y)]; exact y⟩
  refine ⟨⟨ha.le, ha.new, ha.sz, hheld, ?_, ?_, ha.os, ha.out, ha.tape, hback⟩, ⟨?_, ?_, ?_, hr1.glob, rom_next hr hheld hback⟩⟩
  · intro b hb hn
    exact ha.keep b hb fun hh => hn (heldV b hh)
  · intro a hal hn
    have h1 := T_mono T hi
    rw [VH_lt T (q := i + 1) hi (by omega), VH_lt T (Nat.le_of_lt hi) hal]
    exact ha.abs a hal hn
  · intro a m b h1 h2
    rcases cas a with ⟨k, y, hk, hy, rfl⟩ | hc
    · have f := far k y hk hy
      rw [f.2.2.1] at h2; cases h2
      have hm := jfar k b m hk hy h1
      exact ((hr.blk _ _ _ hm f.2.1).le ha.le).same fun hd => ha.keep _ (solid_lt hr hm f.2.1 hd) (nheld k b m hk hy hd hm)
    · rw [hc] at h2
      exact hr1.blk a m b h1 h2
  · intro a a' m m' b b' h1 h2 h3 h4 h5 h6 h7
    rcases cas a with ⟨k, y, hk, hy, rfl⟩ | hc
    · have f := far k y hk hy
      rw [f.2.2.1] at h3; cases h3
      have hm := jfar k b m hk hy h1
      rcases cas a' with ⟨k', y', hk', hy', rfl⟩ | hc'
      · have f' := far k' y' hk' hy'
        rw [f'.2.2.1] at h4; cases h4
        exact hr.inj _ _ _ _ _ _ hm (jfar k' b' m' hk' hy' h2) f.2.1 f'.2.1 h5 h6 h7
      · rw [hc'] at h4
        exact absurd (ha.held _ (lt_of_rel hr hm f.2.1 h5) ⟨a', m', b', h2, h4, h6, h7.symm⟩) (nheld k b m hk hy (livd _ h5) hm)
    · rw [hc] at h3
      rcases cas a' with ⟨k', y', hk', hy', rfl⟩ | hc'
      · have f' := far k' y' hk' hy'
        rw [f'.2.2.1] at h4; cases h4
        have hm' := jfar k' b' m' hk' hy' h2
        exact absurd (ha.held _ (lt_of_rel hr hm' f'.2.1 h6) ⟨a, m, b, h1, h3, h5, h7⟩) (nheld k' b' m' hk' hy' (livd _ h6) hm')
      · rw [hc'] at h4
        exact hr1.inj _ _ _ _ _ _ h1 h2 h3 h4 h5 h6 h7
  · intro a b h1
    rcases cas a with ⟨k, y, hk, hy, rfl⟩ | hc
    · exact (far k y hk hy).2.2.2
    · rw [hc] at h1
      have := hlt1 a b h1
      have := T_le T (i := i + 1) (k := L.length) hi (Nat.le_refl _)
      show a < (Hp L.length).next
      omega

/-- At the start. -/
theorem VH_start {j : J} {w : World} (hr : Rel C j (Hp 0) w) (hf : Fresh j (Hp 0) (Hp L.length)) :
    Mv (Hp 0).next (Hp L.length).next j (Hp 0) w j (VH C L E Hp 0) w ∧ Rel C j (VH C L E Hp 0) w := by
  have cas := fun a => VH_cases T (q := 0) (a := a) (Nat.zero_le _)
  have far : ∀ k b, bkOf C L E Hp k = some b → j (Hp k).next = none ∧ (Hp k).next < (Hp L.length).next ∧ (Hp 0).next ≤ (Hp k).next := fun k b hb => by
    have hkl := bk_lt T (i := k) (by simp [hb])
    have h1 := T_le T (i := k + 1) (k := L.length) hkl.1 (Nat.le_refl _)
    have h2 := T_le T (i := 0) (k := k) (Nat.zero_le _) (Nat.le_of_lt hkl.1)
    exact ⟨hf _ h2 (by omega), by omega, h2⟩
  have old : ∀ a m, j a = some m → (VH C L E Hp 0).get a = (Hp 0).get a := fun a m hm => by
    rcases cas a with ⟨k, y, hk, hy, rfl⟩ | hc
    · rw [(far k y hy).1] at hm; cases hm
    · exact hc
  have hheld : ∀ b, b < w.heap.size → Held j (VH C L E Hp 0) b → Held j (Hp 0) b := by
    rintro b hb ⟨a, i', x, h1, h2, h3, h4⟩
    rw [old a i' h1] at h2
    exact ⟨a, i', x, h1, h2, h3, h4⟩
  have hback : ∀ a m c, j a = some m → (VH C L E Hp 0).get a = some (.rom c) → j a = some m ∧ (Hp 0).get a = some (.rom c) := fun a m c h1 h2 => ⟨h1, by rw [old a m h1] at h2; exact h2⟩
  refine ⟨⟨fun _ _ h => h, fun a i e n => (by rw [n] at e; cases e), Nat.le_refl _, hheld, fun _ _ _ => rfl, ?_, rfl, rfl, rfl, hback⟩, ⟨?_, ?_, ?_, hr.glob, rom_next hr hheld hback⟩⟩
  · intro a hal _
    exact VH_lt T (Nat.zero_le _) hal
  · intro a m b h1 h2
    rw [old a m h1] at h2
    exact hr.blk a m b h1 h2
  · intro a a' m m' b b' h1 h2 h3 h4 h5 h6 h7
    rw [old a m h1] at h3
    rw [old a' m' h2] at h4
    exact hr.inj _ _ _ _ _ _ h1 h2 h3 h4 h5 h6 h7
  · intro a b h1
    rcases cas a with ⟨k, y, hk, hy, rfl⟩ | hc
    · exact (far k y hy).2.1
    · rw [hc] at h1
      have := hr.lt a b h1
      have := T_le T (i := 0) (k := L.length) (Nat.zero_le _) (Nat.le_refl _)
      show a < (Hp L.length).next
      omega

/-- The bound of the memory ahead of each operation, where only blocks are made. -/
theorem lt_step {q : Nat} (hq : q < L.length) (he : ¬ Eff C L E q) (hlt : ∀ a b, (Hp q).get a = some b → a < (Hp q).next) : ∀ a b, (Hp (q + 1)).get a = some b → a < (Hp (q + 1)).next := by
  have h1 := T_idle T hq he
  rw [h1]
  cases bkOf C L E Hp q with
  | none => exact hlt
  | some y =>
    intro a b h
    simp only at h ⊢
    rw [H.get_new] at h
    rw [H.next_new]
    by_cases e : (Hp q).next = a
    · omega
    · rw [if_neg e] at h
      have := hlt a b h; omega

theorem lt_steps {p : Nat} (hlt : ∀ a b, (Hp p).get a = some b → a < (Hp p).next) : ∀ (k : Nat), p + k ≤ L.length → (∀ i, p ≤ i → i < p + k → ¬ Eff C L E i) → ∀ a b, (Hp (p + k)).get a = some b → a < (Hp (p + k)).next
  | 0, _, _ => hlt
  | k + 1, h, he => lt_step T (q := p + k) (by omega) (he _ (by omega) (by omega)) (lt_steps hlt k (by omega) (fun i h1 h2 => he i h1 (by omega)))

theorem lt_move {p q : Nat} (h : p ≤ q) (hq : q ≤ L.length) (he : ∀ i, p ≤ i → i < q → ¬ Eff C L E i) (hlt : ∀ a b, (Hp p).get a = some b → a < (Hp p).next) : ∀ a b, (Hp q).get a = some b → a < (Hp q).next := by
  have := lt_steps T hlt (q - p) (by omega) (fun i h1 h2 => he i h1 (by omega))
  rwa [Nat.add_sub_cancel' h] at this
end
end Go.Mir

/- A region whose order is open: its run in whatever order. -/
namespace Go.Mir

theorem pv_none {x : Option Value} {v : Value} {b : Blk} (e : pv x = some (v, some b)) : False := by
  cases x <;> simp [pv] at e

/-- What reads makes no block. -/
theorem calm_reads {C : Ctx} {h : H} {ρ : Operand → Value} {o : Oper} {v : Value} {b : Blk} (hk : kindOf C o.op = .calm) (e : calm C h ρ o = some (v, some b)) : readsMem C o.op = false := by
  cases hr : readsMem C o.op with
  | false => rfl
  | true =>
    exfalso
    unfold calm at e
    cases hop : o.op with
    | load t a =>
      rw [hop] at e; simp only at e
      split at e
      · exact pv_none e
      · cases e
    | lookup t x k ok =>
      rw [hop] at e; simp only at e
      split at e
      · split at e
        · rw [cond_eq_ite] at e; split at e
          · exact pv_none e
          · cases e
        · cases e
      · cases e
    | slice t x lo hi mx =>
      rw [hop] at e; simp only at e
      split at e
      · rw [cond_eq_ite] at e; split at e
        · cases e
        · split at e
          · rw [cond_eq_ite] at e; split at e
            · split at e <;> simp at e
            · cases e
          · cases e
      · split at e
        · split at e
          · split at e
            · rw [cond_eq_ite] at e; split at e
              · exact pv_none e
              · cases e
            · cases e
          · cases e
        · cases e
      · split at e
        · split at e
          · rw [cond_eq_ite] at e; split at e
            · simp at e
            · cases e
          · cases e
        · cases e
      · cases e
    | convert s d x =>
      rw [hop] at e hr
      simp only [readsMem] at hr
      simp only at e
      split at e
      · simp at e
      · simp at e
      · rename_i hs hd _
        rw [hop] at hk
        split at hr
        · rename_i hs2
          simp only [kindOf, hs2, hd] at hk
          cases hk
        · cases hr
      · split at e
        · exact pv_none e
        · cases e
      · cases e
    | _ => rw [hop] at hr; simp [readsMem] at hr

theorem val_step {P : Program} {fr fr0 : Frame} {cs : List Frame} {w w0 w' : World} {s : Sem Next} {v : Value} (h : s.run P w = .ok (.value v) w')
    (hst : (stepG P true { frame := fr0, callers := cs, status := .running, dying := none } w0).bare = (stepG.apply P true fr cs none s w).bare) :
    step P (lone fr0 cs w0) = .next (lone (fr.finish v) cs w') := by
  refine step_lone_go ?_
  rw [hst]
  simp [stepG.apply, h]
end Go.Mir

/- A region whose order is open: its reads. -/
namespace Go.Mir

theorem rowsOf_length : ∀ (i : Nat) (L : List Oper) (ds : List Did) (bs : List Nat), (rowsOf i L ds bs).length ≤ L.length
  | i, [], _, _ => by simp [rowsOf]
  | i, o :: L, [], _ => by simp [rowsOf]
  | i, o :: L, d :: ds, [] => by simp [rowsOf]
  | i, o :: L, d :: ds, b :: bs => by
    have := rowsOf_length (i + 1) L ds bs
    simp only [rowsOf, List.length_cons]; omega

section
variable {C : Ctx} {r : R} {L : List Oper} {E : Nat → Env} {Hp : Nat → H} {V : Nat → Value} {ds : List Did} (T : Trace C r L L E Hp V ds)
 include T

theorem did_eff {q : Nat} (he : Eff C L E q) : ds[q]? = some (.wrote (Hp q)) := by
  obtain ⟨o, h1, h2, h3⟩ := he
  rw [(T.wt q o h1 h2).2]
  unfold didOf
  cases hk : kindOf C o.op with
  | calm => exact absurd hk h3
  | _ => rfl

theorem did_not {q : Nat} (hq : q < L.length) (he : ¬ Eff C L E q) : ∃ d, ds[q]? = some d ∧ ∀ a, d ≠ .wrote a := by
  have ho : L[q]? = some L[q] := List.getElem?_eq_getElem hq
  cases hw : wanted L[q] L (E q) with
  | false => exact ⟨_, (T.un q _ ho hw).2.2, by simp⟩
  | true =>
    have hk : kindOf C L[q].op = .calm := by
      cases h : kindOf C L[q].op with
      | calm => rfl
      | _ => exact absurd ⟨_, ho, hw, by rw [h]; simp⟩ he
    refine ⟨_, (T.wt q _ ho hw).2, ?_⟩
    unfold didOf
    rw [hk]
    cases readsMem C L[q].op <;> simp

theorem readAll_at {i p : Nat} {o : Oper} {x : Row} (hx : x.o = o) (hxi : x.i = i) (hxb : ∀ k, x.bef.testBit k = bef L i k) (hp : p ≤ L.length)
    (P1 : ∀ k, Eff C L E k → k < p → bef L k i = false) (P2 : ∀ k, Eff C L E k → p ≤ k → bef L i k = false) : ∀ (f q : Nat), q + f = L.length → (∀ k, p ≤ k → k < q → ¬ Eff C L E k) →
      readAll C x (E i) (V i) (Hp L.length) ((rowsOf 0 L ds (befs [] L)).drop q) = true →
      ∃ q', p ≤ q' ∧ q' ≤ L.length ∧ (∀ k, p ≤ k → k < q' → ¬ Eff C L E k) ∧ calm C (Hp q') (E i).eval o = some (V i, none)
  | 0, q, hf, hn, h => by
    have : (rowsOf 0 L ds (befs [] L)).drop q = [] := List.drop_eq_nil_of_le (by have := rowsOf_length 0 L ds (befs [] L); omega)
    rw [this] at h
    simp only [readAll] at h
    have hq : q = L.length := by omega
    exact ⟨L.length, hp, Nat.le_refl _, fun k h1 h2 => hn k h1 (by omega), by rw [← hx]; exact readSame_of h⟩
  | f + 1, q, hf, hn, h => by
    have hq : q < L.length := by omega
    have ho : L[q]? = some L[q] := List.getElem?_eq_getElem hq
    have hb : (befs [] L)[q]? = some (((befs [] L)[q]?).getD 0) := by
      rw [List.getElem?_eq_getElem (by rw [befs_length]; exact hq)]; rfl
    by_cases he : Eff C L E q
    · have hrow := rowsOf_get L ds (befs [] L) 0 q _ _ _ ho (did_eff T he) hb
      rw [Nat.zero_add] at hrow
      obtain ⟨hl, hg⟩ := List.getElem?_eq_some_iff.1 hrow
      rw [List.drop_eq_getElem_cons hl, hg] at h
      simp only [readAll, hxb, hx, hxi] at h
      by_cases hqp : q < p
      · have h1 : bef L q i = false := P1 q he hqp
        have h1' : (((befs [] L)[q]?).getD 0).testBit i = false := h1
        rw [h1', Bool.false_or] at h
        have h2 : readAll C x (E i) (V i) (Hp L.length) ((rowsOf 0 L ds (befs [] L)).drop (q + 1)) = true := by
          cases hb2 : bef L i q with
          | true => rw [hb2, cond_true] at h; exact h
          | false => rw [hb2, cond_false, Bool.and_eq_true] at h; exact h.2
        exact readAll_at hx hxi hxb hp P1 P2 f (q + 1) (by omega) (fun k h3 h4 => by omega) h2
      · rw [P2 q he (by omega), cond_false, Bool.and_eq_true] at h
        exact ⟨q, by omega, by omega, hn, readSame_of h.1⟩
    · obtain ⟨d, hd, hdw⟩ := did_not T hq he
      have hrow := rowsOf_get L ds (befs [] L) 0 q _ _ _ ho hd hb
      rw [Nat.zero_add] at hrow
      obtain ⟨hl, hg⟩ := List.getElem?_eq_some_iff.1 hrow
      rw [List.drop_eq_getElem_cons hl, hg] at h
      have h2 : readAll C x (E i) (V i) (Hp L.length) ((rowsOf 0 L ds (befs [] L)).drop (q + 1)) = true := by
        cases d with
        | wrote a => exact absurd rfl (hdw a)
        | _ => exact h
      exact readAll_at hx hxi hxb hp P1 P2 f (q + 1) (by omega) (fun k h3 h4 => by
        by_cases hk : k = q
        · subst hk; exact he
        · exact hn k h3 (by omega)) h2

/-- A read, wherever its turn comes. -/
theorem read_at {i p : Nat} {o : Oper} (hr : readsOk C (rowsOf 0 L ds (befs [] L)) (Hp L.length) = true) (ho : L[i]? = some o) (hw : wanted o L (E i) = true) (hk : kindOf C o.op = .calm) (hm : readsMem C o.op = true) (hp : p ≤ L.length)
    (P1 : ∀ k, Eff C L E k → k < p → bef L k i = false) (P2 : ∀ k, Eff C L E k → p ≤ k → bef L i k = false) :
    ∃ q', p ≤ q' ∧ q' ≤ L.length ∧ (∀ k, p ≤ k → k < q' → ¬ Eff C L E k) ∧ calm C (Hp q') (E i).eval o = some (V i, none) := by
  have hi := (List.getElem?_eq_some_iff.1 ho).1
  have hd : ds[i]? = some (.read (E i) (V i)) := by
    rw [(T.wt i o ho hw).2]; unfold didOf; rw [hk]; simp only [hm, cond_true]
  have hb : (befs [] L)[i]? = some (((befs [] L)[i]?).getD 0) := by
    rw [List.getElem?_eq_getElem (by rw [befs_length]; exact hi)]; rfl
  have hrow := rowsOf_get L ds (befs [] L) 0 i _ _ _ ho hd hb
  rw [Nat.zero_add] at hrow
  unfold readsOk at hr
  rw [allB_iff] at hr
  have h1 := hr _ (List.mem_of_getElem? hrow)
  simp only at h1
  exact readAll_at T (i := i) (p := p) (o := o) (x := ⟨i, o, .read (E i) (V i), ((befs [] L)[i]?).getD 0⟩) rfl rfl (fun k => rfl) hp P1 P2 L.length 0 (by omega) (fun k _ h => by omega) (by rw [List.drop_zero]; exact h1)
end

section
variable {C : Ctx} {r : R} {L : List Oper} {E : Nat → Env} {Hp : Nat → H} {V : Nat → Value} {ds : List Did}

/-- What an operation uses is what it would be, done in the order of the text. -/
theorem use_same (D : DrawFacts C L) (T : Trace C r L L E Hp V ds) {p d t : List Nat} {i : Nat} (hp : Order L p) (hd : p = d ++ i :: t) {o : Oper} (ho : L[i]? = some o) :
    (∀ u, Operand.tmp u ∈ o.op.operands.toList → (envOf L V (E 0) d).get u = (E i).get u) ∧ wanted o L (envOf L V (E 0) d) = wanted o L (E i) := by
  have hi := (List.getElem?_eq_some_iff.1 ho).1
  have hnd : d.Nodup ∧ i ∉ d := by
    have := hp.nodup
    rw [hd, List.nodup_append] at this
    exact ⟨this.1, fun h => this.2.2 i h i (List.mem_cons_self ..) rfl⟩
  have hE := E_range T i (Nat.le_of_lt hi)
  have hbef := Order.bef D hp
  have same : ∀ (u : Nat), (∀ (k : Nat) (ok : Oper), L[k]? = some ok → ok.dst = some u → (k ∈ d ↔ k < i)) → (envOf L V (E 0) d).get u = (E i).get u := by
    intro u hu
    have hun : ∀ (i k : Nat) (oi ok : Oper), i ≠ k → L[i]? = some oi → L[k]? = some ok → oi.dst = some u → ok.dst ≠ some u := fun a b oa ob h1 h2 h3 h4 => D.dst a b oa ob u h1 h2 h3 h4
    rw [hE]
    obtain ⟨a1, a2⟩ := envOf_get L V u hun d (E 0) hnd.1
    obtain ⟨b1, b2⟩ := envOf_get L V u hun (List.range i) (E 0) List.nodup_range
    by_cases hw : ∃ (k : Nat) (ok : Oper), L[k]? = some ok ∧ ok.dst = some u
    · obtain ⟨k, ok, h1, h2⟩ := hw
      by_cases hk : k < i
      · rw [a1 k ok ((hu k ok h1 h2).2 hk) h1 h2, b1 k ok (List.mem_range.2 hk) h1 h2]
      · rw [a2, b2]
        · intro k2 o2 hk2 ho2 hd2
          rw [List.mem_range] at hk2
          by_cases e : k2 = k
          · omega
          · exact hun k2 k o2 ok e ho2 h1 hd2 h2
        · intro k2 o2 hk2 ho2 hd2
          have := (hu k2 o2 ho2 hd2).1 hk2
          by_cases e : k2 = k
          · omega
          · exact hun k2 k o2 ok e ho2 h1 hd2 h2
    · rw [a2, b2]
      · intro k o hk ho' hd'; exact hw ⟨k, o, ho', hd'⟩
      · intro k o hk ho' hd'; exact hw ⟨k, o, ho', hd'⟩
  have bd : ∀ k, bef L i k = true → (k ∈ d ↔ k < i) := fun k h => ⟨fun _ => bef_lt D i k h, fun _ => hbef i d t hd k h⟩
  refine ⟨fun u hu => same u fun k ok h1 h2 => ?_, ?_⟩
  · by_cases e : k = i
    · subst e; exact ⟨fun h => absurd h hnd.2, fun h => by omega⟩
    · rcases D.use i k o ok u (Ne.symm e) ho h1 h2 hu with h | h
      · exact bd k h
      · have hlt := bef_lt D k i h
        refine ⟨fun hk => ?_, fun hk => by omega⟩
        obtain ⟨d1, d2, hdd⟩ := List.append_of_mem hk
        have := hbef k d1 (d2 ++ i :: t) (by rw [hd, hdd]; simp) i h
        exact absurd (by rw [hdd]; exact List.mem_append_left _ this) hnd.2
  · unfold wanted
    cases hg : o.guard with
    | none => rfl
    | some g =>
      obtain ⟨q, want⟩ := g
      simp only
      cases hq : nth L q with
      | none => rfl
      | some oq =>
        simp only
        cases hdq : oq.dst with
        | none => rfl
        | some u =>
          simp only
          rw [same u]
          intro k ok h1 h2
          have hq' : L[q]? = some oq := by rw [← nth_eq]; exact hq
          have : k = q := by
            by_cases e : k = q
            · exact e
            · exact absurd hdq (D.dst k q ok oq u e h1 hq' h2)
          subst this
          exact bd k (D.guard i o k want ho hg)
end
end Go.Mir

/- A region whose order is open: whatever the order, the same is come to. -/
namespace Go.Mir

/-- Behind some of its operations. -/
structure Inv (C : Ctx) (L : List Oper) (E : Nat → Env) (Hp : Nat → H) (V : Nat → Value) (j0 : J) (w0 : World) (d : List Nat) (j : J) (w : World) (tmps : Array Value) (p : Nat) : Prop where
  le : p ≤ L.length
  env : EnvRel j (envOf L V (E 0) d) tmps
  rel : Rel C j (VH C L E Hp p) w
  lt : ∀ a b, (Hp p).get a = some b → a < (Hp p).next
  eff : ∀ k, Eff C L E k → (k ∈ d ↔ k < p)
  fresh : ∀ k, k < L.length → k ∉ d → Fresh j (Hp k) (Hp (k + 1))
  blk : ∀ k b, k ∉ d → bkOf C L E Hp k = some b → (VH C L E Hp p).get (Hp k).next = some b
  mv : Mv (Hp 0).next (Hp L.length).next j0 (Hp 0) w0 j (VH C L E Hp p) w

section
variable {C : Ctx} {r : R} {ops : Array Oper} {E : Nat → Env} {Hp : Nat → H} {V : Nat → Value} {ds : List Did}

theorem Inv.step (hc : CtxOk C) (hs : Sound C r) (hok : opsOk C ops.toList = true) (D : DrawFacts C ops.toList) (T : Trace C r ops.toList ops.toList E Hp V ds)
    (hreads : readsOk C (rowsOf 0 ops.toList ds (befs [] ops.toList)) (Hp ops.toList.length) = true) {j0 j : J} {w0 w : World} {tmps : Array Value} {p : Nat} {π d t : List Nat} {i : Nat} (hπ : Order ops.toList π) (hd : π = d ++ i :: t)
    (I : Inv C ops.toList E Hp V j0 w0 d j w tmps p) (fr : Frame) (k : List Item) (dfs : List Deferred) (cs : List Frame) :
    ∃ j' w' tmps' p', Inv C ops.toList E Hp V j0 w0 (d ++ [i]) j' w' tmps' p' ∧ Steps C.P (lone (At fr tmps (.inRegion ops (i :: t) :: k) dfs) cs w) (lone (At fr tmps' (.inRegion ops t :: k) dfs) cs w') := by
  have hi : i < ops.toList.length := (hπ.all i).1 (by rw [hd]; simp)
  have hid : i ∉ d := by
    have := hπ.nodup
    rw [hd, List.nodup_append] at this
    exact fun h => this.2.2 i h i (List.mem_cons_self ..) rfl
  obtain ⟨o, ho⟩ : ∃ o, ops.toList[i]? = some o := ⟨_, List.getElem?_eq_getElem hi⟩
  have ho' : ops[i]? = some o := by simpa using ho
  have hm : o ∈ ops.toList := List.mem_of_getElem? ho
  obtain ⟨u1, u2⟩ := use_same D T hπ hd ho
  have hbef := Order.bef D hπ
  have hlo := T_le T (i := 0) (k := i) (Nat.zero_le _) (Nat.le_of_lt hi)
  have hhi := T_le T (i := i + 1) (k := ops.toList.length) hi (Nat.le_refl _)
  have hfr := I.fresh i hi hid
  have mem_snoc : ∀ q, q ∈ d ++ [i] ↔ q ∈ d ∨ q = i := fun q => by simp
  cases hw : wanted o ops.toList (E i) with
  | false =>
    refine ⟨j, w, putT tmps o.dst undef, p, ⟨I.le, ?_, I.rel, I.lt, ?_, ?_, ?_, I.mv⟩, .one (s_opSkip ho' (by rw [wanted_eq I.env, u2]; exact hw))⟩
    · rw [envOf_snoc _ _ _ _ _ ho, (T.un i o ho hw).1]
      have := env_put I.env o.dst (undef_ren j).2
      rwa [(undef_ren j).1] at this
    · intro q hq
      rw [mem_snoc]
      refine ⟨fun h => ?_, fun h => .inl ((I.eff q hq).2 h)⟩
      rcases h with h | rfl
      · exact (I.eff q hq).1 h
      · obtain ⟨o', a1, a2, a3⟩ := hq
        rw [ho] at a1; cases a1; rw [hw] at a2; cases a2
    · intro q hq hn; exact I.fresh q hq fun h => hn ((mem_snoc q).2 (.inl h))
    · intro q b hn hb; exact I.blk q b (fun h => hn ((mem_snoc q).2 (.inl h))) hb
  | true =>
    -- what its operands are
    have hρ : ∀ x ∈ o.op.operands.toList, ({ fr with tmps := tmps } : Frame).eval x = ren j ((E i).eval x) ∧ Wf j ((E i).eval x) := by
      intro x hx
      have := eval_ok I.rel I.env fr x ((allB_iff _ _).1 (opsOk_mem hok hm) x hx)
      have he : (envOf ops.toList V (E 0) d).eval x = (E i).eval x := by
        cases x with
        | tmp u => exact u1 u hx
        | _ => rfl
      rwa [he] at this
    by_cases hk : kindOf C o.op = .calm
    · -- it reads or makes
      have hne : ¬ Eff C ops.toList E i := by
        rintro ⟨o', a1, a2, a3⟩
        rw [ho] at a1; cases a1; exact a3 hk
      obtain ⟨c1, c2⟩ := T_calm T ho hw hk
      have eff' : ∀ q, Eff C ops.toList E q → (q ∈ d ++ [i] ↔ q < p) := by
        intro q hq
        rw [mem_snoc]
        refine ⟨fun h => ?_, fun h => .inl ((I.eff q hq).2 h)⟩
        rcases h with h | rfl
        · exact (I.eff q hq).1 h
        · exact absurd hq hne
      -- where it reads
      have hH : ∃ H', Rel C j H' w ∧ calm C H' (E i).eval o = some (V i, bkOf C ops.toList E Hp i) ∧ ((bkOf C ops.toList E Hp i).isSome → H'.next = (Hp i).next) := by
        cases hm2 : readsMem C o.op with
        | false =>
          refine ⟨⟨(Hp i).next, .nil⟩, ⟨?_, ?_, ?_, I.rel.glob, ?_⟩, ?_, fun _ => rfl⟩
          · intro a b x h1 h2; simp [H.get, Mir.T.get_nil] at h2
          · intro a b x y z v h1 h2 h3; simp [H.get, Mir.T.get_nil] at h3
          · intro a b h1; simp [H.get, Mir.T.get_nil] at h1
          · intro a b c h1 h2; simp [H.get, Mir.T.get_nil] at h2
          · rw [← c1]; exact calm_indep hm2
        | true =>
          have hnb : bkOf C ops.toList E Hp i = none := by
            cases hb : bkOf C ops.toList E Hp i with
            | none => rfl
            | some b => rw [hb] at c1; rw [calm_reads hk c1] at hm2; cases hm2
          obtain ⟨q, q1, q2, q3, q4⟩ := read_at T (p := p) hreads ho hw hk hm2 I.le (fun q hq hqp => by
            cases hb : bef ops.toList q i with
            | false => rfl
            | true =>
              have hqd := (I.eff q hq).2 hqp
              obtain ⟨d1, d2, hdd⟩ := List.append_of_mem hqd
              have := hbef q d1 (d2 ++ i :: t) (by rw [hd, hdd]; simp) i hb
              exact absurd (by rw [hdd]; exact List.mem_append_left _ this) hid) (fun q hq hqp => by
            cases hb : bef ops.toList i q with
            | false => rfl
            | true =>
              have := (I.eff q hq).1 (hbef i d t hd q hb)
              omega)
          have hrel := I.rel
          rw [VH_move T q1 q2 q3] at hrel
          exact ⟨Hp q, VH_rel T q2 (lt_move T q1 q2 q3 I.lt) hrel, by rw [hnb]; exact q4, fun h => by rw [hnb] at h; cases h⟩
      obtain ⟨H', h1, h2, h3⟩ := hH
      have hdef : ∀ c, o.op ≠ .defer c := by
        intro c hh
        unfold calm at h2
        rw [hh] at h2
        simp at h2
      have hst := congrArg GStep.bare (g_op (P := C.P) (fr := fr) (tmps := tmps) (k := k) (ds := dfs) (cs := cs) (w := w) (rest := t) ho' (by rw [wanted_eq I.env, u2]; exact hw) hdef)
      have hcs := calm_sound hc h1 hρ (nb := bkOf C ops.toList E Hp i) (fun hb => by rw [h3 hb]; exact hfr _ (Nat.le_refl _) (by
        obtain ⟨b, hb⟩ := Option.isSome_iff_exists.1 hb
        have := (bk_lt T (i := i) (by simp [hb])).2.2; omega)) h2
      cases hb : bkOf C ops.toList E Hp i with
      | none =>
        rw [hb] at hcs
        obtain ⟨r1, r2⟩ := hcs
        have hstep := val_step r1 hst
        rw [At_finish ops i t ho'] at hstep
        refine ⟨j, w, _, p, ⟨I.le, ?_, I.rel, I.lt, eff', ?_, ?_, I.mv⟩, .one hstep⟩
        · rw [envOf_snoc _ _ _ _ _ ho]; exact env_put I.env o.dst r2
        · intro q hq hn; exact I.fresh q hq fun h => hn ((mem_snoc q).2 (.inl h))
        · intro q b hn hb; exact I.blk q b (fun h => hn ((mem_snoc q).2 (.inl h))) hb
      | some b =>
        rw [hb] at hcs
        have hbl := bk_lt T (i := i) (by simp [hb])
        have hnx := h3 (by simp [hb])
        obtain ⟨im, ob, w', p1, p2, p3, p4, p5, p6, p7, p8, p9, p10⟩ := hcs
        rw [hnx] at p3 p4 p6
        have hn : j (Hp i).next = none := hfr _ (Nat.le_refl _) (by omega)
        obtain ⟨m1, m2⟩ := come_block (lo := (Hp 0).next) (hi := (Hp ops.toList.length).next) I.rel hn (I.blk i b hid hb) hlo (by omega) p1 p5 p6 p8 p9 p10 (fun c e => by subst e; cases p7)
        have hstep := val_step p3 hst
        rw [At_finish ops i t ho'] at hstep
        refine ⟨_, w', _, p, ⟨I.le, ?_, m2, I.lt, eff', ?_, ?_, I.mv.trans m1⟩, .one hstep⟩
        · rw [envOf_snoc _ _ _ _ _ ho]; exact env_put (I.env.le m1.le) o.dst p4
        · intro q hq hnq a a1 a2
          have hqi : q ≠ i := fun e => hnq ((mem_snoc q).2 (.inr e))
          have hold := I.fresh q hq (fun h => hnq ((mem_snoc q).2 (.inl h))) a a1 a2
          unfold J.upd
          rw [if_neg]; · exact hold
          intro e
          rcases Nat.lt_or_gt_of_ne hqi with h | h
          · have := T_le T (i := q + 1) (k := i) h (Nat.le_of_lt hi); omega
          · have := T_le T (i := i + 1) (k := q) h (Nat.le_of_lt hq); omega
        · intro q b' hnq hb'; exact I.blk q b' (fun h => hnq ((mem_snoc q).2 (.inl h))) hb'
    · -- it writes
      have he : Eff C ops.toList E i := ⟨o, ho, hw, hk⟩
      have hpi : p ≤ i := by
        cases Nat.lt_or_ge i p with
        | inl h => exact absurd ((I.eff i he).2 h) hid
        | inr h => exact h
      have hgap : ∀ q, p ≤ q → q < i → ¬ Eff C ops.toList E q := by
        intro q q1 q2 hq
        obtain ⟨oq, b1, b2, b3⟩ := hq
        have hcalm : ∀ o : Oper, kindOf C o.op ≠ .calm → isCalm C o = false := fun o h => by
          unfold isCalm
          cases h' : kindOf C o.op with
          | calm => exact absurd h' h
          | _ => rfl
        rcases D.eff i q o oq (by omega) ho b1 (hcalm o hk) (hcalm oq b3) with h | h
        · have := (I.eff q ⟨oq, b1, b2, b3⟩).1 (hbef i d t hd q h); omega
        · have := bef_lt D q i h; omega
      have hrel := I.rel
      rw [VH_move T hpi (Nat.le_of_lt hi) hgap] at hrel
      have hlt := lt_move T hpi (Nat.le_of_lt hi) hgap I.lt
      have hrp := VH_rel T (Nat.le_of_lt hi) hlt hrel
      obtain ⟨q1, q2⟩ := oper_ok hc hs hrp hρ hfr (T.wt i o ho hw).1
      obtain ⟨j1, w1, b1, b2, b3, b4⟩ := ok_steps q1 (fr := At fr tmps (.inRegion ops (i :: t) :: k) dfs) (cs := cs) trivial
        (congrArg GStep.bare (g_op ho' (by rw [wanted_eq I.env, u2]; exact hw) q2))
      rw [At_finish ops i _ ho'] at b1
      obtain ⟨m1, m2⟩ := VH_eff T hi he hlt hrel b2 b3
      have mv := I.mv
      rw [VH_move T hpi (Nat.le_of_lt hi) hgap] at mv
      refine ⟨j1, w1, _, i + 1, ⟨hi, ?_, m2, b3.lt, ?_, ?_, ?_, mv.trans (m1.wide hlo hhi)⟩, b1⟩
      · rw [envOf_snoc _ _ _ _ _ ho]; exact env_put (I.env.le b2.le) o.dst b4
      · intro q hq
        rw [mem_snoc, I.eff q hq]
        refine ⟨fun h => by rcases h with h | h <;> omega, fun h => ?_⟩
        by_cases e : q = i
        · exact .inr e
        · refine .inl ?_
          cases Nat.lt_or_ge q p with
          | inl h => exact h
          | inr h' => exact absurd hq (hgap q h' (by omega))
      · intro q hq hnq a a1 a2
        have hqi : q ≠ i := fun e => hnq ((mem_snoc q).2 (.inr e))
        have hold := I.fresh q hq (fun h => hnq ((mem_snoc q).2 (.inl h))) a a1 a2
        cases hj : j1 a with
        | none => rfl
        | some im =>
          have := b2.new a im hj hold
          exfalso
          rcases Nat.lt_or_gt_of_ne hqi with h | h
          · have := T_le T (i := q + 1) (k := i) h (Nat.le_of_lt hi); omega
          · have := T_le T (i := i + 1) (k := q) h (Nat.le_of_lt hq); omega
      · intro q b hnq hb
        have hqi : q ≠ i := fun e => hnq ((mem_snoc q).2 (.inr e))
        have hqd : q ∉ d := fun h => hnq ((mem_snoc q).2 (.inl h))
        have hql := bk_lt T (i := q) (by simp [hb])
        rcases Nat.lt_or_gt_of_ne hqi with h | h
        · have h2 := T_le T (i := q + 1) (k := i) h (Nat.le_of_lt hi)
          rw [m1.abs (Hp q).next (by omega) (I.fresh q hql.1 hqd _ (Nat.le_refl _) (by omega)), ← VH_move T hpi (Nat.le_of_lt hi) hgap]
          exact I.blk q b hqd hb
        · exact VH_new T h hb

theorem Inv.steps (hc : CtxOk C) (hs : Sound C r) (hok : opsOk C ops.toList = true) (D : DrawFacts C ops.toList) (T : Trace C r ops.toList ops.toList E Hp V ds)
    (hreads : readsOk C (rowsOf 0 ops.toList ds (befs [] ops.toList)) (Hp ops.toList.length) = true) {j0 : J} {w0 : World} {π : List Nat} (hπ : Order ops.toList π) (fr : Frame) (k : List Item) (dfs : List Deferred) (cs : List Frame) :
    ∀ (t d : List Nat) (j : J) (w : World) (tmps : Array Value) (p : Nat), π = d ++ t → Inv C ops.toList E Hp V j0 w0 d j w tmps p →
      ∃ j' w' tmps' p', Inv C ops.toList E Hp V j0 w0 π j' w' tmps' p' ∧ Steps C.P (lone (At fr tmps (.inRegion ops t :: k) dfs) cs w) (lone (At fr tmps' (.inRegion ops [] :: k) dfs) cs w')
  | [], d, j, w, tmps, p, hd, I => by
    rw [List.append_nil] at hd; subst hd
    exact ⟨j, w, tmps, p, I, .refl _ _⟩
  | i :: t, d, j, w, tmps, p, hd, I => by
    obtain ⟨j1, w1, tmps1, p1, I1, s1⟩ := I.step hc hs hok D T hreads hπ hd fr k dfs cs
    obtain ⟨j2, w2, tmps2, p2, I2, s2⟩ := Inv.steps hc hs hok D T hreads hπ fr k dfs cs t (d ++ [i]) j1 w1 tmps1 p1 (by rw [hd]; simp) I1
    exact ⟨j2, w2, tmps2, p2, I2, s1.trans s2⟩
end
end Go.Mir

/- A region. -/
namespace Go.Mir

theorem Rel.world {C : Ctx} {j : J} {h : H} {w w' : World} (hr : Rel C j h w) (hh : w'.heap = w.heap) : Rel C j h w' :=
  ⟨fun a i b h1 h2 => by rw [hh]; exact hr.blk a i b h1 h2, hr.inj, hr.lt, hr.glob, hr.rom⟩

theorem Adv.of_drawn {j : J} {h : H} {w : World} {n : Nat} {j' : J} {h' : H} {w' : World} (a : Adv j h { w with drawn := n } j' h' w') : Adv j h w j' h' w' :=
  ⟨a.le, a.new, a.nx, a.sz, a.held, a.keep, a.abs, a.os, a.out, a.tape, a.rom⟩

theorem region_sim {C : Ctx} {r : R} (hc : CtxOk C) (hs : Sound C r) {id : Nat} {ops : Array Oper} {draw : Bool} {e e' : Env} {h h' : H} (hok : okC C (.region id ops draw) = true) (ev : regionRun C r ops.toList draw e h = some (e', h')) :
    h.next ≤ h'.next ∧ CodeSim C (.region id ops draw) e h .normal e' h' := by
  simp only [okC, Bool.and_eq_true] at hok
  cases draw with
  | false =>
    simp only [regionRun, cond_false] at ev
    obtain ⟨n1, p⟩ := opsRun_sim hc hs ops hok.1 ops.toList 0 e h e' h' rfl ev
    refine ⟨n1, fun j w fr tmps k ds cs hr he hf _ => ?_⟩
    obtain ⟨j', w', tmps', a1, a2, a3, a4⟩ := p j w fr tmps k ds cs hr he hf
    refine ⟨j', w', tmps', ds, a1, a2, a3, Marks.refl _ _ _ _ _, fun _ => rfl, ?_⟩
    have : List.range' 0 ops.toList.length = List.range ops.size := by rw [List.range_eq_range']; simp
    rw [this] at a4
    exact .head s_region a4
  | true =>
    simp only [regionRun, cond_true] at ev
    split at ev
    · rename_i e1 h1 ds htr
      rw [cond_eq_ite] at ev
      split at ev
      · rename_i hreads
        simp only [Option.some.injEq, Prod.mk.injEq] at ev
        obtain ⟨rfl, rfl⟩ := ev
        obtain ⟨E, Hp, V, t1, t2, t3, t4, T, t6⟩ := trace_of ops.toList e h _ _ ds htr
        have hdr : drawOk C ops.toList = true := by
          have := hok.2
          simpa using this
        have D := drawFacts hdr
        subst t1; subst t2
        have hmono := T_le T (i := 0) (k := ops.toList.length) (Nat.zero_le _) (Nat.le_refl _)
        rw [t4] at hmono
        refine ⟨hmono, fun j w fr tmps k dfs cs hr he hf _ => ?_⟩
        obtain ⟨t, hstep⟩ := s_draw (P := C.P) (fr := fr) (tmps := tmps) (k := k) (ds := dfs) (cs := cs) (w := w) (id := id) (ops := ops) hc.mixed
        obtain ⟨w1, hw1⟩ : ∃ w1 : World, w1 = { w with drawn := w.drawn + 1 } := ⟨_, rfl⟩
        rw [← hw1] at hstep
        have hr1 : Rel C j (Hp 0) w1 := hr.world (by rw [hw1])
        rw [← t4] at hf
        obtain ⟨m1, m2⟩ := VH_start T hr1 hf
        have hπ := order_of ops D t
        have I0 : Inv C ops.toList E Hp V j w1 [] j w1 tmps 0 := by
          refine ⟨Nat.zero_le _, he, m2, hr.lt, by simp, ?_, ?_, m1⟩
          · intro q hq _ a a1 a2
            have := T_le T (i := 0) (k := q) (Nat.zero_le _) (Nat.le_of_lt hq)
            have := T_le T (i := q + 1) (k := ops.toList.length) hq (Nat.le_refl _)
            exact hf a (by omega) (by omega)
          · intro q b _ hb
            exact VH_new T (Nat.zero_le _) hb
        obtain ⟨j', w', tmps', p', I, s⟩ := Inv.steps hc hs hok.1 D T (by rw [t4]; exact hreads) hπ fr k dfs cs _ [] j w1 tmps 0 rfl I0
        have hend : VH C ops.toList E Hp p' = Hp ops.toList.length := by
          rw [VH_move T I.le (Nat.le_refl _) (fun q q1 q2 hq => by
            have := (I.eff q hq).1 ((hπ.all q).2 q2); omega)]
          exact VH_end
        have hrel := I.rel
        have hmv := I.mv
        rw [hend, t4] at hrel hmv
        have henv : EnvRel j' (E ops.toList.length) tmps' := by
          have hE := E_range T ops.toList.length (Nat.le_refl _)
          refine ⟨by rw [I.env.size, hE, envOf_n, envOf_n], fun u => ?_⟩
          have hg : (envOf ops.toList V (E 0) (Region.linearise .any ops t)).get u = (E ops.toList.length).get u := by
            rw [hE]
            have hun : ∀ (i k : Nat) (oi ok : Oper), i ≠ k → ops.toList[i]? = some oi → ops.toList[k]? = some ok → oi.dst = some u → ok.dst ≠ some u := fun a b oa ob h1 h2 h3 h4 => D.dst a b oa ob u h1 h2 h3 h4
            obtain ⟨a1, a2⟩ := envOf_get ops.toList V u hun (Region.linearise .any ops t) (E 0) hπ.nodup
            obtain ⟨b1, b2⟩ := envOf_get ops.toList V u hun (List.range ops.toList.length) (E 0) List.nodup_range
            by_cases hw : ∃ (k : Nat) (ok : Oper), ops.toList[k]? = some ok ∧ ok.dst = some u
            · obtain ⟨q, oq, q1, q2⟩ := hw
              have hq := (List.getElem?_eq_some_iff.1 q1).1
              rw [a1 q oq ((hπ.all q).2 hq) q1 q2, b1 q oq (List.mem_range.2 hq) q1 q2]
            · rw [a2, b2]
              · intro q o _ ho' hd'; exact hw ⟨q, o, ho', hd'⟩
              · intro q o _ ho' hd'; exact hw ⟨q, o, ho', hd'⟩
          rw [← hg]; exact I.env.get u
        rw [t3] at henv
        have hadv : Adv j (Hp 0) w j' h1 w' := by
          refine Adv.of_drawn (n := w.drawn + 1) ?_
          rw [← hw1]
          exact ⟨hmv.le, hmv.new, hmono, hmv.sz, hmv.held, hmv.keep, hmv.abs, hmv.os, hmv.out, hmv.tape, hmv.rom⟩
        exact ⟨j', w', tmps', dfs, hadv, hrel, henv, Marks.refl _ _ _ _ _, fun _ => rfl, .head hstep (s.trans (.one s_regionEnd))⟩
      · cases ev
    · cases ev
end Go.Mir

/- Code, but a range over a function. -/
namespace Go.Mir

theorem Steps.first {P : Program} {m m1 m' : Machine} (hs : step P m = .next m1) (h : Steps P m m') : m = m' ∨ Steps P m1 m' := by
  obtain ⟨n, hn⟩ := h
  cases n with
  | zero => simp [runN] at hn; exact .inl hn
  | succ n => simp only [runN, hs] at hn; exact .inr ⟨n, hn⟩

theorem lone_todo {fr fr' : Frame} {t t' : Array Value} {k k' : List Item} {ds ds' : List Deferred} {cs cs' : List Frame} {w w' : World} (h : lone (At fr t k ds) cs w = lone (At fr' t' k' ds') cs' w') : k = k' := by
  have := congrArg (fun m : Machine => (m.gs[0]?).map (·.frame.todo)) h
  simpa [lone, At] using this

theorem Goes.head {P : Program} {fr : Frame} {m m1 : Machine} {k : List Item} {cs : List Frame} {out : Out} {t : Array Value} {ds : List Deferred} {w : World} (h : step P m = .next m1) (g : Goes P fr m1 k cs out t ds w) : Goes P fr m k cs out t ds w := by
  cases out with
  | normal => exact Steps.head h g
  | exit id => obtain ⟨k1, g1, g2⟩ := g; exact ⟨k1, .head h g1, g2⟩
  | ret => obtain ⟨k1, g1⟩ := g; exact ⟨k1, .head h g1⟩

theorem Goes.steps {P : Program} {fr : Frame} {m m1 : Machine} {k : List Item} {cs : List Frame} {out : Out} {t : Array Value} {ds : List Deferred} {w : World} (h : Steps P m m1) (g : Goes P fr m1 k cs out t ds w) : Goes P fr m k cs out t ds w := by
  cases out with
  | normal => exact Steps.trans h g
  | exit id => obtain ⟨k1, g1, g2⟩ := g; exact ⟨k1, h.trans g1, g2⟩
  | ret => obtain ⟨k1, g1⟩ := g; exact ⟨k1, h.trans g1⟩

/-- A jump out of what stands ahead of something. -/
theorem Goes.out {P : Program} {fr : Frame} {m : Machine} {k k' : List Item} {cs : List Frame} {out : Out} {t : Array Value} {ds : List Deferred} {w : World} (hn : out ≠ .normal) (hk : ∀ id, out = .exit id → exitTo id k = exitTo id k') (g : Goes P fr m k cs out t ds w) : Goes P fr m k' cs out t ds w := by
  cases out with
  | normal => exact absurd rfl hn
  | exit id => obtain ⟨k1, g1, g2⟩ := g; exact ⟨k1, g1, g2.trans (hk id rfl)⟩
  | ret => exact g

/-- Only the first step matters. -/
theorem Goes.tail {P : Program} {fr : Frame} {m m1 : Machine} {x : Item} {k : List Item} {cs : List Frame} {out : Out} {t0 t : Array Value} {ds0 ds : List Deferred} {w0 w : World} (hm : m = lone (At fr t0 (x :: k) ds0) cs w0) (hx : (∀ id, x ≠ .code (.exit id)) ∧ x ≠ .code .ret)
    (h : step P m = .next m1) (g : Goes P fr m k cs out t ds w) : Goes P fr m1 k cs out t ds w := by
  cases out with
  | normal =>
    rcases Steps.first h g with e | e
    · rw [hm] at e
      have := congrArg List.length (lone_todo e)
      simp at this
    · exact e
  | exit id =>
    obtain ⟨k1, g1, g2⟩ := g
    rcases Steps.first h g1 with e | e
    · rw [hm] at e
      have := lone_todo e
      simp only [List.cons.injEq] at this
      exact absurd this.1 (hx.1 id)
    · exact ⟨k1, e, g2⟩
  | ret =>
    obtain ⟨k1, g1⟩ := g
    rcases Steps.first h g1 with e | e
    · rw [hm] at e
      have := lone_todo e
      simp only [List.cons.injEq] at this
      exact absurd this.1 hx.2
    · exact ⟨k1, e⟩

theorem plain_keep {C : Ctx} {c : Code} {e : Env} {h : H} {out : Out} {e' : Env} {h' : H} (p : CodeSim C c e h out e' h') {j : J} {w : World} {fr : Frame} {tmps : Array Value} {k : List Item} {ds : List Deferred} {cs : List Frame} (hr : Rel C j h w) (he : EnvRel j e tmps) (hf : Fresh j h h') (hp : fr.roundOf = none ∨ plainC c = true) :
    ∃ (j' : J) (w' : World) (tmps' : Array Value) (ds' : List Deferred), Adv j h w j' h' w' ∧ Rel C j' h' w' ∧ EnvRel j' e' tmps' ∧ Marks w j' h' w' ds ds' ∧ (plainC c = true → ds' = ds) ∧
      Goes C.P fr (lone (At fr tmps (.code c :: k) ds) cs w) k cs out tmps' ds' w' := p j w fr tmps k ds cs hr he hf hp
end Go.Mir

/- A range over a function. -/
namespace Go.Mir

/-- A block of the model's alone. -/
theorem push_other {C : Ctx} {j : J} {h : H} {w : World} (hr : Rel C j h w) (o : Obj) : Adv j h w j h { w with heap := w.heap.push o } ∧ Rel C j h { w with heap := w.heap.push o } ∧ ¬ Held j h w.heap.size := by
  have hget : ∀ k, k < w.heap.size → (w.heap.push o)[k]? = w.heap[k]? := fun k hk => by rw [Array.getElem?_push, if_neg (by omega)]
  refine ⟨⟨fun _ _ h => h, fun a i h h' => by simp [h] at h', Nat.le_refl _, by simp, fun _ _ h => h, fun b hb _ => hget b hb, fun _ _ _ => rfl, rfl, rfl, rfl, fun _ _ _ h1 h2 => ⟨h1, h2⟩⟩, ⟨?_, hr.inj, hr.lt, hr.glob, hr.rom⟩, ?_⟩
  · intro a i b h1 h2
    exact (hr.blk a i b h1 h2).same fun hd => hget _ (solid_lt hr h1 h2 hd)
  · rintro ⟨a, i, x, h1, h2, h3, h4⟩
    have := lt_of_rel hr h1 h2 h3; omega

section
variable {C : Ctx} {r : R}

theorem g_range {P : Program} {fr : Frame} {tmps : Array Value} {k : List Item} {ds : List Deferred} {cs : List Frame} {w : World} {f : Operand} {ps : Array Tmp} {assign body : Code} (hfr : fr.roundOf = none) :
    (stepG P true { frame := At fr tmps (.code (.rangeFunc f ps assign body) :: k) ds, callers := cs, status := .running, dying := none } w).bare =
      (stepG.apply P true (At fr tmps (.inRangeFunc (w.heap.size + 1) :: k) (⟨.collected w.heap.size, #[]⟩ :: ds)) cs none
        (do let d ← Deferred.ofValue (({ fr with tmps := tmps } : Frame).eval f) #[.func (.yield (w.heap.size + 1)) #[] #[]]; invoke d.target d.args)
        { w with heap := (w.heap.push (.deferred (some []))).push (.loop { state := .ready, pending := none, fn := fr.fn, tmps, params := ps, assign, body, defers := w.heap.size }) }).bare := by
  have he := congrFun (At_eval fr tmps (.inRangeFunc (w.heap.size + 1) :: k) (⟨.collected w.heap.size, #[]⟩ :: ds)) f
  have hm : ∀ (ρ : Operand → Value) (y : Operand), #[y].map ρ = #[ρ y] := fun ρ y => by simp
  have key : (stepG P true { frame := At fr tmps (.code (.rangeFunc f ps assign body) :: k) ds, callers := cs, status := .running, dying := none } w).bare =
      (stepG.apply P true (At fr tmps (.inRangeFunc (w.heap.size + 1) :: k) (⟨.collected w.heap.size, #[]⟩ :: ds)) cs none
        (do let d ← Deferred.ofValue ((At fr tmps (.inRangeFunc (w.heap.size + 1) :: k) (⟨.collected w.heap.size, #[]⟩ :: ds)).eval f) #[.func (.yield (w.heap.size + 1)) #[] #[]]; invoke d.target d.args)
        { w with heap := (w.heap.push (.deferred (some []))).push (.loop { state := .ready, pending := none, fn := fr.fn, tmps, params := ps, assign, body, defers := w.heap.size }) }).bare := by
    simp only [stepG, stepG.exec, At, Sem.runT_eq, Instr.enterLoop, hfr, Sem.run_bind, run_newObj, Result.andThen_ok, Sem.run_pure, GStep.bare_after, Array.size_push, List.singleton_append, resolve, hm]
    rfl
  rw [key, he]

theorem s_endRange {P : Program} {fr : Frame} {tmps : Array Value} {k : List Item} {ds : List Deferred} {cs : List Frame} {w : World} {l : Nat} {x : Loop} (hl : w.heap[l]? = some (.loop x)) (hb : x.state ≠ .busy) :
    step P (lone (At fr tmps (.endRangeFunc l :: k) ds) cs w) = .next (lone (At fr tmps ((x.pending.map Item.code).toList ++ k) ds) cs (World.put w l (.loop { x with state := .exhausted }))) := by
  have h1 : (x.state == .busy) = false := by
    cases hh : x.state with
    | busy => exact absurd hh hb
    | _ => rfl
  have h2 : (Instr.endLoop l).run P w = .ok x.pending (World.put w l (.loop { x with state := .exhausted })) := by
    simp only [Instr.endLoop, Instr.getLoop, Sem.run_bind, run_getObj hl (by intros; simp), Result.andThen_ok, Sem.run_pure, h1, Bool.false_eq_true, if_false, run_setObj hl (by intros; simp)]
  refine step_lone_go ?_
  simp only [stepG, stepG.exec, At, Sem.runT_eq, h2, GStep.bare_after]
  rfl

theorem range_sim (_hc : CtxOk C) (hs : Sound C r) {f : Operand} {ps : Array Tmp} {assign body : Code} (hok : okC C (.rangeFunc f ps assign body) = true) {e : Env} {h : H} {pend : Option Code} {h' : H} (ev : rangeRun r f ps.toList assign body e h = some (pend, h')) :
    h.next ≤ h'.next ∧ ∀ (j : J) (w : World) (fr : Frame) (tmps : Array Value) (k : List Item) (ds : List Deferred) (cs : List Frame), Rel C j h w → EnvRel j e tmps → Fresh j h h' → fr.roundOf = none →
      ∃ (j' : J) (w' : World) (ds' : List Deferred), Adv j h w j' h' w' ∧ Rel C j' h' w' ∧ EnvRel j' e tmps ∧ Marks w j' h' w' ds ds' ∧
        Steps C.P (lone (At fr tmps (.code (.rangeFunc f ps assign body) :: k) ds) cs w) (lone (At fr tmps ((pend.map Item.code).toList ++ k) ds') cs w') := by
  unfold rangeRun at ev
  split at ev
  · rename_i v h2 hcall
    rw [cond_ble] at ev
    split at ev
    · rename_i hle
      split at ev
      · rename_i x hx
        have hbusy : x.state ≠ .busy ∧ x.pending = pend ∧ h2.set h.next .dead = h' := by
          cases hst : x.state with
          | busy => rw [hst] at ev; cases ev
          | _ => rw [hst] at ev; simp only [Option.some.injEq, Prod.mk.injEq] at ev; exact ⟨by simp, ev⟩
        clear ev
        obtain ⟨hb, rfl, rfl⟩ := hbusy
        refine ⟨by rw [H.next_set]; omega, fun j w fr tmps k ds cs hr he hf hfr => ?_⟩
        simp only [okC, Bool.and_eq_true] at hok
        obtain ⟨⟨⟨⟨o1, o2⟩, o3⟩, o4⟩, o5⟩ := hok
        -- the two blocks
        obtain ⟨a1, r1, n1⟩ := push_other hr (.deferred (some []))
        have hn : j h.next = none := hf _ (Nat.le_refl _) (by rw [H.next_set]; omega)
        have hgst := g_range (P := C.P) (tmps := tmps) (k := k) (ds := ds) (cs := cs) (w := w) (f := f) (ps := ps) (assign := assign) (body := body) hfr
        obtain ⟨w1, hw1⟩ : ∃ w1 : World, w1 = { w with heap := w.heap.push (.deferred (some [])) } := ⟨_, rfl⟩
        rw [← hw1] at a1 r1
        have hsz1 : w1.heap.size = w.heap.size + 1 := by rw [hw1]; simp
        obtain ⟨w2, hw2⟩ : ∃ w2 : World, w2 = { w with heap := (w.heap.push (.deferred (some []))).push (.loop { state := .ready, pending := none, fn := fr.fn, tmps, params := ps, assign, body, defers := w.heap.size }) } := ⟨_, rfl⟩
        rw [← hw2] at hgst
        obtain ⟨im, him⟩ : ∃ im : Img, im = { blk := w1.heap.size, base := 0, n := 0, esz := 0, ext := 0 } := ⟨_, rfl⟩
        obtain ⟨bl, hbl⟩ : ∃ b : Blk, b = .loop { state := .ready, pending := none, env := e, params := ps.toList, assign, body } := ⟨_, rfl⟩
        rw [← hbl] at hcall
        obtain ⟨a2, r2⟩ := new_block (b := bl) (i := im) (ob := .loop { state := .ready, pending := none, fn := fr.fn, tmps, params := ps, assign, body, defers := w.heap.size }) (w' := w2) r1 hn (by rw [him]) (by rw [hw2, hw1])
          (by rw [hbl]; exact ⟨tmps, fr.fn, w.heap.size, rfl, he.le (upd_le hn), o2, o3, o4, o5⟩) (by rw [hw2, hw1]) (by rw [hw2, hw1]) (by rw [hw2, hw1]) (fun c e' => by rw [hbl] at e'; cases e')
        have hadv2 := a1.trans a2
        have hjl : (j.upd h.next im) h.next = some im := upd_self _ _ _
        have hfv := eval_ok hr he fr f o1
        have hfv2 : ren (j.upd h.next im) (e.eval f) = ren j (e.eval f) ∧ Wf (j.upd h.next im) (e.eval f) := ren_le (upd_le hn) _ hfv.2
        have hargs : ([.func (.yield h.next) #[] #[]] : List Value).map (ren (j.upd h.next im)) = [.func (.yield (w.heap.size + 1)) #[] #[]] := by
          have : (Value.func (.yield h.next) #[] #[]) = .func (.yield h.next) ⟨[]⟩ ⟨[]⟩ := rfl
          have hb : (j.upd h.next im).blk h.next = w.heap.size + 1 := by unfold J.blk; rw [hjl, him]; exact hsz1
          simp only [List.map_cons, List.map_nil, this, ren, J.fn, hb, rens]
        have hok2 := callVal_ok hs r2 hfv2.2 (args := [.func (.yield h.next) #[] #[]]) (by
          intro a ha
          rw [List.mem_singleton] at ha; subst ha
          show Wf _ (.func (.yield h.next) ⟨[]⟩ ⟨[]⟩)
          simp [Wf, Wfs, hjl]) (hf.right hadv2 |>.left (by rw [H.next_set]; exact Nat.le_refl _) |> fun (q : Fresh _ _ h2) => q) hcall
        rw [hargs, hfv2.1, ← hfv.1] at hok2
        obtain ⟨j3, w3, s3, a3, r3, v3⟩ := ok_steps hok2 (fr := At fr tmps (.inRangeFunc (w.heap.size + 1) :: k) (⟨.collected w.heap.size, #[]⟩ :: ds)) (cs := cs) trivial hgst
        -- the end of the loop
        have hj3 : j3 h.next = some im := a3.le _ _ hjl
        have hb3 := r3.blk _ _ _ hj3 hx
        obtain ⟨t3, fn3, ds3, hb3, hrest⟩ := hb3
        rw [him] at hb3
        simp only [hsz1] at hb3
        have s4 := s_endRange (P := C.P) (fr := fr) (tmps := tmps) (k := k) (ds := ⟨.collected w.heap.size, #[]⟩ :: ds) (cs := cs) (w := w3) hb3 hb
        obtain ⟨a4, r4⟩ := kill_block r3 hj3 hx
        obtain ⟨w4, hw4⟩ : ∃ w4 : World, w4 = World.put w3 (w.heap.size + 1) (.loop { state := .exhausted, pending := x.pending, fn := fn3, tmps := t3, params := ⟨x.params⟩, assign := x.assign, body := x.body, defers := ds3 }) := ⟨_, rfl⟩
        rw [← hw4] at s4
        have hlt3 : w.heap.size + 1 < w3.heap.size := (Array.getElem?_eq_some_iff.1 hb3).1
        have hnh : ¬ Held j3 (h2.set h.next .dead) (w.heap.size + 1) := by
          rintro ⟨a, i', y, h1, h2', h3, h4⟩
          rw [H.get_set] at h2'
          by_cases e' : h.next = a
          · rw [if_pos e'] at h2'; cases h2'; cases h3
          · rw [if_neg e'] at h2'
            exact e' (r3.inj _ _ _ _ _ _ hj3 h1 hx h2' rfl h3 (by rw [him]; simp only [hsz1]; exact h4.symm))
        have hg4 : ∀ q, w4.heap[q]? = if w.heap.size + 1 = q then some (.loop { state := .exhausted, pending := x.pending, fn := fn3, tmps := t3, params := ⟨x.params⟩, assign := x.assign, body := x.body, defers := ds3 }) else w3.heap[q]? := fun q => by
          rw [hw4, put_get hlt3]
        have hsz4 : w4.heap.size = w3.heap.size := by rw [hw4]; simp [World.put]
        have r5 : Rel C j3 (h2.set h.next .dead) w4 := by
          refine ⟨fun a i b q1 q2 => ?_, r4.inj, r4.lt, r4.glob, r4.rom⟩
          refine (r4.blk a i b q1 q2).same fun hd => ?_
          rw [H.get_set] at q2
          by_cases e5 : h.next = a
          · rw [if_pos e5] at q2; cases q2; exact absurd rfl hd
          · rw [if_neg e5] at q2
            have hap := apart_of r3 hj3 hx rfl q1 q2 hd e5
            rw [him] at hap
            simp only [hsz1] at hap
            rw [hg4, if_neg hap]
        have a24 := hadv2.trans (a3.trans a4)
        have a5 : Adv j h w j3 (h2.set h.next .dead) w4 := by
          refine ⟨a24.le, a24.new, a24.nx, by rw [hsz4]; exact a24.sz, a24.held, fun b hb hn' => ?_, a24.abs, by rw [hw4]; exact a24.os, by rw [hw4]; exact a24.out, by rw [hw4]; exact a24.tape, a24.rom⟩
          rw [hg4, if_neg (by omega)]
          exact a24.keep b hb hn'
        have hmark : w4.heap[w.heap.size]? = some (.deferred (some [])) ∧ ¬ Held j3 (h2.set h.next .dead) w.heap.size := by
          have hh1 : w.heap.size < w1.heap.size := by omega
          have ar := a2.trans (a3.trans a4)
          refine ⟨?_, fun hh => n1 (ar.held _ hh1 hh)⟩
          rw [hg4, if_neg (by omega), ar.keep _ hh1 n1, hw1]
          simp
        refine ⟨j3, w4, ⟨.collected w.heap.size, #[]⟩ :: ds, a5, r5, he.le a24.le, ⟨[w.heap.size], rfl, by simp, ?_⟩, s3.trans (.head ?_ (.refl _ _))⟩
        · intro q hq
          rw [List.mem_singleton] at hq; subst hq
          exact ⟨Nat.le_refl _, hmark⟩
        · exact s4
      · cases ev
    · cases ev
  · cases ev
end
end Go.Mir

/- Code. -/
namespace Go.Mir

section
variable {C : Ctx} {r : R}

theorem code_sim (hc : CtxOk C) (hs : Sound C r) : ∀ (c : Code) (e : Env) (h : H) (out : Out) (e' : Env) (h' : H), codeRun C r c e h = some (out, e', h') → okC C c = true → h.next ≤ h'.next ∧ CodeSim C c e h out e' h'
  | .skip, e, h, out, e', h', ev, hok => by
    simp only [codeRun, Option.some.injEq, Prod.mk.injEq] at ev
    obtain ⟨rfl, rfl, rfl⟩ := ev
    exact ⟨Nat.le_refl _, fun j w fr tmps k ds cs hr he hf hp => ⟨j, w, tmps, ds, Adv.refl _ _ _, hr, he, Marks.refl _ _ _ _ _, fun _ => rfl, .one s_skip⟩⟩
  | .label l, e, h, out, e', h', ev, hok => by
    simp only [codeRun, Option.some.injEq, Prod.mk.injEq] at ev
    obtain ⟨rfl, rfl, rfl⟩ := ev
    exact ⟨Nat.le_refl _, fun j w fr tmps k ds cs hr he hf hp => ⟨j, w, tmps, ds, Adv.refl _ _ _, hr, he, Marks.refl _ _ _ _ _, fun _ => rfl, .one s_label⟩⟩
  | .region id ops draw, e, h, out, e', h', ev, hok => by
    simp only [codeRun] at ev
    split at ev
    · rename_i e1 h1 hev
      simp only [Option.some.injEq, Prod.mk.injEq] at ev
      obtain ⟨rfl, rfl, rfl⟩ := ev
      exact region_sim hc hs hok hev
    · cases ev
  | .seq a b, e, h, out, e', h', ev, hok => by
    simp only [okC, Bool.and_eq_true] at hok
    simp only [codeRun] at ev
    split at ev
    · rename_i e1 h1 hev
      obtain ⟨n1, p1⟩ := code_sim hc hs a _ _ _ _ _ hev hok.1
      obtain ⟨n2, p2⟩ := code_sim hc hs b _ _ _ _ _ ev hok.2
      refine ⟨Nat.le_trans n1 n2, fun j w fr tmps k ds cs hr he hf hp => ?_⟩
      have hpa : fr.roundOf = none ∨ plainC a = true := hp.imp id fun h => by simp only [plainC, Bool.and_eq_true] at h; exact h.1
      have hpb : fr.roundOf = none ∨ plainC b = true := hp.imp id fun h => by simp only [plainC, Bool.and_eq_true] at h; exact h.2
      obtain ⟨j1, w1, t1, d1, a1, r1, e1, m1, q1, g1⟩ := p1 j w fr tmps (.code b :: k) ds cs hr he (hf.left n2) hpa
      obtain ⟨j2, w2, t2, d2, a2, r2, e2, m2, q2, g2⟩ := p2 j1 w1 fr t1 k d1 cs r1 e1 (hf.right a1) hpb
      refine ⟨j2, w2, t2, d2, a1.trans a2, r2, e2, m1.trans a1.sz a2 m2, fun h => ?_, .head s_seq (.steps g1 g2)⟩
      simp only [plainC, Bool.and_eq_true] at h
      rw [q2 h.2, q1 h.1]
    · rename_i hne
      obtain ⟨n1, p1⟩ := code_sim hc hs a _ _ _ _ _ ev hok.1
      refine ⟨n1, fun j w fr tmps k ds cs hr he hf hp => ?_⟩
      have hpa : fr.roundOf = none ∨ plainC a = true := hp.imp id fun h => by simp only [plainC, Bool.and_eq_true] at h; exact h.1
      obtain ⟨j1, w1, t1, d1, a1, r1, e1, m1, q1, g1⟩ := p1 j w fr tmps (.code b :: k) ds cs hr he hf hpa
      refine ⟨j1, w1, t1, d1, a1, r1, e1, m1, fun h => ?_, .head s_seq (Goes.out (k := .code b :: k) (fun e => hne _ _ (by rw [ev, e])) (fun id _ => rfl) g1)⟩
      simp only [plainC, Bool.and_eq_true] at h
      exact q1 h.1
  | .cond x a b, e, h, out, e', h', ev, hok => by
    simp only [okC, Bool.and_eq_true] at hok
    simp only [codeRun] at ev
    split at ev
    · rename_i t ht
      have hcond : ∀ {j : J} {w : World} {fr : Frame} {tmps : Array Value} {k : List Item} {ds : List Deferred} {cs : List Frame}, Rel C j h w → EnvRel j e tmps → step C.P (lone (At fr tmps (.code (.cond x a b) :: k) ds) cs w) = .next (lone (At fr tmps (.code (if t then a else b) :: k) ds) cs w) := fun {j w fr tmps k ds cs} hr he => s_cond (by
        rw [(eval_ok hr he fr x hok.1.1).1, ht, ren_bool])
      cases t with
      | true =>
        rw [cond_true] at ev
        obtain ⟨n1, p1⟩ := code_sim hc hs a _ _ _ _ _ ev hok.1.2
        refine ⟨n1, fun j w fr tmps k ds cs hr he hf hp => ?_⟩
        obtain ⟨j1, w1, t1, d1, a1, r1, e1, m1, q1, g1⟩ := p1 j w fr tmps k ds cs hr he hf (hp.imp id fun h => by simp only [plainC, Bool.and_eq_true] at h; exact h.1)
        exact ⟨j1, w1, t1, d1, a1, r1, e1, m1, fun h => q1 (by simp only [plainC, Bool.and_eq_true] at h; exact h.1), .head (hcond hr he) g1⟩
      | false =>
        rw [cond_false] at ev
        obtain ⟨n1, p1⟩ := code_sim hc hs b _ _ _ _ _ ev hok.2
        refine ⟨n1, fun j w fr tmps k ds cs hr he hf hp => ?_⟩
        obtain ⟨j1, w1, t1, d1, a1, r1, e1, m1, q1, g1⟩ := p1 j w fr tmps k ds cs hr he hf (hp.imp id fun h => by simp only [plainC, Bool.and_eq_true] at h; exact h.2)
        exact ⟨j1, w1, t1, d1, a1, r1, e1, m1, fun h => q1 (by simp only [plainC, Bool.and_eq_true] at h; exact h.2), .head (hcond hr he) g1⟩
    · cases ev
  | .block id b, e, h, out, e', h', ev, hok => by
    simp only [codeRun] at ev
    split at ev
    · rename_i i e1 h1 hev
      obtain ⟨n1, p1⟩ := code_sim hc hs b _ _ _ _ _ hev hok
      cases hi : Nat.beq i id with
      | true =>
        rw [hi, cond_true] at ev
        simp only [Option.some.injEq, Prod.mk.injEq] at ev
        obtain ⟨rfl, rfl, rfl⟩ := ev
        have := Nat.eq_of_beq_eq_true hi; subst this
        refine ⟨n1, fun j w fr tmps k ds cs hr he hf hp => ?_⟩
        obtain ⟨j1, w1, t1, d1, a1, r1, e1, m1, q1, k1, g1, g2⟩ := p1 j w fr tmps (.inBlock i :: k) ds cs hr he hf hp
        refine ⟨j1, w1, t1, d1, a1, r1, e1, m1, q1, .head s_block (g1.trans (.one (s_exit (k' := k) ?_)))⟩
        rw [g2]; simp [exitTo]
      | false =>
        rw [hi, cond_false] at ev
        simp only [Option.some.injEq, Prod.mk.injEq] at ev
        obtain ⟨rfl, rfl, rfl⟩ := ev
        refine ⟨n1, fun j w fr tmps k ds cs hr he hf hp => ?_⟩
        obtain ⟨j1, w1, t1, d1, a1, r1, e1, m1, q1, g1⟩ := p1 j w fr tmps (.inBlock id :: k) ds cs hr he hf hp
        refine ⟨j1, w1, t1, d1, a1, r1, e1, m1, q1, .head s_block (g1.out (by simp) fun i' hi' => ?_)⟩
        cases hi'
        have : ¬ (id == i) = true := fun e => by
          rw [beq_iff_eq] at e; subst e; rw [Nat.beq_refl] at hi; cases hi
        simp [exitTo, this]
    · rename_i hne
      obtain ⟨n1, p1⟩ := code_sim hc hs b _ _ _ _ _ ev hok
      refine ⟨n1, fun j w fr tmps k ds cs hr he hf hp => ?_⟩
      obtain ⟨j1, w1, t1, d1, a1, r1, e1, m1, q1, g1⟩ := p1 j w fr tmps (.inBlock id :: k) ds cs hr he hf hp
      refine ⟨j1, w1, t1, d1, a1, r1, e1, m1, q1, .head s_block ?_⟩
      cases out with
      | normal => exact Steps.trans g1 (.one s_inBlock)
      | exit i => exact absurd ev (hne i _ _)
      | ret => exact g1
  | .loop b, e, h, out, e', h', ev, hok => by
    simp only [codeRun] at ev
    split at ev
    · rename_i e1 h1 hev
      obtain ⟨n1, p1⟩ := code_sim hc hs b _ _ _ _ _ hev hok
      obtain ⟨n2, p2⟩ := hs.code _ _ _ _ _ _ ev hok
      refine ⟨Nat.le_trans n1 n2, fun j w fr tmps k ds cs hr he hf hp => ?_⟩
      obtain ⟨j1, w1, t1, d1, a1, r1, e1, m1, q1, g1⟩ := p1 j w fr tmps (.inLoop b :: k) ds cs hr he (hf.left n2) hp
      obtain ⟨j2, w2, t2, d2, a2, r2, e2, m2, q2, g2⟩ := p2 j1 w1 fr t1 k d1 cs r1 e1 (hf.right a1) hp
      refine ⟨j2, w2, t2, d2, a1.trans a2, r2, e2, m1.trans a1.sz a2 m2, fun h => ?_, .head s_loop (.steps (Steps.trans g1 (.one s_inLoop)) (Goes.tail (x := .code (.loop b)) (k := k) (t0 := t1) (ds0 := d1) (w0 := w1) rfl ⟨fun _ h => (by cases h), fun h => (by cases h)⟩ s_loop g2))⟩
      rw [q2 h, q1 h]
    · rename_i hne
      obtain ⟨n1, p1⟩ := code_sim hc hs b _ _ _ _ _ ev hok
      refine ⟨n1, fun j w fr tmps k ds cs hr he hf hp => ?_⟩
      obtain ⟨j1, w1, t1, d1, a1, r1, e1, m1, q1, g1⟩ := p1 j w fr tmps (.inLoop b :: k) ds cs hr he hf hp
      exact ⟨j1, w1, t1, d1, a1, r1, e1, m1, q1, .head s_loop (Goes.out (k := .inLoop b :: k) (fun e => hne _ _ (by rw [ev, e])) (fun id _ => rfl) g1)⟩
  | .scope b, e, h, out, e', h', ev, hok => by
    simp only [codeRun] at ev
    obtain ⟨n1, p1⟩ := code_sim hc hs b _ _ _ _ _ ev hok
    refine ⟨n1, fun j w fr tmps k ds cs hr he hf hp => ?_⟩
    obtain ⟨j1, w1, t1, d1, a1, r1, e1, m1, q1, g1⟩ := p1 j w fr tmps (.inScope b :: k) ds cs hr he hf hp
    refine ⟨j1, w1, t1, d1, a1, r1, e1, m1, q1, .head s_scope ?_⟩
    cases out with
    | normal => exact Steps.trans g1 (.one s_inScope)
    | exit i => exact g1.out (by simp) fun id _ => rfl
    | ret => exact g1
  | .exit id, e, h, out, e', h', ev, hok => by
    simp only [codeRun, Option.some.injEq, Prod.mk.injEq] at ev
    obtain ⟨rfl, rfl, rfl⟩ := ev
    exact ⟨Nat.le_refl _, fun j w fr tmps k ds cs hr he hf hp => ⟨j, w, tmps, ds, Adv.refl _ _ _, hr, he, Marks.refl _ _ _ _ _, fun _ => rfl, k, .refl _ _, rfl⟩⟩
  | .ret, e, h, out, e', h', ev, hok => by
    simp only [codeRun, Option.some.injEq, Prod.mk.injEq] at ev
    obtain ⟨rfl, rfl, rfl⟩ := ev
    exact ⟨Nat.le_refl _, fun j w fr tmps k ds cs hr he hf hp => ⟨j, w, tmps, ds, Adv.refl _ _ _, hr, he, Marks.refl _ _ _ _ _, fun _ => rfl, k, .refl _ _⟩⟩
  | .rangeFunc f ps assign body, e, h, out, e', h', ev, hok => by
    simp only [codeRun] at ev
    cases hev : rangeRun r f ps.toList assign body e h with
    | none => rw [hev] at ev; cases ev
    | some p =>
      obtain ⟨pend, h1⟩ := p
      rw [hev] at ev
      obtain ⟨n1, p1⟩ := range_sim hc hs hok hev
      have hpl : ∀ fr : Frame, (fr.roundOf = none ∨ plainC (.rangeFunc f ps assign body) = true) → fr.roundOf = none := fun fr h => h.elim id fun h => by simp [plainC] at h
      cases pend with
      | none =>
        simp only [Option.some.injEq, Prod.mk.injEq] at ev
        obtain ⟨rfl, rfl, rfl⟩ := ev
        refine ⟨n1, fun j w fr tmps k ds cs hr he hf hp => ?_⟩
        obtain ⟨j1, w1, d1, a1, r1, e1, m1, g1⟩ := p1 j w fr tmps k ds cs hr he hf (hpl fr hp)
        exact ⟨j1, w1, tmps, d1, a1, r1, e1, m1, fun h => by simp [plainC] at h, g1⟩
      | some c =>
        cases c with
        | ret =>
          simp only [Option.some.injEq, Prod.mk.injEq] at ev
          obtain ⟨rfl, rfl, rfl⟩ := ev
          refine ⟨n1, fun j w fr tmps k ds cs hr he hf hp => ?_⟩
          obtain ⟨j1, w1, d1, a1, r1, e1, m1, g1⟩ := p1 j w fr tmps k ds cs hr he hf (hpl fr hp)
          exact ⟨j1, w1, tmps, d1, a1, r1, e1, m1, fun h => by simp [plainC] at h, k, g1⟩
        | exit id =>
          simp only [Option.some.injEq, Prod.mk.injEq] at ev
          obtain ⟨rfl, rfl, rfl⟩ := ev
          refine ⟨n1, fun j w fr tmps k ds cs hr he hf hp => ?_⟩
          obtain ⟨j1, w1, d1, a1, r1, e1, m1, g1⟩ := p1 j w fr tmps k ds cs hr he hf (hpl fr hp)
          exact ⟨j1, w1, tmps, d1, a1, r1, e1, m1, fun h => by simp [plainC] at h, k, g1, rfl⟩
        | _ => cases ev
  | .goto l, e, h, out, e', h', ev, hok => by simp [codeRun] at ev
  | .refuse s, e, h, out, e', h', ev, hok => by simp [codeRun] at ev
end
end Go.Mir

/- Calls of functions. -/
namespace Go.Mir

theorem fill_n : ∀ (args : List Value) (e : Env) (i : Nat), (Env.fill e i args).n = e.n
  | [], e, i => rfl
  | v :: vs, e, i => by rw [Env.fill, fill_n vs, Env.n_set]

theorem fill_get : ∀ (args : List Value) (e : Env) (i k : Nat), i + args.length ≤ e.n → (Env.fill e i args).get k = if i ≤ k then (match args[k - i]? with | some v => v | none => e.get k) else e.get k
  | [], e, i, k, _ => by simp [Env.fill]
  | v :: vs, e, i, k, h => by
    rw [Env.fill, fill_get vs (e.set i v) (i + 1) k (by rw [Env.n_set]; simp only [List.length_cons] at h; omega), Env.get_set]
    simp only [List.length_cons] at h
    by_cases h1 : i + 1 ≤ k
    · have h3 : k - i = (k - (i + 1)) + 1 := by omega
      have h4 : ¬ (i = k ∧ i < e.n) := by omega
      simp only [if_pos h1, if_neg h4, if_pos (show i ≤ k by omega), h3, List.getElem?_cons_succ]
    · rw [if_neg h1]
      by_cases h2 : i ≤ k
      · have : k = i := by omega
        subst this
        rw [if_pos h2, if_pos ⟨rfl, by omega⟩]; simp
      · rw [if_neg h2, if_neg (fun hh => by omega)]

theorem env_enter {j : J} {args : List Value} (n : Nat) (ha : ∀ a ∈ args, Wf j a) : EnvRel j (Env.fill ⟨max n args.length, .nil⟩ 0 args) ((⟨args.map (ren j)⟩ : Array Value) ++ Array.replicate (n - args.length) undef) where
  size := by rw [fill_n]; simp; omega
  get := fun t => by
    rw [fill_get _ _ _ _ (by simp only; omega), if_pos (Nat.zero_le _), Nat.sub_zero, Array.getD_eq_getD_getElem?]
    cases h : args[t]? with
    | none =>
      have hl : args.length ≤ t := List.getElem?_eq_none_iff.1 h
      have he : (Env.get ⟨max n args.length, .nil⟩ t) = undef := by
        simp [Env.get, T.get_nil]
      simp only [he]
      refine ⟨?_, (undef_ren j).2⟩
      rw [(undef_ren j).1, Array.getElem?_append_right (by simpa using hl), Array.getElem?_replicate]
      split <;> rfl
    | some v =>
      have hl : t < args.length := (List.getElem?_eq_some_iff.1 h).1
      simp only
      refine ⟨?_, ha v (List.mem_of_getElem? h)⟩
      rw [Array.getElem?_append_left (by simpa using hl)]
      simp [h]

section
variable {C : Ctx} {r : R}

/-- What is left of a loop's mark. -/
theorem s_mark {P : Program} {fr : Frame} {q : Nat} {ds : List Deferred} {cs : List Frame} {w : World} (hm : fr.mode = .returning) (hq : w.heap[q]? = some (.deferred (some []))) :
    step P (lone { fr with defers := ⟨.collected q, #[]⟩ :: ds } cs w) = .next (lone { fr with defers := ds } cs (World.put w q (.deferred none))) := by
  have h2 : (Instr.takeDeferred q).run P w = .ok [] (World.put w q (.deferred none)) := by
    simp only [Instr.takeDeferred, Sem.run_bind, run_getObj hq (by intros; simp), Result.andThen_ok, Sem.run_pure, run_setObj hq (by intros; simp)]
  refine step_lone_go ?_
  simp only [stepG, hm, unwind, Sem.runT_eq, h2, GStep.bare_after]
  rfl

theorem marks_off {P : Program} {j : J} {h : H} {fr : Frame} {cs : List Frame} (hm : fr.mode = .returning) : ∀ (rs : List Nat) (w : World), Rel C j h w → rs.Nodup → (∀ q ∈ rs, w.heap[q]? = some (.deferred (some [])) ∧ ¬ Held j h q) →
    ∃ w', Steps P (lone { fr with defers := rs.map (fun q => (⟨.collected q, #[]⟩ : Deferred)) } cs w) (lone { fr with defers := [] } cs w') ∧ Rel C j h w' ∧ w'.heap.size = w.heap.size ∧ (∀ q, q ∉ rs → w'.heap[q]? = w.heap[q]?) ∧ w'.os = w.os ∧ w'.output = w.output ∧ w'.tape = w.tape
  | [], w, hr, _, _ => ⟨w, .refl _ _, hr, rfl, fun _ _ => rfl, rfl, rfl, rfl⟩
  | q :: rs, w, hr, hn, hq => by
    rw [List.nodup_cons] at hn
    have h1 := hq q (List.mem_cons_self ..)
    have hlt : q < w.heap.size := (Array.getElem?_eq_some_iff.1 h1.1).1
    have hg : ∀ x, (World.put w q (.deferred none)).heap[x]? = if q = x then some (.deferred none) else w.heap[x]? := put_get hlt
    have hr2 : Rel C j h (World.put w q (.deferred none)) := by
      refine ⟨fun a i b q1 q2 => ?_, hr.inj, hr.lt, hr.glob, hr.rom⟩
      have hb := hr.blk a i b q1 q2
      refine hb.same fun hd => ?_
      rw [hg, if_neg]
      intro e
      cases b with
      | dead => exact hd rfl
      | rom c =>
        obtain ⟨c', el, fz, ho, _⟩ := hb
        rw [← e, h1.1] at ho; cases ho
      | _ => exact h1.2 ⟨a, i, _, q1, q2, rfl, e.symm⟩
    obtain ⟨w', s, r', z, k, o1, o2, o3⟩ := marks_off (fr := fr) (cs := cs) hm rs (World.put w q (.deferred none)) hr2 hn.2 (fun x hx => by
      have := hq x (List.mem_cons_of_mem _ hx)
      rw [hg, if_neg (fun e : q = x => hn.1 (by rw [e]; exact hx))]; exact this)
    refine ⟨w', .head (s_mark hm h1.1) s, r', by rw [z]; simp [World.put], fun x hx => ?_, o1, o2, o3⟩
    rw [k x (fun h => hx (List.mem_cons_of_mem _ h)), hg, if_neg (fun e => hx (by rw [← e]; exact List.mem_cons_self ..))]

theorem resultOf_ok (hc : CtxOk C) {j : J} {h : H} {w : World} (hr : Rel C j h w) {e : Env} {tmps : Array Value} (he : EnvRel j e tmps) {x : ResultVar} {v : Value} (ev : resultOf C h e x = some v) :
    (match x with | .tmp t => (pure (tmps.getD t undef) : Sem Value) | .cell a t => do loadVar t (← asAddr (tmps.getD a undef))).run C.P w = .ok (ren j v) w ∧ Wf j v := by
  cases x with
  | tmp t =>
    simp only [resultOf, Option.some.injEq] at ev
    subst ev
    exact ⟨by rw [Sem.run_pure, (he.get t).1], (he.get t).2⟩
  | cell a t =>
    simp only [resultOf] at ev
    split at ev
    · rename_i ad i h1 h2
      have hp := he.get a
      rw [h1] at hp
      have := run_loadVar hc h2 hr (a := ad) (by have := hp.2; simpa [Wf] using this) ev
      refine ⟨?_, this.2⟩
      simp only [hp.1, ren_ptr, asAddr, Sem.run_bind, Sem.run_pure, Result.andThen_ok]
      exact this.1
    · cases ev

def rr (tmps : Array Value) : ResultVar → Sem Value
  | .tmp t => pure (tmps.getD t undef)
  | .cell a t => do loadVar t (← asAddr (tmps.getD a undef))

theorem results_rr (fn : Func) (tmps : Array Value) : results fn tmps = (do let vs ← fn.results.mapM (rr tmps); pure (if h : vs.size = 1 then vs[0] else .tuple vs)) := by
  unfold results
  have : (rr tmps) = (fun x => match x with | .tmp t => (pure (tmps.getD t undef) : Sem Value) | .cell a t => do loadVar t (← asAddr (tmps.getD a undef))) := by
    funext x; cases x <;> rfl
  rw [this]
  rfl

theorem resultsOf_ok (hc : CtxOk C) {j : J} {h : H} {w : World} (hr : Rel C j h w) {e : Env} {tmps : Array Value} (he : EnvRel j e tmps) : ∀ (xs : List ResultVar) (vs : List Value), resultsOf C h e xs = some vs →
    (xs.mapM (rr tmps)).run C.P w = .ok (vs.map (ren j)) w ∧ ∀ v ∈ vs, Wf j v
  | [], vs, ev => by
    simp only [resultsOf, Option.some.injEq] at ev
    subst ev
    exact ⟨by simp, by simp⟩
  | x :: xs, vs, ev => by
    simp only [resultsOf] at ev
    split at ev
    · rename_i v vs' h1 h2
      simp only [Option.some.injEq] at ev
      subst ev
      have p1 := resultOf_ok hc hr he h1
      have p1' : (rr tmps x).run C.P w = .ok (ren j v) w := by cases x <;> exact p1.1
      have p2 := resultsOf_ok hc hr he xs vs' h2
      refine ⟨?_, fun y hy => ?_⟩
      · rw [List.mapM_cons]
        simp only [Sem.run_bind, p1', p2.1, Result.andThen_ok, Sem.run_pure, List.map_cons]
      · rcases List.mem_cons.1 hy with rfl | hy
        · exact p1.2
        · exact p2.2 y hy
    · cases ev

theorem results_ok (hc : CtxOk C) {j : J} {h : H} {w : World} (hr : Rel C j h w) {e : Env} {tmps : Array Value} (he : EnvRel j e tmps) {fn : Func} {vs : List Value} (ev : resultsOf C h e fn.results.toList = some vs) :
    (results fn tmps).run C.P w = .ok (ren j (oneOf vs)) w ∧ Wf j (oneOf vs) := by
  obtain ⟨p1, p2⟩ := resultsOf_ok hc hr he _ _ ev
  have hz : (results fn tmps).run C.P w = .ok (if h : (vs.map (ren j)).toArray.size = 1 then (vs.map (ren j)).toArray[0] else .tuple (vs.map (ren j)).toArray) w := by
    rw [results_rr, Array.mapM_eq_mapM_toList, ← bind_pure_comp]
    simp only [Sem.run_bind, p1, Result.andThen_ok, Sem.run_pure]
  rw [hz]
  match vs, p2 with
  | [], _ => exact ⟨rfl, (undef_ren j).2⟩
  | [v], p2 => exact ⟨rfl, p2 v (by simp)⟩
  | v :: v' :: vs', p2 =>
    refine ⟨?_, ?_⟩
    · have h1 : ¬ ((v :: v' :: vs').map (ren j)).toArray.size = 1 := by simp
      rw [dif_neg h1]
      show Result.ok _ _ = .ok (ren j (.tuple ⟨v :: v' :: vs'⟩)) w
      simp only [ren, rens_eq]
    · show Wf j (.tuple ⟨v :: v' :: vs'⟩)
      simp only [Wf]
      exact (Wfs_iff j _).2 p2
end
end Go.Mir

/- The evaluator is sound. -/
namespace Go.Mir

section
variable {C : Ctx} {r : R}

theorem returning_step {P : Program} {fr : Frame} {t : Array Value} {k : List Item} {ds : List Deferred} {cs : List Frame} {w : World} {out : Out} {m : Machine} (hfr : fr.roundOf = none) (hn : out = .normal ∨ out = .ret) (hk : k = []) (g : Goes P fr m k cs out t ds w) :
    ∃ k1, Steps P m (lone { At fr t k1 ds with mode := .returning } cs w) := by
  subst hk
  rcases hn with rfl | rfl
  · exact ⟨[], Steps.trans g (.one (s_end hfr))⟩
  · obtain ⟨k1, g⟩ := g
    exact ⟨_, g.trans (.one (s_ret hfr))⟩

theorem rom_at {j : J} {h : H} {w : World} (hr : Rel C j h w) (hng : 0 < C.ng) {rom : List Value} (hq : romIs h rom = true) (hl : ∀ v ∈ rom, lit v = true) : RomAt w rom := by
  cases rom with
  | nil => exact .inl rfl
  | cons a as =>
    refine .inr ?_
    simp only [romIs] at hq
    split at hq
    · rename_i c hc
      have hs := sames_eq _ _ hq
      subst hs
      obtain ⟨i, hi, hb, h0⟩ := hr.glob 0 hng
      obtain ⟨c', el, fz, ho, _, _, _, hk⟩ := hr.blk 0 i _ hi hc
      rw [hb] at ho
      refine ⟨c', el, fz, ho, fun k v hv => ?_⟩
      have := (hk k v hv).1
      rw [h0, Nat.zero_add, (lit_ren j v (hl v (List.mem_of_getElem? hv))).1] at this
      exact this
    · cases hq

/-- A world in which all that was there stands as it did. -/
theorem world_on {j : J} {h : H} {w w' : World} (hr : Rel C j h w) (hz : w.heap.size ≤ w'.heap.size) (hk : ∀ b, b < w.heap.size → w'.heap[b]? = w.heap[b]?) (o1 : w'.os = w.os) (o2 : w'.output = w.output) (o3 : w'.tape = w.tape) : Adv j h w j h w' ∧ Rel C j h w' := by
  refine ⟨⟨fun _ _ q => q, fun a i q q' => by simp [q] at q', Nat.le_refl _, hz, fun _ _ q => q, fun b hb _ => hk b hb, fun _ _ _ => rfl, o1, o2, o3, fun _ _ _ q1 q2 => ⟨q1, q2⟩⟩, ⟨fun a i b q1 q2 => ?_, hr.inj, hr.lt, hr.glob, hr.rom⟩⟩
  have hb := hr.blk a i b q1 q2
  refine hb.same fun hd => ?_
  apply hk
  cases b with
  | dead => exact absurd rfl hd
  | cells c z => obtain ⟨c', el, fz, ho, _⟩ := hb; exact (Array.getElem?_eq_some_iff.1 ho).1
  | rom c => obtain ⟨c', el, fz, ho, _⟩ := hb; exact (Array.getElem?_eq_some_iff.1 ho).1
  | map es cl => exact (Array.getElem?_eq_some_iff.1 hb.1).1
  | iter s p => exact (Array.getElem?_eq_some_iff.1 hb.1).1
  | loop l => obtain ⟨t, f, ds, ho, _⟩ := hb; exact (Array.getElem?_eq_some_iff.1 ho).1

theorem call_sim (hc : CtxOk C) (hs : Sound C r) {g : FuncId} {args : List Value} {h h' : H} {v : Value} (ev : callRun C r g args h = some (v, h')) : CallSim C g args h v h' := by
  intro j w hr ha hf
  unfold callRun at ev
  cases hg : C.fn.get g with
  | some fn =>
    rw [hg] at ev
    simp only at ev
    obtain ⟨f1, f2, f3⟩ := hc.fn g fn hg
    cases hb : fn.body with
    | none => rw [hb] at ev; cases ev
    | some c =>
      rw [hb] at ev
      simp only at ev
      have key : ∃ out e, codeRun C r c (Env.fill ⟨max fn.ntmps args.length, .nil⟩ 0 args) h = some (out, e, h') ∧ (out = .normal ∨ out = .ret) ∧ ∃ vs, resultsOf C h' e fn.results.toList = some vs ∧ v = oneOf vs := by
        split at ev
        · rename_i e h1 hev
          split at ev
          · rename_i vs hvs
            simp only [Option.some.injEq, Prod.mk.injEq] at ev
            obtain ⟨rfl, rfl⟩ := ev
            exact ⟨_, e, hev, .inl rfl, vs, hvs, rfl⟩
          · cases ev
        · rename_i e h1 hev
          split at ev
          · rename_i vs hvs
            simp only [Option.some.injEq, Prod.mk.injEq] at ev
            obtain ⟨rfl, rfl⟩ := ev
            exact ⟨_, e, hev, .inr rfl, vs, hvs, rfl⟩
          · cases ev
        · cases ev
      obtain ⟨out, e, hev, hout, vs, hvs, rfl⟩ := key
      obtain ⟨n1, p1⟩ := code_sim hc hs c _ _ _ _ _ hev (f3 c hb)
      refine .inr (.inl ⟨g, ⟨args.map (ren j)⟩, ?_, fun cs => ?_⟩)
      · simp only [callFunc, Sem.run_bind, run_program, Result.andThen_ok, f1, f2, hb, Option.isNone_some, Bool.false_eq_true, if_false, Sem.run_pure]
      · obtain ⟨fr, hfr⟩ : ∃ fr, fr = Frame.enter C.P g ⟨args.map (ren j)⟩ .normal := ⟨_, rfl⟩
        have hfrd : fr = { fn := g, tmps := (⟨args.map (ren j)⟩ : Array Value) ++ Array.replicate (fn.ntmps - args.length) undef, todo := [.code c], defers := [], mode := .run, kind := .normal } := by
          rw [hfr]; simp only [Frame.enter, f1, Option.map_some, Option.getD_some, Option.bind_some, hb]
          simp
        have hat : fr = At fr ((⟨args.map (ren j)⟩ : Array Value) ++ Array.replicate (fn.ntmps - args.length) undef) [.code c] [] := by rw [hfrd]; rfl
        have hro : fr.roundOf = none := by rw [hfrd]
        have hki : fr.kind = .normal := by rw [hfrd]
        have hfn : fr.fn = g := by rw [hfrd]
        obtain ⟨j1, w1, t1, d1, a1, r1, e1, ⟨rs, m1, m2, m3⟩, _, g1⟩ := p1 j w fr _ [] [] cs hr (env_enter fn.ntmps ha) hf (.inl hro)
        rw [List.append_nil] at m1
        subst m1
        obtain ⟨k1, g2⟩ := returning_step hro hout rfl g1
        obtain ⟨w2, s2, r2, z2, k2, o1, o2, o3⟩ := marks_off (P := C.P) (fr := { At fr t1 k1 (rs.map (fun r => (⟨.collected r, #[]⟩ : Deferred))) with mode := .returning }) (cs := cs) rfl rs w1 r1 m2 (fun q hq => (m3 q hq).2)
        have hres := results_ok hc r2 e1 hvs
        refine ⟨.returned (ren j1 (oneOf vs)), w2, ({ ({ At fr t1 k1 (rs.map (fun r => (⟨.collected r, #[]⟩ : Deferred))) with mode := .returning } : Frame) with defers := [] } : Frame), ⟨j1, rfl, ?_, r2, hres.2⟩, ?_, ?_, ?_⟩
        · refine ⟨a1.le, a1.new, a1.nx, by rw [z2]; exact a1.sz, a1.held, fun b hb hn => ?_, a1.abs, o1.trans a1.os, o2.trans a1.out, o3.trans a1.tape, a1.rom⟩
          rw [k2 b (fun hq => by have := (m3 b hq).1; omega)]
          exact a1.keep b hb hn
        · show Steps C.P _ _
          rw [← hfr, hat]
          exact g2.trans s2
        · exact hfn
        · exact ⟨rfl, rfl, hki, fn, by rw [← hfn] at f1; exact f1, hres.1⟩
  | none =>
    rw [hg] at ev
    simp only at ev
    split at ev
    · rename_i b hx
      simp only [Option.some.injEq, Prod.mk.injEq] at ev
      obtain ⟨rfl, rfl⟩ := ev
      refine .inl ⟨j, w, _, ?_, .inl rfl, Adv.refl _ _ _, hr, by simp [Wf]⟩
      have := hc.bits g hx w b
      simpa [ren] using this
    · rename_i n hx
      simp only [Option.some.injEq, Prod.mk.injEq] at ev
      obtain ⟨rfl, rfl⟩ := ev
      refine .inl ⟨j, w, _, ?_, .inl rfl, Adv.refl _ _ _, hr, by simp [Wf]⟩
      have := hc.frombits g hx w n
      simpa [ren] using this
    · rename_i v0 rom hx
      cases hrom : romIs h rom with
      | false => rw [hrom, cond_false] at ev; cases ev
      | true =>
        rw [hrom, cond_true] at ev
        simp only [Option.some.injEq, Prod.mk.injEq] at ev
        obtain ⟨rfl, rfl⟩ := ev
        obtain ⟨hng, hlit, hlits, hgive⟩ := hc.orc g v0 rom hx
        have hat : RomAt w rom := rom_at hr hng hrom hlits
        obtain ⟨hrun, hcalls⟩ := hgive w hat
        refine .inr (.inl ⟨g, #[], hrun, hcalls.mono fun x w' q => ?_⟩)
        obtain ⟨q1, q2, q3, q4, q5, q6⟩ := q
        obtain ⟨ad, rl⟩ := world_on hr q2 q3 q4 q5 q6
        exact ⟨j, by rw [q1, (lit_ren j v0 hlit).1], ad, rl, (lit_ren j v0 hlit).2⟩
    · cases ev

theorem s_beginRound {P : Program} {fr : Frame} {t : Array Value} {k : List Item} {ds : List Deferred} {cs : List Frame} {w : World} {q : Nat} {x : Loop} (hro : fr.roundOf = some q) (hq : w.heap[q]? = some (.loop x)) (hx : x.state = .ready) :
    step P (lone (At fr t (.beginRound :: k) ds) cs w) = .next (lone (At fr t k ds) cs (World.put w q (.loop { x with state := .busy }))) := by
  have h2 : (do fr.roundOf.elim (stuck "beginRound: no round") Instr.beginRound; pure .skip : Sem Next).run P w = .ok .skip (World.put w q (.loop { x with state := .busy })) := by
    simp only [hro, Option.elim_some, Instr.beginRound, Instr.getLoop, Sem.run_bind, run_getObj hq (by intros; simp), Result.andThen_ok, Sem.run_pure, hx, run_setObj hq (by intros; simp)]
  refine step_lone_go ?_
  simp only [stepG, stepG.exec, At, stepG.apply, Sem.runT_eq, h2, GStep.bare_after, if_true]
  rfl

theorem run_endRound {P : Program} {w : World} {q : Nat} {x : Loop} (jump : Option Code) (hq : w.heap[q]? = some (.loop x)) :
    (Instr.endRound q jump).run P w = .ok (.bool jump.isNone) (World.put w q (.loop { x with state := if jump.isNone then .ready else .done, pending := jump })) := by
  simp only [Instr.endRound, Instr.getLoop, Sem.run_bind, run_getObj hq (by intros; simp), Result.andThen_ok, Sem.run_pure, run_setObj hq (by intros; simp)]

theorem s_leave {P : Program} {fr c : Frame} {t : Array Value} {k1 : List Item} {cs : List Frame} {w : World} {q : Nat} {x : Loop} {out : Out} (hro : fr.roundOf = some q) (hki : fr.kind = .normal) (hq : w.heap[q]? = some (.loop x)) {todo : List Item}
    (ht : match out with | .normal => todo = [] | .exit id => todo = .code (.exit id) :: k1 ∧ exitTo id k1 = none | .ret => todo = .code .ret :: k1) :
    step P (lone (At fr t todo []) (c :: cs) w) = .next (lone (c.finish (.bool (jumpOf out).isNone)) cs (World.put w q (.loop { x with state := (match out with | .normal => .ready | _ => .done), pending := jumpOf out }))) := by
  refine step_lone_go ?_
  cases out with
  | normal =>
    simp only at ht; subst ht
    simp only [stepG, stepG.exec, At, hro, hki, Sem.runT_eq, run_endRound none hq, GStep.bare_after, doReturn]
    rfl
  | exit id =>
    obtain ⟨rfl, h⟩ := ht
    simp only [stepG, stepG.exec, At, hro, hki, Sem.runT_eq, h, Option.elim_none, run_endRound (some (.exit id)) hq, GStep.bare_after, doReturn]
    rfl
  | ret =>
    simp only at ht; subst ht
    simp only [stepG, stepG.exec, At, hro, hki, Sem.runT_eq, run_endRound (some .ret) hq, GStep.bare_after, doReturn]
    rfl

theorem env_zip {j : J} : ∀ (ps : List Tmp) (args : List Value) (e : Env) (tmps : Array Value), EnvRel j e tmps → (∀ a ∈ args, Wf j a) →
    EnvRel j ((ps.zip args).foldl (fun e p => Env.set e p.1 p.2) e) ((ps.zip (args.map (ren j))).foldl (fun (t : Array Value) (p : Tmp × Value) => t.setIfInBounds p.1 p.2) tmps)
  | [], _, e, tmps, he, _ => he
  | p :: ps, [], e, tmps, he, _ => he
  | p :: ps, a :: args, e, tmps, he, ha => by
    simp only [List.zip_cons_cons, List.map_cons, List.foldl_cons]
    exact env_zip ps args _ _ (he.set p (ha a (List.mem_cons_self ..))) fun x hx => ha x (List.mem_cons_of_mem _ hx)

/-- A loop's block is written. -/
theorem set_loop {j : J} {h : H} {w : World} {l : Nat} {i : Img} {x x' : ALoop} (hr : Rel C j h w) (hi : j l = some i) (hg : h.get l = some (.loop x)) (he : x'.env = x.env) (hp : x'.params = x.params) (ha : x'.assign = x.assign) (hb : x'.body = x.body) :
    ∃ y : Loop, w.heap[i.blk]? = some (.loop y) ∧ y.state = x.state ∧ y.pending = x.pending ∧ y.params = ⟨x.params⟩ ∧ y.assign = x.assign ∧ y.body = x.body ∧ EnvRel j x.env y.tmps ∧ okC C x.assign = true ∧ okC C x.body = true ∧ plainC x.assign = true ∧ plainC x.body = true ∧
      Adv j h w j (h.set l (.loop x')) (World.put w i.blk (.loop { y with state := x'.state, pending := x'.pending })) ∧ Rel C j (h.set l (.loop x')) (World.put w i.blk (.loop { y with state := x'.state, pending := x'.pending })) := by
  obtain ⟨tm, fn, ds, h1, h2, h3, h4, h5, h6⟩ := hr.blk _ _ _ hi hg
  have hlt : i.blk < w.heap.size := (Array.getElem?_eq_some_iff.1 h1).1
  obtain ⟨a1, r1⟩ := set_block (w' := World.put w i.blk (.loop { state := x'.state, pending := x'.pending, fn, tmps := tm, params := ⟨x.params⟩, assign := x.assign, body := x.body, defers := ds })) (b' := .loop x') hr hi hg rfl (fun k => put_get hlt k) (by simp [World.put]) rfl rfl rfl
    (by refine ⟨tm, fn, ds, ?_, ?_, ?_, ?_, ?_, ?_⟩
        · rw [hp, ha, hb]
        · rw [he]; exact h2
        · rw [ha]; exact h3
        · rw [hb]; exact h4
        · rw [ha]; exact h5
        · rw [hb]; exact h6)
  exact ⟨_, h1, rfl, rfl, rfl, rfl, rfl, h2, h3, h4, h5, h6, a1, r1⟩
end
end Go.Mir

/- The evaluator is sound: the rounds of a loop over a function; all of it. -/
namespace Go.Mir

section
variable {C : Ctx} {r : R}

theorem zip_fold (f : Array Value → Tmp → Value → Array Value) (ps : List Tmp) (as : List Value) (t : Array Value) :
    ((⟨ps⟩ : Array Tmp).zip ⟨as⟩).foldl (fun t (p : Tmp × Value) => f t p.1 p.2) t = (ps.zip as).foldl (fun t p => f t p.1 p.2) t := by
  rw [← Array.foldl_toList, Array.toList_zip]

theorem yield_sim (hc : CtxOk C) (hs : Sound C r) {l : Nat} {args : List Value} {h h' : H} {v : Value} (ev : yieldRun C r l args h = some (v, h')) : YieldSim C l args h v h' := by
  intro j w hr hl ha hf
  unfold yieldRun at ev
  split at ev
  · rename_i x hx
    cases hlen : Nat.beq args.length x.params.length with
    | false => rw [hlen] at ev; cases ev
    | true =>
      rw [hlen, cond_true] at ev
      have hlen := Nat.eq_of_beq_eq_true hlen
      obtain ⟨i, hi⟩ := Option.isSome_iff_exists.1 hl
      obtain ⟨y, y1, y2, y3, y4, y5, y6, y7, y8, y9, y10, y11, _, _⟩ := set_loop (x' := x) hr hi hx rfl rfl rfl rfl
      have hblk : j.blk l = i.blk := by unfold J.blk; rw [hi]
      split at ev
      · rename_i e1 h1 hev1
        split at ev
        · rename_i x1 hx1
          split at ev
          · rename_i hst1
            split at ev
            · rename_i out e2 h2 hev2
              split at ev
              · rename_i x2 hx2
                simp only [Option.some.injEq, Prod.mk.injEq] at ev
                obtain ⟨rfl, rfl⟩ := ev
                refine .inr (.inr ⟨i.blk, y.fn, ((⟨x.params⟩ : Array Tmp).zip ⟨args.map (ren j)⟩).foldl (fun t (p : Tmp × Value) => t.setIfInBounds p.1 p.2) y.tmps, x.assign, x.body, ?_, fun c cs => ?_⟩)
                · have hsz : ¬ ((⟨args.map (ren j)⟩ : Array Value).size ≠ y.params.size) := by
                    rw [y4]; simp [hlen]
                  simp only [Instr.yield, Instr.getLoop, hblk, Sem.run_bind, run_getObj y1 (by intros; simp), Result.andThen_ok, Sem.run_pure, if_neg hsz]
                  rw [y4, y5, y6]
                · obtain ⟨fr, hfr⟩ : ∃ fr, fr = Frame.round i.blk y.fn (((⟨x.params⟩ : Array Tmp).zip ⟨args.map (ren j)⟩).foldl (fun t (p : Tmp × Value) => t.setIfInBounds p.1 p.2) y.tmps) x.assign x.body .normal := ⟨_, rfl⟩
                  rw [← hfr]
                  have hat : fr = At fr (((⟨x.params⟩ : Array Tmp).zip ⟨args.map (ren j)⟩).foldl (fun t (p : Tmp × Value) => t.setIfInBounds p.1 p.2) y.tmps) [.code x.assign, .beginRound, .code x.body] [] := by rw [hfr]; rfl
                  have hro : fr.roundOf = some i.blk := by rw [hfr]; rfl
                  have hki : fr.kind = .normal := by rw [hfr]; rfl
                  obtain ⟨n1, p1⟩ := code_sim hc hs x.assign _ _ _ _ _ hev1 y8
                  obtain ⟨n2, p2⟩ := code_sim hc hs x.body _ _ _ _ _ hev2 y9
                  rw [H.next_set] at n2
                  have he0 : EnvRel j ((x.params.zip args).foldl (fun e p => Env.set e p.1 p.2) x.env) (((⟨x.params⟩ : Array Tmp).zip ⟨args.map (ren j)⟩).foldl (fun t (p : Tmp × Value) => t.setIfInBounds p.1 p.2) y.tmps) := by
                    rw [zip_fold (fun t p v => t.setIfInBounds p v)]
                    exact env_zip _ _ _ _ y7 ha
                  have hf1 : Fresh j h h2 := fun a a1 a2 => hf a a1 (by rw [H.next_set]; exact a2)
                  obtain ⟨j1, w1, t1, d1, a1, r1, e1', _, q1, g1⟩ := p1 j w fr _ [.beginRound, .code x.body] [] (c :: cs) hr he0 (hf1.left n2) (.inr y10)
                  have := q1 y10; subst this
                  have hj1 : j1 l = some i := a1.le _ _ hi
                  obtain ⟨y', z1, z2, z3, z4, z5, z6, z7, _, _, _, _, a2, r2⟩ := set_loop (x' := { x1 with state := .busy }) r1 hj1 hx1 rfl rfl rfl rfl
                  have s1 := s_beginRound (P := C.P) (fr := fr) (t := t1) (k := [.code x.body]) (ds := []) (cs := c :: cs) hro z1 (z2.trans hst1)
                  have hpend : y'.pending = x1.pending := z3
                  have hy' : ({ y' with state := .busy } : Loop) = { y' with state := .busy, pending := x1.pending } := by rw [← hpend]
                  rw [hy'] at s1
                  have hf2 : Fresh j1 (h1.set l (.loop { x1 with state := .busy })) h2 := (hf1.right a1).right a2 |> fun q => q
                  obtain ⟨j2, w2, t2, d2, a3, r3, e2', _, q2, g2⟩ := p2 j1 _ fr t1 [] [] (c :: cs) r2 e1' hf2 (.inr y11)
                  have := q2 y11; subst this
                  have hj2 : j2 l = some i := a3.le _ _ hj1
                  obtain ⟨y'', u1, u2, u3, u4, u5, u6, u7, _, _, _, _, a4, r4⟩ := set_loop (x' := { x2 with state := (match (generalizing := false) out with | .normal => .ready | _ => .done), pending := jumpOf out }) r3 hj2 hx2 rfl rfl rfl rfl
                  refine ⟨j2, _, ?_, ((a1.trans a2).trans a3).trans a4, r4, by simp [Wf]⟩
                  rw [ren_bool, hat]
                  refine Steps.trans g1 (.head s1 ?_)
                  cases out with
                  | normal => exact Steps.trans g2 (.one (s_leave (out := .normal) (k1 := []) hro hki u1 rfl))
                  | exit id =>
                    obtain ⟨k1, g2, g3⟩ := g2
                    exact Steps.trans g2 (.one (s_leave (out := .exit id) (k1 := k1) hro hki u1 ⟨rfl, by rw [g3]; rfl⟩))
                  | ret =>
                    obtain ⟨k1, g2⟩ := g2
                    exact Steps.trans g2 (.one (s_leave (out := .ret) (k1 := k1) hro hki u1 rfl))
              · cases ev
            · cases ev
          · cases ev
        · cases ev
      · cases ev
  · cases ev

theorem ev_sound (hc : CtxOk C) : ∀ n, Sound C (ev C n)
  | 0 => ⟨fun _ _ _ _ _ _ h => (by cases h), fun _ _ _ _ _ h => (by cases h), fun _ _ _ _ _ h => (by cases h)⟩
  | n + 1 => ⟨fun c e h out e' h' q => code_sim hc (ev_sound hc n) c e h out e' h' q, fun _ _ _ _ _ q => call_sim hc (ev_sound hc n) q, fun _ _ _ _ _ q => yield_sim hc (ev_sound hc n) q⟩
end
end Go.Mir

/- What the evaluator says of a call, the model does. -/
namespace Go.Mir

theorem ev_call {C : Ctx} (hc : CtxOk C) {n : Nat} {g : FuncId} {fn : Func} {c : Code} (hg : C.fn.get g = some fn) (hb : fn.body = some c) {args : List Value} {h h' : H} {v : Value} (e : (ev C n).call g args h = some (v, h'))
    {j : J} {w : World} (hr : Rel C j h w) (ha : ∀ a ∈ args, Wf j a) (hf : Fresh j h h') :
    Calls C.P g ⟨args.map (ren j)⟩ w fun x w' => ∃ j', x = .returned (ren j' v) ∧ Adv j h w j' h' w' ∧ Rel C j' h' w' ∧ Wf j' v := by
  obtain ⟨f1, f2, _⟩ := hc.fn g fn hg
  have hrun : (callFunc g ⟨args.map (ren j)⟩).run C.P w = .ok (.enter g ⟨args.map (ren j)⟩) w := by
    simp only [callFunc, Sem.run_bind, run_program, Result.andThen_ok, f1, f2, hb, Option.isNone_some, Bool.false_eq_true, if_false, Sem.run_pure]
  rcases (ev_sound hc n).call _ _ _ _ _ e j w hr ha hf with ⟨j', w', nx, h1, h2, _⟩ | ⟨g', args', h1, h2⟩ | ⟨l, fn', tm, a, b, h1, h2⟩
  · rw [hrun] at h1; cases h1
    rcases h2 with h2 | ⟨h2, _⟩ <;> cases h2
  · rw [hrun] at h1; cases h1; exact h2
  · rw [hrun] at h1; cases h1

#print axioms ev_call
end Go.Mir

