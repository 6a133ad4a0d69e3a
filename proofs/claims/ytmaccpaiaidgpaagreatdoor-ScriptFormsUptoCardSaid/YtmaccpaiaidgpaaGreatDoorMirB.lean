/- Operations of the evaluator that write: what they do, the model does. -/
import Derived.Test.YtmaccpaiaidgpaaGreatDoorMirA
/- What the evaluator says of an operation that writes, the model says: stores. -/
namespace Go.Mir

theorem modify_set {α : Type} (a : Array α) (g : Nat) (f : α → α) {x : α} (h : a[g]? = some x) : a.modify g f = a.setIfInBounds g (f x) := by
  apply Array.ext_getElem?
  intro k
  rw [Array.getElem?_modify]
  by_cases e : g = k
  · subst e
    have hl : g < a.size := (Array.getElem?_eq_some_iff.1 h).1
    rw [if_pos rfl, h, Array.getElem?_setIfInBounds_self_of_lt hl]; rfl
  · rw [if_neg e, Array.getElem?_setIfInBounds_ne e]

def World.put (w : World) (g : Nat) (o : Obj) : World := { w with heap := w.heap.setIfInBounds g o }

theorem put_get {w : World} {g : Nat} {o : Obj} (h : g < w.heap.size) (k : Nat) : (World.put w g o).heap[k]? = if g = k then some o else w.heap[k]? := by
  simp only [World.put]
  by_cases e : g = k
  · subst e; rw [if_pos rfl, Array.getElem?_setIfInBounds_self_of_lt h]
  · rw [if_neg e, Array.getElem?_setIfInBounds_ne e]

theorem put_put (w : World) (g : Nat) (o o' : Obj) : World.put (World.put w g o) g o' = World.put w g o' := by
  simp only [World.put]
  congr 1
  apply Array.ext_getElem?
  intro k
  by_cases e : g = k
  · subst e
    by_cases h : g < w.heap.size
    · rw [Array.getElem?_setIfInBounds_self_of_lt (by simpa using h), Array.getElem?_setIfInBounds_self_of_lt h]
    · rw [Array.setIfInBounds_eq_of_size_le (by simp; omega), Array.setIfInBounds_eq_of_size_le (by omega), Array.setIfInBounds_eq_of_size_le (by omega)]
  · rw [Array.getElem?_setIfInBounds_ne e, Array.getElem?_setIfInBounds_ne e, Array.getElem?_setIfInBounds_ne e]

theorem put_self {w : World} {g : Nat} {o : Obj} (h : w.heap[g]? = some o) : World.put w g o = w := by
  have hl : g < w.heap.size := (Array.getElem?_eq_some_iff.1 h).1
  have : w.heap.setIfInBounds g o = w.heap := by
    apply Array.ext_getElem?
    intro k
    by_cases e : g = k
    · subst e; rw [Array.getElem?_setIfInBounds_self_of_lt hl, h]
    · rw [Array.getElem?_setIfInBounds_ne e]
  simp only [World.put, this]

/-- Not frozen, where the cells are. -/
def Free (c : Array Value) (fz : Nat × Nat) : Prop := fz.1 = fz.2 ∨ c.size ≤ fz.1

theorem run_storeCells {P : Program} (g o : Nat) (el : TypeId) (fz : Nat × Nat) : ∀ (vs : List Value) (i : Nat) (c : Array Value) (w : World), w.heap[g]? = some (.cells c el fz) → Free c fz → o + i + vs.length ≤ c.size → (∀ v ∈ vs, oneCell v = true) →
    ∃ c' : Array Value, (storeCells ⟨g, o, none⟩ vs i).run P w = .ok () (World.put w g (.cells c' el fz)) ∧ c'.size = c.size ∧ ∀ k, c'[k]? = if o + i ≤ k ∧ k < o + i + vs.length then vs[k - (o + i)]? else c[k]?
  | [], i, c, w, hg, hf, hl, hv => ⟨c, by simp [storeCells, put_self hg], rfl, fun k => by rw [if_neg (by simp; try omega)]⟩
  | v :: vs, i, c, w, hg, hf, hl, hv => by
    simp only [List.length_cons] at hl
    have hadd : Addr.add ⟨g, o, none⟩ i = ⟨g, o + i, none⟩ := by
      unfold Addr.add
      by_cases hi : i = 0
      · simp [hi]
      · rw [if_neg hi]
    have h1 : oneCell v = true := hv v (List.mem_cons_self ..)
    have h1' : v.oneCell' = true := by cases v <;> simp_all [oneCell, Value.oneCell']
    have hlt : o + i < c.size := by omega
    have hcell : w.cell? ⟨g, o + i, none⟩ = some c[o + i] := by
      simp [World.cell?, hg, hlt]
    have hfz : w.frozen? ⟨g, o + i, none⟩ = false := by
      simp only [World.frozen?, hg]
      rcases hf with hf | hf
      · simp; omega
      · simp; omega
    have hset : w.setCell ⟨g, o + i, none⟩ v = World.put w g (.cells (c.setIfInBounds (o + i) v) el fz) := by
      simp only [World.setCell, World.put]
      rw [modify_set _ _ _ hg]
      simp
    have hgl : g < w.heap.size := (Array.getElem?_eq_some_iff.1 hg).1
    obtain ⟨c', r1, r2, r3⟩ := run_storeCells (P := P) g o el fz vs (i + 1) (c.setIfInBounds (o + i) v) (World.put w g (.cells (c.setIfInBounds (o + i) v) el fz)) (by rw [put_get hgl, if_pos rfl]) (by unfold Free at hf ⊢; simpa using hf) (by simp; omega) (fun x hx => hv x (List.mem_cons_of_mem _ hx))
    refine ⟨c', ?_, by rw [r2]; simp, fun k => ?_⟩
    · simp only [storeCells, Sem.run_bind, hadd, run_store P w _ v .plain h1', hcell, hfz, Bool.false_eq_true, if_false, Result.andThen_ok, hset, r1, put_put]
    · rw [r3 k]
      simp only [List.length_cons]
      by_cases e : k = o + i
      · subst e
        rw [if_neg (by omega), if_pos (by omega), Array.getElem?_setIfInBounds_self_of_lt hlt]
        simp
      · rw [Array.getElem?_setIfInBounds_ne (Ne.symm e)]
        by_cases hh : o + (i + 1) ≤ k ∧ k < o + (i + 1) + vs.length
        · rw [if_pos hh, if_pos (by omega)]
          have : k - (o + i) = k - (o + (i + 1)) + 1 := by omega
          rw [this]; rfl
        · rw [if_neg hh, if_neg (by omega)]

section
variable {C : Ctx} {j : J} {h : H} {w : World} {ρ ρ' : Operand → Value}

theorem solid_lt {a : Nat} {i : Img} {b : Blk} (hr : Rel C j h w) (hi : j a = some i) (hg : h.get a = some b) (hl : b ≠ .dead) : i.blk < w.heap.size := by
  have := hr.blk _ _ _ hi hg
  have key : ∃ o, w.heap[i.blk]? = some o := by
    cases b with
    | cells c z => obtain ⟨_, _, _, ho, _⟩ := this; exact ⟨_, ho⟩
    | rom c => obtain ⟨_, _, _, ho, _⟩ := this; exact ⟨_, ho⟩
    | dead => exact absurd rfl hl
    | map es cl => exact ⟨_, this.1⟩
    | iter s p => exact ⟨_, this.1⟩
    | loop l => obtain ⟨_, _, _, ho, _⟩ := this; exact ⟨_, ho⟩
  obtain ⟨o, ho⟩ := key
  exact (Array.getElem?_eq_some_iff.1 ho).1

theorem lt_of_rel {a : Nat} {i : Img} {b : Blk} (hr : Rel C j h w) (hi : j a = some i) (hg : h.get a = some b) (hl : b.live = true) : i.blk < w.heap.size :=
  solid_lt hr hi hg (fun e => by subst e; cases hl)

theorem BlkRel.same {i : Img} {b : Blk} {o o' : Option Obj} (h : BlkRel C j i b o) (e : b ≠ .dead → o' = o) : BlkRel C j i b o' := by
  by_cases hd : b = .dead
  · subst hd; trivial
  · rw [e hd]; exact h

/-- A live block lies apart from all others. -/
theorem apart_of {a a1 : Nat} {i i1 : Img} {b b1 : Blk} (hr : Rel C j h w) (hi : j a = some i) (hg : h.get a = some b) (hl : b.live = true) (h1 : j a1 = some i1) (g1 : h.get a1 = some b1) (hd : b1 ≠ .dead) (ne : a ≠ a1) : i.blk ≠ i1.blk := by
  intro e
  cases b1 with
  | dead => exact hd rfl
  | rom c => exact hr.rom _ _ _ h1 g1 ⟨a, i, b, hi, hg, hl, e⟩
  | _ => exact ne (hr.inj _ _ _ _ _ _ hi h1 hg g1 hl rfl e)

theorem rom_next {j' : J} {h' : H} (hr : Rel C j h w) (held : ∀ b, b < w.heap.size → Held j' h' b → Held j h b) (back : ∀ a i c, j' a = some i → h'.get a = some (.rom c) → j a = some i ∧ h.get a = some (.rom c)) :
    ∀ a i c, j' a = some i → h'.get a = some (.rom c) → ¬ Held j' h' i.blk := fun a i c h1 h2 hh => by
  obtain ⟨p, q⟩ := back a i c h1 h2
  exact hr.rom _ _ _ p q (held _ (solid_lt hr p q (by simp)) hh)

theorem BlkRel.le {j j' : J} (hl : Ext.le j j') {i : Img} {b : Blk} {o : Option Obj} (h : BlkRel C j i b o) : BlkRel C j' i b o := by
  cases b with
  | cells c z =>
    obtain ⟨c', el, fz, h1, h2, h3, h4, h5, h6, h7⟩ := h
    refine ⟨c', el, fz, h1, h2, h3, h4, h5, h6, fun k v hk => ?_⟩
    have := h7 k v hk
    exact ⟨by rw [this.1, this.2.ren hl], this.2.le hl⟩
  | rom c =>
    obtain ⟨c', el, fz, h1, h2, h3, h4, h7⟩ := h
    refine ⟨c', el, fz, h1, h2, h3, h4, fun k v hk => ?_⟩
    have := h7 k v hk
    exact ⟨by rw [this.1, this.2.ren hl], this.2.le hl⟩
  | dead => trivial
  | map es cl =>
    refine ⟨?_, fun e he => ⟨(h.2 e he).1.le hl, (h.2 e he).2.le hl⟩⟩
    rw [h.1]
    congr 3
    apply List.map_congr_left
    intro e he
    simp only [renE, (h.2 e he).1.ren hl, (h.2 e he).2.ren hl]
  | iter s p => exact h
  | loop l =>
    obtain ⟨tmps, fn, ds, h1, h2, h3⟩ := h
    exact ⟨tmps, fn, ds, h1, h2.le hl, h3⟩

/-- One block is written. -/
theorem set_block {a : Nat} {i : Img} {b b' : Blk} {o : Obj} {w' : World} (hr : Rel C j h w) (hi : j a = some i) (hg : h.get a = some b) (hl : b.live = true)
    (hh : ∀ k, w'.heap[k]? = if i.blk = k then some o else w.heap[k]?) (hsz : w'.heap.size = w.heap.size) (ho : w'.os = w.os) (hout : w'.output = w.output) (htape : w'.tape = w.tape) (hb : BlkRel C j i b' (some o)) (hrom : ∀ c, b' ≠ .rom c := by intro c h; cases h) :
    Adv j h w j (h.set a b') w' ∧ Rel C j (h.set a b') w' := by
  have inj := hr.inj
  have hheld : ∀ x, x < w.heap.size → Held j (h.set a b') x → Held j h x := by
    rintro x hx ⟨a1, i1, b1, h1, h2, h3, h4⟩
    rw [H.get_set] at h2
    by_cases e : a = a1
    · subst e
      exact ⟨a, i, b, hi, hg, hl, by rw [h1] at hi; cases hi; exact h4⟩
    · rw [if_neg e] at h2
      exact ⟨a1, i1, b1, h1, h2, h3, h4⟩
  have hback : ∀ a1 i1 c, j a1 = some i1 → (h.set a b').get a1 = some (.rom c) → j a1 = some i1 ∧ h.get a1 = some (.rom c) := fun a1 i1 c h1 h2 => by
    rw [H.get_set] at h2
    by_cases e : a = a1
    · rw [if_pos e] at h2; cases h2; exact absurd rfl (hrom c)
    · rw [if_neg e] at h2; exact ⟨h1, h2⟩
  refine ⟨⟨fun _ _ e => e, fun x k e n => (by rw [n] at e; cases e), Nat.le_refl _, by omega, hheld, ?_, ?_, ho, hout, htape, hback⟩, ⟨?_, ?_, ?_, hr.glob, rom_next hr hheld hback⟩⟩
  · intro x hx hn
    rw [hh x, if_neg (fun e => hn ⟨a, i, b, hi, hg, hl, e⟩)]
  · intro x hx hn
    rw [H.get_set, if_neg (fun e => by subst e; rw [hi] at hn; cases hn)]
  · intro a1 i1 b1 h1 h2
    rw [H.get_set] at h2
    by_cases e : a = a1
    · subst e
      rw [if_pos rfl] at h2; cases h2
      rw [hi] at h1; cases h1
      rw [hh, if_pos rfl]; exact hb
    · rw [if_neg e] at h2
      exact (hr.blk _ _ _ h1 h2).same fun hd => by rw [hh, if_neg (apart_of hr hi hg hl h1 h2 hd e)]
  · intro a1 a2 i1 i2 b1 b2 h1 h2 h3 h4 h5 h6 h7
    rw [H.get_set] at h3 h4
    by_cases e1 : a = a1
    · subst e1
      by_cases e2 : a = a2
      · exact e2
      · rw [if_neg e2] at h4
        exact inj _ _ _ _ _ _ h1 h2 hg h4 hl h6 h7
    · rw [if_neg e1] at h3
      by_cases e2 : a = a2
      · subst e2
        exact inj _ _ _ _ _ _ h1 h2 h3 hg h5 hl h7
      · rw [if_neg e2] at h4
        exact inj _ _ _ _ _ _ h1 h2 h3 h4 h5 h6 h7
  · intro a1 b1 h1
    rw [H.get_set] at h1
    by_cases e : a = a1
    · subst e; exact hr.lt _ _ hg
    · rw [if_neg e] at h1; exact hr.lt _ _ h1

/-- Cells are written. -/
theorem write_of {a : Addr} {vs : List Value} {h' : H} (hr : Rel C j h w) (ha : (j a.block).isSome) (hw : ∀ v ∈ vs, Wf j v) (e : h.write a vs = some h') :
    ∃ w', (storeCells (j.addr a) (vs.map (ren j))).run C.P w = .ok () w' ∧ Adv j h w j h' w' ∧ Rel C j h' w' ∧ h'.next = h.next ∧ w'.drawn = w.drawn := by
  obtain ⟨i, hi⟩ := Option.isSome_iff_exists.1 ha
  unfold H.write at e
  split at e
  · rename_i c z hg hsp
    cases hone : allB oneCell vs with
    | false => rw [hone, cond_false] at e; cases e
    | true =>
      rw [hone, cond_true] at e
      split at e
      · rename_i c1 hc1
        cases e
        obtain ⟨o1, o2, o3⟩ := overAt_of hc1
        obtain ⟨c', el, fz, ho, b1, b2, b3, b4, b5, b6⟩ := hr.blk _ _ _ hi hg
        have hadr : j.addr a = ⟨i.blk, i.base + a.off, none⟩ := by simp [J.addr, hi, hsp]
        have hone' : ∀ v ∈ vs.map (ren j), oneCell v = true := by
          intro v hv
          obtain ⟨u, hu, rfl⟩ := List.mem_map.1 hv
          rw [oneCell_ren]; exact (allB_iff _ _).1 hone u hu
        obtain ⟨c2, r1, r2, r3⟩ := run_storeCells (P := C.P) i.blk (i.base + a.off) el fz (vs.map (ren j)) 0 c' w ho b5 (by simp; omega) hone'
        have hlt : i.blk < w.heap.size := (Array.getElem?_eq_some_iff.1 ho).1
        refine ⟨World.put w i.blk (.cells c2 el fz), by rw [hadr]; exact r1, ?_⟩
        have := set_block (w' := World.put w i.blk (.cells c2 el fz)) (b' := .cells c1 z) hr hi hg rfl (fun k => put_get hlt k) (by simp [World.put]) rfl rfl rfl
          ⟨c2, el, fz, rfl, by rw [o2, b1], b2, by rw [r2, b3], b4, by rw [r2]; exact b5, fun k v hk => by
            rw [o3 k] at hk
            rw [r3]
            by_cases hk2 : a.off ≤ k ∧ k < a.off + vs.length
            · rw [if_pos hk2] at hk
              rw [if_pos (by simp; omega)]
              have : i.base + k - (i.base + a.off + 0) = k - a.off := by omega
              rw [this, List.getElem?_map, hk]
              exact ⟨rfl, hw v (List.mem_of_getElem? hk)⟩
            · rw [if_neg hk2] at hk
              rw [if_neg (by simp; omega)]
              exact b6 k v hk⟩
        exact ⟨this.1, this.2, rfl, rfl⟩
      · cases e
  · cases e

def LoudOk (C : Ctx) (j : J) (h : H) (w : World) (s : Sem Next) (v : Value) (h' : H) : Prop :=
  ∃ (j' : J) (w' : World) (nx : Next), s.run C.P w = .ok nx w' ∧ (nx = .value (ren j' v) ∨ (nx = .skip ∧ v = undef)) ∧ Adv j h w j' h' w' ∧ Rel C j' h' w' ∧ Wf j' v

theorem loud_store (hc : CtxOk C) (hr : Rel C j h w) {t : TypeId} {x x' y y' : Value} {a : Addr} {n : Nat} {h' : H} (hx : x' = ren j x ∧ Wf j x) (hy : y' = ren j y ∧ Wf j y) (ex : x = .pointer (some a)) (hs : C.size t = some n) (hl : y.cells.toList.length = n)
    (e : h.write a y.cells.toList = some h') : LoudOk C j h w (do Instr.storeAt t x' y'; pure .skip) undef h' := by
  obtain ⟨rfl, ha⟩ := ptr_of hx ex
  obtain ⟨w', r1, r2, r3, r4, r5⟩ := write_of hr ha (wf_cells hy.2) e
  refine ⟨j, w', .skip, ?_, .inr ⟨rfl, rfl⟩, r2, r3, (undef_ren j).2⟩
  have hsz : (y'.cells).toList = y.cells.toList.map (ren j) := by rw [hy.1]; exact ren_cells j y
  have hsz2 : y'.cells.size = n := by
    have := congrArg List.length hsz
    rw [List.length_map, hl] at this
    simpa using this
  simp [Instr.storeAt, Instr.sureAddr, storeVar, run_size hc hs, hsz2, hsz, r1]
end
end Go.Mir

/- The same, of what else writes: maps, iterators, copies. -/
namespace Go.Mir

section
variable {C : Ctx} {j : J} {h : H} {w : World} {ρ ρ' : Operand → Value}

theorem get_of_cells {b : Nat} (e : h.isCells b = true) : ∃ c z, h.get b = some (.cells c z) := by
  unfold H.isCells at e
  split at e
  · rename_i c z hg; exact ⟨c, z, hg⟩
  · cases e

theorem rel_set_self {a : Nat} {b : Blk} (hr : Rel C j (h.set a b) w) (hg : h.get a = some b) : Rel C j h w := by
  have e : ∀ x, (h.set a b).get x = h.get x := fun x => by
    rw [H.get_set]; split
    · rename_i hh; subst hh; exact hg.symm
    · rfl
  exact ⟨fun x i y h1 h2 => hr.blk x i y h1 (by rw [e]; exact h2), fun x y i i' b b' h1 h2 h3 h4 => hr.inj x y i i' b b' h1 h2 (by rw [e]; exact h3) (by rw [e]; exact h4), fun x y h1 => hr.lt x y (by rw [e]; exact h1), hr.glob, fun x i c h1 h2 hh => hr.rom x i c h1 (by rw [e]; exact h2) (by obtain ⟨p, q, r, s1, s2, s3, s4⟩ := hh; exact ⟨p, q, r, s1, by rw [e]; exact s2, s3, s4⟩)⟩

theorem adv_set_self {a : Nat} {b : Blk} {j' : J} {w' : World} (hr : Adv j h w j' (h.set a b) w') (hg : h.get a = some b) : Adv j h w j' h w' := by
  have e : ∀ x, (h.set a b).get x = h.get x := fun x => by
    rw [H.get_set]; split
    · rename_i hh; subst hh; exact hg.symm
    · rfl
  refine ⟨hr.le, hr.new, Nat.le_refl _, hr.sz, ?_, hr.keep, fun _ _ _ => rfl, hr.os, hr.out, hr.tape, fun x i c h1 h2 => hr.rom x i c h1 (by rw [e]; exact h2)⟩
  rintro x hx ⟨a1, i1, b1, h1, h2, h3, h4⟩
  exact hr.held x hx ⟨a1, i1, b1, h1, by rw [e]; exact h2, h3, h4⟩

theorem loud_conv (hc : CtxOk C) (hr : Rel C j h w) {src dst el el2 : TypeId} {x x' : Value} {a : Addr} {l c : Nat} (hx : x' = ren j x ∧ Wf j x) (ex : x = .slice (some a) l c) (hs : C.u src = some (.slice el)) (hel : C.u el = some (.int .u8)) (hd : C.u dst = some (.slice el2))
    (hb : (Nat.beq src dst && h.isCells a.block && Nat.ble c LOOSE) = true) : LoudOk C j h w (do pure (Next.value (← convert src dst x'))) (.slice (some a) l c) h := by
  subst ex
  obtain ⟨rfl, hw⟩ := hx
  simp only [Bool.and_eq_true, Nat.ble_eq] at hb
  obtain ⟨⟨b1, b2⟩, b3⟩ := hb
  have hsd : src = dst := Nat.eq_of_beq_eq_true b1
  subst hsd
  rw [hs] at hd
  obtain ⟨c0, z, hg⟩ := get_of_cells b2
  have hw' := hw
  simp only [Wf] at hw'
  obtain ⟨i, hi, _⟩ := hw'
  obtain ⟨c', e', fz, ho, r1, r2, r3, r4, r5, r6⟩ := hr.blk _ _ _ hi hg
  have hlt : i.blk < w.heap.size := (Array.getElem?_eq_some_iff.1 ho).1
  let fz' : Nat × Nat := if fz.1 == fz.2 then (c'.size, c'.size + 1) else (min fz.1 c'.size, max fz.2 (c'.size + 1))
  have hfree : fz'.1 = fz'.2 ∨ c'.size ≤ fz'.1 := by
    simp only [fz']
    rcases r5 with h | h
    · simp [h]
    · split
      · simp
      · right; simp; omega
  have hset := set_block (w' := World.put w i.blk (.cells c' e' fz')) (b' := .cells c0 z) hr hi hg rfl (fun k => put_get hlt k) (by simp [World.put]) rfl rfl rfl ⟨c', e', fz', rfl, r1, r2, r3, r4, hfree, r6⟩
  refine ⟨j, World.put w i.blk (.cells c' e' fz'), _, run_v ?_, .inl rfl, adv_set_self hset.1 hg, rel_set_self hset.2 hg, hw⟩
  have hadr : (j.addr a).block = i.blk := by simp [J.addr, hi]
  rw [ren_sl, sAddr_le b3]
  have el2e : el2 = el := by cases hd; rfl
  subst el2e
  have e1 : (convert src src (.slice (some (j.addr a)) l (j.sCap a c))).run C.P w = (do markStringish (j.addr a); pure (.slice (some (j.addr a)) l (j.sCap a c)) : Sem Value).run C.P w := by
    simp [convert, run_u hc hs, run_u hc hel]
  rw [e1]
  have e2 : w.freeze { block := (j.addr a).block, off := c'.size } 1 = World.put w i.blk (.cells c' e' fz') := by
    simp only [World.freeze, World.put, hadr]
    rw [if_neg (by omega), modify_set _ _ _ ho]
  unfold markStringish
  simp only [Sem.run_bind, run_shape, World.shape?, hadr, ho, Result.andThen_ok, run_freeze, Sem.run_pure]
  rw [← e2, hadr]

theorem run_setObj {P : Program} {w : World} {r : Nat} {o o' : Obj} (h : w.heap[r]? = some o) (ho : ∀ c e f, o ≠ .cells c e f) : (setObj r o').run P w = .ok () (World.put w r o') := by
  cases o <;> first
    | exact absurd rfl (ho _ _ _)
    | (simp only [setObj, Sem.run, h, World.put])

theorem modAt_eq {α : Type} (f : α → α) : ∀ (l : List α) (i : Nat), modAt f l i = (l.toArray.modify i f).toList
  | [], i => by simp [modAt]
  | a :: as, 0 => by simp [modAt]
  | a :: as, i + 1 => by simp [modAt, modAt_eq f as i]

theorem eraseAt_eq {α : Type} : ∀ (l : List α) (i : Nat), eraseAt l i = l.eraseIdx i
  | [], i => by simp [eraseAt]
  | a :: as, 0 => by simp [eraseAt]
  | a :: as, i + 1 => by simp [eraseAt, eraseAt_eq as i]

theorem bytes_beq {a b : ByteArray} (e : (a == b) = true) : a = b := by
  obtain ⟨a⟩ := a; obtain ⟨b⟩ := b
  have : (a == b) = true := e
  rw [beq_iff_eq] at this; rw [this]

theorem bytes_refl (a : ByteArray) : (a == a) = true := by
  obtain ⟨a⟩ := a
  show (a == a) = true
  simp

theorem sameNow_bits {d : TypeDesc} {a b : Value} (e : Instr.sameNow d a b = some true) : Instr.sameBits 10000 b a = true := by
  unfold Instr.sameNow at e
  split at e
  · split at e
    · rename_i k a k' b hk; subst hk
      simp only [Option.some.injEq, beq_iff_eq] at e; subst e
      simp [Instr.sameBits]
    · cases e
  · simp only [Option.some.injEq] at e; have := bytes_beq e; subst this; simp only [Instr.sameBits]; exact bytes_refl _
  · simp only [Option.some.injEq, beq_iff_eq] at e; subst e; simp [Instr.sameBits]
  · cases e

theorem map_modify (j : J) (f g : MapEntry → MapEntry) (hfg : ∀ e, renE j (f e) = g (renE j e)) (es : List MapEntry) (i : Nat) : (⟨es.map (renE j)⟩ : Array MapEntry).modify i g = ⟨(modAt f es i).map (renE j)⟩ := by
  apply Array.ext_getElem?
  intro k
  rw [modAt_eq]
  simp only [Array.getElem?_modify, List.getElem?_toArray, List.getElem?_map]
  have : (es.toArray.modify i f).toList[k]? = (es.toArray.modify i f)[k]? := by simp
  rw [this, Array.getElem?_modify]
  by_cases e : i = k
  · subst e; simp only [if_true]
    cases hk : es.toArray[i]? with
    | none => have : es[i]? = none := by simpa using hk
              simp [this]
    | some x => have : es[i]? = some x := by simpa using hk
                simp [this, hfg]
  · simp [e]

theorem loud_mapUpdate (hc : CtxOk C) (hr : Rel C j h w) {t key elem : TypeId} {m m' k k' x x' : Value} {r : Nat} {es : List MapEntry} {cl : Nat} {d : TypeDesc} {h' : H} (hm : m' = ren j m ∧ Wf j m) (hk : k' = ren j k ∧ Wf j k) (hx : x' = ren j x ∧ Wf j x) (em : m = .map (some r)) (ht : C.u t = some (.map key elem)) (hg : h.get r = some (.map es cl)) (hd : C.u key = some d) (hkd : keyD d = true)
    (e : (match Instr.findNow d k es 0 with
        | some (some (i, _)) => some (undef, h.set r (.map (modAt (fun e => { e with key := k, val := x }) es i) cl))
        | some none => some (undef, h.set r (.map (es ++ [(⟨k, x, cl⟩ : MapEntry)]) (cl + 1)))
        | none => none) = some (undef, h')) : LoudOk C j h w (do Instr.mapUpdate t m' k' x'; pure .skip) undef h' := by
  subst em
  obtain ⟨rfl, hw⟩ := hm
  obtain ⟨rfl, hkw⟩ := hk
  obtain ⟨rfl, hxw⟩ := hx
  simp only [Wf] at hw
  obtain ⟨i, hi, ho, hwf⟩ := map_of hr hw hg
  have hkd' := keyD_of hkd
  have run1 : (Instr.checkKey false 10000 key (ren j k)).run C.P w = .ok () w := checkKey_ok hc hd hkd'.1 hkd'.2 false 9999
  have hren : ren j (.map (some r)) = .map (some (j.blk r)) := by simp only [ren]
  have hblk : j.blk r = i.blk := by simp [J.blk, hi]
  rw [hblk] at ho
  have hlt : i.blk < w.heap.size := (Array.getElem?_eq_some_iff.1 ho).1
  split at e
  · rename_i n v hf
    cases e
    obtain ⟨_, y, hy1, hy2, hy3⟩ := findNow_mem hf
    have hf' := findNow_ren (j := j) hf
    have hset := set_block (w' := World.put w i.blk (.map ⟨(modAt (fun e => { e with key := k, val := x }) es n).map (renE j)⟩ cl)) (b' := .map (modAt (fun e => { e with key := k, val := x }) es n) cl) hr hi hg rfl (fun k => put_get hlt k) (by simp [World.put]) rfl rfl rfl
      ⟨rfl, fun e he => by
        rw [modAt_eq] at he
        obtain ⟨q, hq⟩ := List.mem_iff_getElem?.1 he
        have hq' : (es.toArray.modify n fun e => { e with key := k, val := x })[q]? = some e := by simpa using hq
        rw [Array.getElem?_modify] at hq'
        by_cases hn : n = q
        · rw [if_pos hn] at hq'
          obtain ⟨e0, _, rfl⟩ := Option.map_eq_some_iff.1 hq'
          exact ⟨hkw, hxw⟩
        · rw [if_neg hn] at hq'
          exact hwf e (List.mem_of_getElem? (by simpa using hq'))⟩
    refine ⟨j, _, .skip, ?_, .inr ⟨rfl, rfl⟩, hset.1, hset.2, (undef_ren j).2⟩
    rw [hren, hblk]
    unfold Instr.mapUpdate
    simp only [Sem.run_bind, run_u hc ht, Result.andThen_ok, run_getObj ho (by intros; simp), run1]
    unfold Instr.findKey
    simp only [Sem.run_bind, run_u hc hd, Result.andThen_ok, hf', Option.map_some, Sem.run_pure]
    have hold : ((((⟨es.map (renE j)⟩ : Array MapEntry)[n]?).map (·.key)).getD (ren j k)) = ren j y.key := by
      have : es[n]? = some y := by simpa using hy1
      simp [this, renE]
    rw [hold]
    unfold Instr.keyThatStays
    rw [if_pos (sameNow_bits (sameNow_ren (j := j) hy3))]
    simp only [Sem.run_pure, Result.andThen_ok]
    rw [map_modify j (fun e => { e with key := k, val := x }) (fun e => { e with key := ren j k, val := ren j x }) (fun e => rfl), run_setObj ho (by intros; simp)]
    rfl
  · rename_i hf
    cases e
    have hf' := findNow_ren (j := j) hf
    have hset := set_block (w' := World.put w i.blk (.map ⟨(es ++ [(⟨k, x, cl⟩ : MapEntry)]).map (renE j)⟩ (cl + 1))) (b' := .map (es ++ [(⟨k, x, cl⟩ : MapEntry)]) (cl + 1)) hr hi hg rfl (fun k => put_get hlt k) (by simp [World.put]) rfl rfl rfl
      ⟨rfl, fun e he => by
        rw [List.mem_append] at he
        rcases he with he | he
        · exact hwf e he
        · rw [List.mem_singleton] at he; subst he; exact ⟨hkw, hxw⟩⟩
    refine ⟨j, _, .skip, ?_, .inr ⟨rfl, rfl⟩, hset.1, hset.2, (undef_ren j).2⟩
    rw [hren, hblk]
    unfold Instr.mapUpdate
    simp only [Sem.run_bind, run_u hc ht, Result.andThen_ok, run_getObj ho (by intros; simp), run1]
    unfold Instr.findKey
    simp only [Sem.run_bind, run_u hc hd, Result.andThen_ok, hf', Option.map_none, Sem.run_pure, run_setObj ho (by intros; simp)]
    simp [renE]
  · cases e

theorem loud_next (hr : Rel C j h w) {x x' : Value} {r : Nat} {s : ByteArray} {pos : Nat} {v : Value} {h' : H} {ty : TypeId} (hx : x' = ren j x ∧ Wf j x) (ex : x = .pointer (some ⟨r, 0, none⟩)) (hg : h.get r = some (.iter s pos))
    (e : nextV h r s pos = (v, h')) : LoudOk C j h w (do pure (Next.value (← Instr.next x' true ty))) v h' := by
  subst ex
  obtain ⟨rfl, hw⟩ := hx
  simp only [Wf] at hw
  obtain ⟨i, hi⟩ := Option.isSome_iff_exists.1 hw
  obtain ⟨ho, hb0⟩ : w.heap[i.blk]? = some (.stringIter s pos) ∧ i.base = 0 := hr.blk _ _ _ hi hg
  have hlt : i.blk < w.heap.size := (Array.getElem?_eq_some_iff.1 ho).1
  have hadr : j.addr ⟨r, 0, none⟩ = ⟨i.blk, 0, none⟩ := by simp [J.addr, hi, hb0]
  rw [ren_ptr, hadr]
  unfold nextV at e
  rw [cond_blt] at e
  by_cases hp : pos < s.size
  · rw [if_pos hp] at e
    rcases hdec : Utf8.decode s pos with ⟨c, width⟩
    rw [hdec] at e
    simp only [Prod.mk.injEq] at e
    obtain ⟨rfl, rfl⟩ := e
    have hset := set_block (w' := World.put w i.blk (.stringIter s (pos + width))) (b' := .iter s (pos + width)) hr hi hg rfl (fun k => put_get hlt k) (by simp [World.put]) rfl rfl rfl ⟨rfl, hb0⟩
    refine ⟨j, _, _, run_v ?_, .inl rfl, hset.1, hset.2, by simp [Wf, Wfs, goInt]⟩
    unfold Instr.next
    simp only [Sem.run_bind, run_getObj ho (by intros; simp), Result.andThen_ok, if_pos hp, hdec, run_setObj ho (by intros; simp), Sem.run_pure]
    simp [ren, rens, goInt]
  · rw [if_neg hp] at e
    simp only [Prod.mk.injEq] at e
    obtain ⟨rfl, rfl⟩ := e
    refine ⟨j, w, _, run_v ?_, .inl rfl, Adv.refl _ _ _, hr, by simp [Wf, Wfs]⟩
    unfold Instr.next
    simp only [Sem.run_bind, run_getObj ho (by intros; simp), Result.andThen_ok, if_neg hp, Sem.run_pure]
    simp [ren, rens]
end
end Go.Mir

/- The same, of copies, clears, deletes, appends; and all together. -/
namespace Go.Mir

section
variable {C : Ctx} {j : J} {h : H} {w : World} {ρ ρ' : Operand → Value}

theorem lenOf_ok {x : Value} {n : Nat} {P : Program} (e : lenOf x = some n) : (Builtin.lenOf (ren j x)).run P w = .ok n w := by
  cases x with
  | slice a l c =>
    simp only [lenOf] at e; cases e
    cases a <;> simp [ren, Builtin.lenOf]
  | string b =>
    simp only [lenOf] at e; cases e
    simp [ren, Builtin.lenOf]
  | _ => cases e

theorem firstCells_ok (hr : Rel C j h w) {x : Value} {s n : Nat} {cs : List Value} (hw : Wf j x) (e : firstCells h s n x = some cs) :
    (Builtin.firstCells s n (ren j x)).run C.P w = .ok ⟨cs.map (ren j)⟩ w ∧ (∀ v ∈ cs, Wf j v) := by
  unfold firstCells at e
  split at e
  · rename_i a l cap
    rw [cond_beq] at e
    rw [ren_sl]
    by_cases hn : n = 0
    · rw [if_pos hn] at e
      cases e; subst hn
      exact ⟨by simp [Builtin.firstCells, loadCells, loadCellsFrom], by simp⟩
    · rw [if_neg hn, cond_ble] at e
      by_cases hcp : cap ≤ LOOSE
      · rw [if_pos hcp] at e
        simp only [Wf] at hw
        obtain ⟨i, hi, _⟩ := hw
        have ha : (j a.block).isSome := by simp [hi]
        rw [sAddr_le hcp]
        exact ⟨by simp only [Builtin.firstCells]; exact run_read hr ha e, (read_of hr ha e).2.1⟩
      · rw [if_neg hcp] at e; cases e
  · rename_i l cap
    rw [cond_beq] at e
    by_cases hn : n = 0
    · rw [if_pos hn] at e; cases e
      exact ⟨by simp [ren, Builtin.firstCells], by simp⟩
    · rw [if_neg hn] at e; cases e
  · rename_i b
    rw [Bool.cond_eq_ite] at e
    split at e
    case isFalse => cases e
    split at e
    · rename_i bs hbs
      cases e
      rw [takeN_eq] at hbs
      split at hbs
      · cases hbs
        refine ⟨?_, ?_⟩
        · rw [ren_string]
          simp only [Builtin.firstCells, Sem.run_pure, bytes_extract]
          congr 1
          simp [List.map_map, Function.comp_def, ren_int]
        · intro v hv
          obtain ⟨b, _, rfl⟩ := List.mem_map.1 hv
          simp [Wf]
      · cases hbs
    · cases e
  · cases e

theorem zeroCells_eq (z : List Value) (hz : 0 < z.length) (n : Nat) : Builtin.zeroCells ⟨z⟩ n = ⟨rep z n⟩ := zeros_eq z hz n

theorem copy_ok (hc : CtxOk C) (hr : Rel C j h w) {t el ty : TypeId} {ats : Array TypeId} {x x' y y' : Value} {base : Option Addr} {dLen dCap s m : Nat} {v : Value} {h' : H} (hx : x' = ren j x ∧ Wf j x) (hy : y' = ren j y ∧ Wf j y) (ex : x = .slice base dLen dCap) (hat : ats[0]? = some t) (ht : C.u t = some (.slice el)) (hs : C.size el = some s) (hm : lenOf y = some m)
    (e : copyV h s (Nat.min m dLen) base dCap y = some (v, h')) :
    ∃ w', (Builtin.copy_ ats ty #[x', y']).run C.P w = .ok v w' ∧ Adv j h w j h' w' ∧ Rel C j h' w' ∧ lit v = true := by
  subst ex
  obtain ⟨rfl, hw⟩ := hx
  obtain ⟨rfl, hwy⟩ := hy
  have h0 : (#[ren j (.slice base dLen dCap), ren j y] : Array Value)[0]? = some (ren j (.slice base dLen dCap)) := rfl
  have h1 : (#[ren j (.slice base dLen dCap), ren j y] : Array Value)[1]? = some (ren j y) := rfl
  unfold copyV at e
  split at e
  · rename_i base _ _ hmn
    simp only [Option.some.injEq, Prod.mk.injEq] at e
    obtain ⟨rfl, rfl⟩ := e
    refine ⟨w, ?_, Adv.refl _ _ _, hr, rfl⟩
    have hfc : (Builtin.firstCells s 0 (ren j y)).run C.P w = .ok #[] w := by
      cases y with
      | slice a l c => cases a <;> simp [ren, Builtin.firstCells, loadCells, loadCellsFrom]
      | string b => simp [ren, Builtin.firstCells]
      | _ => cases hm
    unfold Builtin.copy_
    simp only [hat, h0, h1, Sem.run_bind, run_u hc ht, Result.andThen_ok]
    cases base with
    | none =>
      have : ren j (.slice none dLen dCap) = .slice none dLen dCap := by simp [ren]
      simp only [this, Sem.run_bind, lenOf_ok hm, Result.andThen_ok, run_size hc hs, hmn, hfc, Sem.run_pure]
      rfl
    | some a =>
      simp only [ren_sl, Sem.run_bind, lenOf_ok hm, Result.andThen_ok, run_size hc hs, hmn, hfc, Sem.run_pure]
      simp [storeCells]
  · rename_i n a hn
    split at e
    · rename_i cs hcs
      rw [cond_ble] at e
      by_cases hcp : dCap ≤ LOOSE
      · rw [if_pos hcp] at e
        split at e
        · rename_i h1' hwr
          simp only [Option.some.injEq, Prod.mk.injEq] at e
          obtain ⟨rfl, rfl⟩ := e
          obtain ⟨f1, f2⟩ := firstCells_ok hr hwy hcs
          simp only [Wf] at hw
          obtain ⟨i, hi, _⟩ := hw
          obtain ⟨w', r1, r2, r3, _⟩ := write_of hr (show (j a.block).isSome by simp [hi]) f2 hwr
          refine ⟨w', ?_, r2, r3, rfl⟩
          unfold Builtin.copy_
          simp only [hat, h0, h1, Sem.run_bind, run_u hc ht, Result.andThen_ok]
          simp only [ren_sl, sAddr_le hcp, Sem.run_bind, lenOf_ok hm, Result.andThen_ok, run_size hc hs, f1, r1, Sem.run_pure]
        · cases e
      · rw [if_neg hcp] at e; cases e
    · cases e
  · cases e

theorem clear_ok (hc : CtxOk C) (hr : Rel C j h w) {t el ty : TypeId} {ats : Array TypeId} {x x' : Value} {a : Addr} {n cap : Nat} {i : TInfo} {z : Value} {h' : H} (hx : x' = ren j x ∧ Wf j x) (ex : x = .slice (some a) n cap) (hat : ats[0]? = some t) (ht : C.u t = some (.slice el)) (hi : C.ty.get el = some i) (hz : i.info.zero = some z) (hn : n ≠ 0)
    (hb : (Nat.beq z.cells.toList.length i.info.size && Nat.ble 1 i.info.size && Nat.ble cap LOOSE) = true) (e : h.write a (rep z.cells.toList n) = some h') :
    ∃ w', (Builtin.clear_ ats ty #[x']).run C.P w = .ok noResult w' ∧ Adv j h w j h' w' ∧ Rel C j h' w' := by
  subst ex
  obtain ⟨rfl, hw⟩ := hx
  simp only [Bool.and_eq_true, Nat.ble_eq] at hb
  obtain ⟨⟨b1, b2⟩, b3⟩ := hb
  have hzs : z.cells.toList.length = i.info.size := Nat.eq_of_beq_eq_true b1
  have hl := map_ren_lit (j := j) (hc.zl _ _ _ hi hz)
  simp only [Wf] at hw
  obtain ⟨im, him, _⟩ := hw
  obtain ⟨w', r1, r2, r3, _⟩ := write_of hr (show (j a.block).isSome by simp [him]) (fun v hv => hl.2 v (rep_mem hv)) e
  refine ⟨w', ?_, r2, r3⟩
  have h0 : (#[ren j (.slice (some a) n cap)] : Array Value)[0]? = some (ren j (.slice (some a) n cap)) := rfl
  unfold Builtin.clear_
  simp only [hat, h0, Sem.run_bind, run_u hc ht, Result.andThen_ok]
  rw [ren_sl, sAddr_le b3]
  have e1 : z.cells = ⟨z.cells.toList⟩ := rfl
  have e2 := zeroCells_eq z.cells.toList (by omega) n
  obtain ⟨n, rfl⟩ : ∃ m, n = m + 1 := ⟨n - 1, by omega⟩
  simp only [Sem.run_bind, run_zeroi hc hi hz, Result.andThen_ok, Sem.run_pure]
  rw [e1, e2]
  rw [rep_ren, hl.1] at r1
  simp only [r1, Result.andThen_ok]
  rfl

theorem eraseAt_map {α β : Type} (f : α → β) : ∀ (l : List α) (n : Nat), eraseAt (l.map f) n = (eraseAt l n).map f
  | [], n => by simp [eraseAt]
  | a :: as, 0 => by simp [eraseAt]
  | a :: as, n + 1 => by simp [eraseAt, eraseAt_map f as n]

theorem delete_ok (hc : CtxOk C) (hr : Rel C j h w) {t key elem ty : TypeId} {ats : Array TypeId} {m m' k k' : Value} {r : Nat} {es : List MapEntry} {cl : Nat} {d : TypeDesc} {v : Value} {h' : H} (hm : m' = ren j m ∧ Wf j m) (hk : k' = ren j k ∧ Wf j k) (em : m = .map (some r)) (hat : ats[0]? = some t) (ht : C.u t = some (.map key elem)) (hg : h.get r = some (.map es cl)) (hd : C.u key = some d) (hkd : keyD d = true)
    (e : (match Instr.findNow d k es 0 with
            | some (some (i, _)) => some (noResult, h.set r (.map (eraseAt es i) cl))
            | some none => some (noResult, h)
            | none => none) = some (v, h')) :
    ∃ w', (Builtin.delete_ ats ty #[m', k']).run C.P w = .ok noResult w' ∧ v = noResult ∧ Adv j h w j h' w' ∧ Rel C j h' w' := by
  subst em
  obtain ⟨rfl, hw⟩ := hm
  obtain ⟨rfl, hkw⟩ := hk
  simp only [Wf] at hw
  obtain ⟨i, hi, ho, hwf⟩ := map_of hr hw hg
  have hkd' := keyD_of hkd
  have run1 : ∀ b, (Instr.checkKey b 10000 key (ren j k)).run C.P w = .ok () w := fun b => checkKey_ok hc hd hkd'.1 hkd'.2 b 9999
  have hren : ren j (.map (some r)) = .map (some (j.blk r)) := by simp only [ren]
  have hblk : j.blk r = i.blk := by simp [J.blk, hi]
  rw [hblk] at ho
  have hlt : i.blk < w.heap.size := (Array.getElem?_eq_some_iff.1 ho).1
  have h0 : (#[Value.map (some i.blk), ren j k] : Array Value)[0]? = some (Value.map (some i.blk)) := rfl
  have h1 : (#[Value.map (some i.blk), ren j k] : Array Value)[1]? = some (ren j k) := rfl
  rw [hren, hblk]
  split at e
  · rename_i n v0 hf
    cases e
    have hf' := findNow_ren (j := j) hf
    have hset := set_block (w' := World.put w i.blk (.map ⟨(eraseAt es n).map (renE j)⟩ cl)) (b' := .map (eraseAt es n) cl) hr hi hg rfl (fun k => put_get hlt k) (by simp [World.put]) rfl rfl rfl
      ⟨rfl, fun e he => hwf e (by rw [eraseAt_eq] at he; exact List.mem_of_mem_eraseIdx he)⟩
    refine ⟨_, ?_, rfl, hset.1, hset.2⟩
    unfold Builtin.delete_
    simp only [hat, h0, h1, Sem.run_bind, run_u hc ht, Result.andThen_ok, run_getObj ho (by intros; simp), run1]
    unfold Instr.findKey
    simp only [Sem.run_bind, run_u hc hd, Result.andThen_ok, hf', Option.map_some, Sem.run_pure, run_setObj ho (by intros; simp)]
    have : (⟨es.map (renE j)⟩ : Array MapEntry).eraseIdxIfInBounds n = ⟨(eraseAt es n).map (renE j)⟩ := by
      apply Array.ext'
      rw [← eraseAt_map, eraseAt_eq]
      simp
    rw [this]; rfl
  · rename_i hf
    cases e
    have hf' := findNow_ren (j := j) hf
    refine ⟨w, ?_, rfl, Adv.refl _ _ _, hr⟩
    unfold Builtin.delete_
    simp only [hat, h0, h1, Sem.run_bind, run_u hc ht, Result.andThen_ok, run_getObj ho (by intros; simp), run1]
    unfold Instr.findKey
    simp only [Sem.run_bind, run_u hc hd, Result.andThen_ok, hf', Option.map_none, Sem.run_pure, run_setObj ho (by intros; simp)]
    rw [put_self ho]; rfl
  · cases e
end
end Go.Mir

/- The built-in append. -/
namespace Go.Mir

section
variable {C : Ctx} {j : J} {h : H} {w : World} {ρ ρ' : Operand → Value}

/-- A new block. -/
theorem new_block {i : Img} {b : Blk} {ob : Obj} {w' : World} (hr : Rel C j h w) (hn : j h.next = none) (hi : i.blk = w.heap.size) (hh : w'.heap = w.heap.push ob) (hb : BlkRel C (j.upd h.next i) i b (some ob))
    (ho : w'.os = w.os) (hout : w'.output = w.output) (htape : w'.tape = w.tape) (hrom : ∀ c, b ≠ .rom c := by intro c h; cases h) :
    Adv j h w (j.upd h.next i) (h.new b) w' ∧ Rel C (j.upd h.next i) (h.new b) w' := by
  have hle : Ext.le j (j.upd h.next i) := upd_le hn
  have old : ∀ a k, j.upd h.next i a = some k → a ≠ h.next → j a = some k := fun a k e hne => by
    simp only [J.upd, if_neg hne] at e; exact e
  have hget : ∀ k, k < w.heap.size → w'.heap[k]? = w.heap[k]? := fun k hk => by
    rw [hh, Array.getElem?_push, if_neg (by omega)]
  have hheld : ∀ x, x < w.heap.size → Held (j.upd h.next i) (h.new b) x → Held j h x := by
    rintro x hx ⟨a1, i1, b1, h1, h2, h3, h4⟩
    rw [H.get_new] at h2
    by_cases ha : h.next = a1
    · subst ha
      rw [upd_self] at h1; cases h1
      omega
    · rw [if_neg ha] at h2
      exact ⟨a1, i1, b1, old a1 i1 h1 (Ne.symm ha), h2, h3, h4⟩
  have hback : ∀ a1 i1 c, j.upd h.next i a1 = some i1 → (h.new b).get a1 = some (.rom c) → j a1 = some i1 ∧ h.get a1 = some (.rom c) := fun a1 i1 c h1 h2 => by
    rw [H.get_new] at h2
    by_cases ha : h.next = a1
    · rw [if_pos ha] at h2; cases h2; exact absurd rfl (hrom c)
    · rw [if_neg ha] at h2; exact ⟨old a1 i1 h1 (Ne.symm ha), h2⟩
  refine ⟨⟨hle, ?_, by simp [H.new], by rw [hh]; simp, hheld, fun x hx _ => hget x hx, ?_, ho, hout, htape, hback⟩, ⟨?_, ?_, ?_, ?_, rom_next hr hheld hback⟩⟩
  · intro a k e hn2
    by_cases ha : a = h.next
    · subst ha; simp [H.new]
    · rw [old a k e ha] at hn2; cases hn2
  · intro a ha hn2
    rw [H.get_new, if_neg (by omega)]
  · intro a1 i1 b1 h1 h2
    rw [H.get_new] at h2
    by_cases ha : h.next = a1
    · subst ha
      rw [if_pos rfl] at h2; cases h2
      rw [upd_self] at h1; cases h1
      rw [hh, hi]; simpa using hb
    · rw [if_neg ha] at h2
      have h1' := old a1 i1 h1 (Ne.symm ha)
      exact ((hr.blk _ _ _ h1' h2).le hle).same fun hd => hget _ (solid_lt hr h1' h2 hd)
  · intro a1 a2 i1 i2 b1 b2 h1 h2 h3 h4 h5 h6 h7
    rw [H.get_new] at h3 h4
    by_cases e1 : h.next = a1
    · by_cases e2 : h.next = a2
      · rw [← e1, e2]
      · rw [if_neg e2] at h4
        have := lt_of_rel hr (old a2 i2 h2 (Ne.symm e2)) h4 h6
        subst e1; rw [upd_self] at h1; cases h1; omega
    · rw [if_neg e1] at h3
      by_cases e2 : h.next = a2
      · have := lt_of_rel hr (old a1 i1 h1 (Ne.symm e1)) h3 h5
        subst e2; rw [upd_self] at h2; cases h2; omega
      · rw [if_neg e2] at h4
        exact hr.inj _ _ _ _ _ _ (old a1 i1 h1 (Ne.symm e1)) (old a2 i2 h2 (Ne.symm e2)) h3 h4 h5 h6 h7
  · intro a1 b1 h1
    rw [H.get_new] at h1
    by_cases e : h.next = a1
    · subst e; simp [H.new]
    · rw [if_neg e] at h1
      have := hr.lt _ _ h1
      simp only [H.next_new]; omega
  · intro g hg
    obtain ⟨k, h1, h2⟩ := hr.glob g hg
    exact ⟨k, hle _ _ h1, h2⟩

/-- A block is given up. -/
theorem kill_block {a : Nat} {i : Img} {b : Blk} (hr : Rel C j h w) (hi : j a = some i) (hg : h.get a = some b) : Adv j h w j (h.set a .dead) w ∧ Rel C j (h.set a .dead) w := by
  have hheld : ∀ x, x < w.heap.size → Held j (h.set a .dead) x → Held j h x := by
    rintro x hx ⟨a1, i1, b1, h1, h2, h3, h4⟩
    rw [H.get_set] at h2
    by_cases e : a = a1
    · rw [if_pos e] at h2; cases h2; cases h3
    · rw [if_neg e] at h2; exact ⟨a1, i1, b1, h1, h2, h3, h4⟩
  have hback : ∀ a1 i1 c, j a1 = some i1 → (h.set a .dead).get a1 = some (.rom c) → j a1 = some i1 ∧ h.get a1 = some (.rom c) := fun a1 i1 c h1 h2 => by
    rw [H.get_set] at h2
    by_cases e : a = a1
    · rw [if_pos e] at h2; cases h2
    · rw [if_neg e] at h2; exact ⟨h1, h2⟩
  refine ⟨⟨fun _ _ e => e, fun x k e n => (by rw [n] at e; cases e), Nat.le_refl _, Nat.le_refl _, hheld, fun _ _ _ => rfl, ?_, rfl, rfl, rfl, hback⟩, ⟨?_, ?_, ?_, hr.glob, rom_next hr hheld hback⟩⟩
  · intro x hx hn
    rw [H.get_set, if_neg (fun e => by subst e; rw [hi] at hn; cases hn)]
  · intro a1 i1 b1 h1 h2
    rw [H.get_set] at h2
    by_cases e : a = a1
    · rw [if_pos e] at h2; cases h2; trivial
    · rw [if_neg e] at h2; exact hr.blk _ _ _ h1 h2
  · intro a1 a2 i1 i2 b1 b2 h1 h2 h3 h4 h5 h6 h7
    rw [H.get_set] at h3 h4
    by_cases e1 : a = a1
    · rw [if_pos e1] at h3; cases h3; cases h5
    · rw [if_neg e1] at h3
      by_cases e2 : a = a2
      · rw [if_pos e2] at h4; cases h4; cases h6
      · rw [if_neg e2] at h4; exact hr.inj _ _ _ _ _ _ h1 h2 h3 h4 h5 h6 h7
  · intro a1 b1 h1
    rw [H.get_set] at h1
    by_cases e : a = a1
    · subst e; exact hr.lt _ _ hg
    · rw [if_neg e] at h1; exact hr.lt _ _ h1

theorem grow_le (need : Nat) : ∀ (r c : Nat), c ≤ need → Builtin.growBy need r c ≤ 2 * need + 200
  | 0, c, h => by simp only [Builtin.growBy]; omega
  | r + 1, c, h => by
    simp only [Builtin.growBy]
    split
    · omega
    · by_cases hh : c + (c + 768) / 4 ≤ need
      · exact grow_le need r _ hh
      · cases r with
        | zero => simp only [Builtin.growBy]; omega
        | succ r => simp only [Builtin.growBy]; rw [if_pos (by omega)]; omega

theorem cap_le {need old : Nat} (h : old < need) : Builtin.nextslicecap need old ≤ 2 * need + 200 := by
  unfold Builtin.nextslicecap
  split
  · omega
  · split
    · omega
    · exact grow_le need 4 old (by omega)

/-- What is appended, as the model reads it: so many zeros, or the elements of a slice or string. -/
def Src (C : Ctx) (w : World) (i : TInfo) (dx : TypeDesc) (x' : Value) (n : Nat) (new : List Value) : Prop :=
  if isIntD (some dx) = true then (∃ k, x' = .int k (n : Int)) ∧ ∃ z, i.info.zero = some z ∧ z.cells.toList.length = i.info.size ∧ 0 < i.info.size ∧ new = rep z.cells.toList n
  else (Builtin.lenOf x').run C.P w = .ok n w ∧ ∀ d, (Builtin.firstCells i.info.size n x').run C.P { w with drawn := d } = .ok ⟨new⟩ { w with drawn := d }

theorem run_append_in (hc : CtxOk C) {ts tx ty el : TypeId} {i : TInfo} {dx : TypeDesc} {base : Option Addr} {sLen sCap n : Nat} {x' : Value} {new : List Value} {w' : World} (ht : C.u ts = some (.slice el)) (hi : C.ty.get el = some i) (hx : C.u tx = some dx)
    (hs : Src C w i dx x' n new) (hb : n * i.info.bytes ≤ 2 ^ 40) (hb1 : 1 ≤ i.info.bytes) (hcap : sLen + n ≤ sCap) (hst : match base with | some a => (storeCells (a.add (sLen * i.info.size)) new).run C.P w = .ok () w' | none => w' = w) :
    (Builtin.append_ #[ts, tx] ty #[.slice base sLen sCap, x']).run C.P w = .ok (.slice base (sLen + n) sCap) w' := by
  have h0 : (#[ts, tx] : Array TypeId)[0]? = some ts := rfl
  have h1 : (#[ts, tx] : Array TypeId)[1]? = some tx := rfl
  have h2 : (#[.slice base sLen sCap, x'] : Array Value)[0]? = some (.slice base sLen sCap) := rfl
  have h3 : (#[.slice base sLen sCap, x'] : Array Value)[1]? = some x' := rfl
  have hn : n ≤ 2 ^ 40 := Nat.le_trans (Nat.le_mul_of_pos_right n hb1) hb
  unfold Src at hs
  cases hz : isIntD (some dx) with
  | true =>
    rw [if_pos hz] at hs
    obtain ⟨⟨k, rfl⟩, z, hz1, hz2, hz3, rfl⟩ := hs
    obtain ⟨kd, rfl⟩ : ∃ kd, dx = .int kd := by cases dx <;> first | exact ⟨_, rfl⟩ | (simp [isIntD] at hz; done)
    have hw : IntKind.i64.wrap (n : Int) = n := wrap_small n (by omega)
    have hbi : ¬ ((n : Int) * (i.info.bytes : Int) > 2 ^ 48) := by
      have : (n : Int) * (i.info.bytes : Int) = ((n * i.info.bytes : Nat) : Int) := by simp
      rw [this]; omega
    have hn0 : ¬ ((n : Int) < 0) := by omega
    have e1 : z.cells = ⟨z.cells.toList⟩ := rfl
    have e2 := zeroCells_eq z.cells.toList (by omega) n
    have hnew : (if n * i.info.size = 0 then pure #[] else (do pure (Builtin.zeroCells (← zeroValue el).cells n) : Sem (Array Value))).run C.P w = .ok ⟨rep z.cells.toList n⟩ w := by
      by_cases hn1 : n * i.info.size = 0
      · have : n = 0 := by
          rcases Nat.mul_eq_zero.1 hn1 with h | h
          · exact h
          · omega
        subst this; simp [rep]
      · rw [if_neg hn1]
        simp only [Sem.run_bind, run_zeroi hc hi hz1, Result.andThen_ok, Sem.run_pure]
        rw [e1, e2]
    unfold Builtin.append_
    simp only [h0, h1, h2, h3, Sem.run_bind, run_u hc ht, run_u hc hx, Result.andThen_ok, run_sizei hc hi, Sem.run_pure, if_true, asInt, asIntOf, hw, if_neg hn0, run_ti hc hi, if_neg hbi, Int.toNat_natCast, if_pos hcap, Bool.not_true, Bool.false_eq_true, if_false, hnew]
    cases base with
    | none => simp only at hst; subst hst; rfl
    | some a => simp only at hst; simp only [Sem.run_bind, hst, Result.andThen_ok, Sem.run_pure]
  | false =>
    rw [if_neg (by rw [hz]; simp)] at hs
    obtain ⟨s1, s2⟩ := hs
    replace s2 := s2 w.drawn
    unfold Builtin.append_
    cases dx <;> first
      | (simp [isIntD] at hz; done)
      | (simp only [h0, h1, h2, h3, Sem.run_bind, run_u hc ht, run_u hc hx, Result.andThen_ok, run_sizei hc hi, Sem.run_pure, Bool.false_eq_true, if_false, s1, if_pos hcap, Bool.not_false, if_true, s2]
         cases base with
         | none => simp only at hst; subst hst; rfl
         | some a => simp only at hst; simp only [Sem.run_bind, hst, Result.andThen_ok, Sem.run_pure])

theorem run_append_out (hc : CtxOk C) {ts tx ty el : TypeId} {i : TInfo} {dx : TypeDesc} {base : Option Addr} {sLen sCap n : Nat} {x' : Value} {new old : List Value} {z : Value} (ht : C.u ts = some (.slice el)) (hi : C.ty.get el = some i) (hx : C.u tx = some dx)
    (hs : Src C w i dx x' n new) (hb : (sLen + n) * i.info.bytes ≤ 2 ^ 40) (hb1 : 1 ≤ i.info.bytes) (hb2 : i.info.bytes ≤ 2 ^ 20) (hcap : sCap < sLen + n) (hz0 : i.info.zero = some z) (hz1 : z.cells.toList.length = i.info.size) (hz2 : 0 < i.info.size)
    (hold : ∀ d, (Builtin.firstCells i.info.size sLen (.slice base sLen sCap)).run C.P { w with drawn := d } = .ok ⟨old⟩ { w with drawn := d }) :
    ∃ nc, sLen + n ≤ nc ∧ (Builtin.append_ #[ts, tx] ty #[.slice base sLen sCap, x']).run C.P w = .ok (.slice (some ⟨w.heap.size, 0, none⟩) (sLen + n) nc)
      { w with heap := w.heap.push (.cells ⟨old ++ new ++ rep z.cells.toList (nc - (sLen + n))⟩ el (0, 0)), drawn := w.drawn + 1 } := by
  refine ⟨(sLen + n) + w.tape w.drawn (.appendCap (sLen + n) sCap el) % (2 ^ 63 - (sLen + n)), Nat.le_add_right _ _, ?_⟩
  generalize hnc : (sLen + n) + w.tape w.drawn (.appendCap (sLen + n) sCap el) % (2 ^ 63 - (sLen + n)) = nc
  have hcut : (Question.appendCap (sLen + n) sCap el).cut (w.tape w.drawn (.appendCap (sLen + n) sCap el)) = nc := hnc
  have h0 : (#[ts, tx] : Array TypeId)[0]? = some ts := rfl
  have h1 : (#[ts, tx] : Array TypeId)[1]? = some tx := rfl
  have h2 : (#[.slice base sLen sCap, x'] : Array Value)[0]? = some (.slice base sLen sCap) := rfl
  have h3 : (#[.slice base sLen sCap, x'] : Array Value)[1]? = some x' := rfl
  have hsn : sLen + n ≤ 2 ^ 40 := Nat.le_trans (Nat.le_mul_of_pos_right _ hb1) hb
  have hn : n ≤ 2 ^ 40 := by omega
  have hncap : ¬ (sLen + n ≤ sCap) := by omega
  have hmax : ¬ (((sLen + n : Nat) : Int) > IntKind.i64.max) := by
    have : IntKind.i64.max = 2 ^ 63 - 1 := rfl
    rw [this]; omega
  have hmax' : ∀ p : Prop, ¬ (((sLen + n : Nat) : Int) > IntKind.i64.max ∧ p) := fun p hh => hmax hh.1
  have hgrow : ¬ (Builtin.nextslicecap (sLen + n) sCap * i.info.bytes > 2 ^ 48) := by
    have h1 := cap_le hcap
    have h2 : Builtin.nextslicecap (sLen + n) sCap * i.info.bytes ≤ (2 * (sLen + n) + 200) * i.info.bytes := Nat.mul_le_mul_right _ h1
    have h3 : (2 * (sLen + n) + 200) * i.info.bytes = 2 * ((sLen + n) * i.info.bytes) + 200 * i.info.bytes := by
      rw [Nat.add_mul, Nat.mul_assoc]
    omega
  have hroom : ∀ b w, (askRoom b).run C.P w = .ok () w := fun b w => run_askRoom C.P w b
  have e1 : z.cells = ⟨z.cells.toList⟩ := rfl
  have hrest : Builtin.zeroCells z.cells (nc - (sLen + n)) = ⟨rep z.cells.toList (nc - (sLen + n))⟩ := by
    rw [e1]; exact zeroCells_eq z.cells.toList (by omega) _
  have happ : (⟨old⟩ ++ ⟨new⟩ ++ ⟨rep z.cells.toList (nc - (sLen + n))⟩ : Array Value) = ⟨old ++ new ++ rep z.cells.toList (nc - (sLen + n))⟩ := by
    apply Array.ext'; simp
  have hforced : (Question.appendCap (sLen + n) sCap el).forced = false := rfl
  unfold Src at hs
  cases hz : isIntD (some dx) with
  | true =>
    rw [if_pos hz] at hs
    obtain ⟨⟨k, rfl⟩, z', hz1', hz2', hz3', rfl⟩ := hs
    rw [hz0] at hz1'; cases hz1'
    obtain ⟨kd, rfl⟩ : ∃ kd, dx = .int kd := by cases dx <;> first | exact ⟨_, rfl⟩ | (simp [isIntD] at hz; done)
    have hw : IntKind.i64.wrap (n : Int) = n := wrap_small n (by omega)
    have hbi : ¬ ((n : Int) * (i.info.bytes : Int) > 2 ^ 48) := by
      have h4 : (n : Int) * (i.info.bytes : Int) = ((n * i.info.bytes : Nat) : Int) := by simp
      have h5 : n * i.info.bytes ≤ (sLen + n) * i.info.bytes := Nat.mul_le_mul_right _ (by omega)
      rw [h4]; omega
    have hn0 : ¬ ((n : Int) < 0) := by omega
    have e2 := zeroCells_eq z.cells.toList (by omega) n
    have hnew : ∀ w, (if n * i.info.size = 0 then pure #[] else (do pure (Builtin.zeroCells (← zeroValue el).cells n) : Sem (Array Value))).run C.P w = .ok ⟨rep z.cells.toList n⟩ w := by
      intro w
      by_cases hn1 : n * i.info.size = 0
      · have : n = 0 := by
          rcases Nat.mul_eq_zero.1 hn1 with h | h
          · exact h
          · omega
        subst this; simp [rep]
      · rw [if_neg hn1]
        simp only [Sem.run_bind, run_zeroi hc hi hz0, Result.andThen_ok, Sem.run_pure]
        rw [e1, e2]
    unfold Builtin.append_
    simp only [h0, h1, h2, h3, Sem.run_bind, run_u hc ht, run_u hc hx, Result.andThen_ok, run_sizei hc hi, Sem.run_pure, if_true, asInt, asIntOf, hw, if_neg hn0, run_ti hc hi, if_neg hbi, Int.toNat_natCast, if_neg hncap, if_neg (hmax' _), if_neg hgrow, run_choose, hforced, hcut, hold, Bool.not_true, Bool.false_eq_true, if_false, hnew, hroom, run_zeroi hc hi hz0, hrest, happ, newRow, run_newObj]
  | false =>
    rw [if_neg (by rw [hz]; simp)] at hs
    obtain ⟨s1, s2⟩ := hs
    unfold Builtin.append_
    cases dx <;> first
      | (simp [isIntD] at hz; done)
      | (simp only [h0, h1, h2, h3, Sem.run_bind, run_u hc ht, run_u hc hx, Result.andThen_ok, run_sizei hc hi, Sem.run_pure, Bool.false_eq_true, if_false, s1, run_ti hc hi, if_neg hncap, if_neg (hmax' _), if_neg hgrow, run_choose, hforced, hcut, hold, s2, Bool.not_false, if_true, hroom, run_zeroi hc hi hz0, hrest, happ, newRow, run_newObj])
end
end Go.Mir

/- Append, as the evaluator has it. -/
namespace Go.Mir

section
variable {C : Ctx} {j : J} {h : H} {w : World} {ρ ρ' : Operand → Value}

theorem Rel.drawn (hr : Rel C j h w) (d : Nat) : Rel C j h { w with drawn := d } := ⟨hr.blk, hr.inj, hr.lt, hr.glob, hr.rom⟩

theorem rens_wf {l : List Value} (h : ∀ v ∈ l, Wf j v) {j' : J} (hl : Ext.le j j') : l.map (ren j') = l.map (ren j) ∧ ∀ v ∈ l, Wf j' v :=
  ⟨List.map_congr_left fun v hv => (h v hv).ren hl, fun v hv => (h v hv).le hl⟩

/-- A row that an append has made. -/
theorem grown_rel {i : Img} {c rest : List Value} (hn : j h.next = none) (hw : ∀ v ∈ c, Wf j v) (hb : i.base = 0) (hl : c.length = i.n) (he : i.ext = c.length + rest.length) (el : TypeId) :
    BlkRel C (j.upd h.next i) i (.cells c i.esz) (some (.cells ⟨c.map (ren j) ++ rest⟩ el (0, 0))) := by
  refine ⟨_, _, _, rfl, hl, rfl, by simp [hb, he], by omega, .inl rfl, fun k v hk => ?_⟩
  have hm : v ∈ c := List.mem_of_getElem? hk
  have hk2 : k < c.length := (List.getElem?_eq_some_iff.1 hk).1
  refine ⟨?_, (hw v hm).le (upd_le hn)⟩
  rw [hb, (hw v hm).ren (upd_le hn), Nat.zero_add]
  have : (⟨c.map (ren j) ++ rest⟩ : Array Value)[k]? = (c.map (ren j) ++ rest)[k]? := by simp
  rw [this, List.getElem?_append_left (by simpa using hk2), List.getElem?_map, hk]; rfl

theorem div_room {need e s : Nat} (h : need ≤ e / s) : need * s ≤ e := Nat.le_trans (Nat.mul_le_mul_right _ h) (Nat.div_mul_le_self e s)

theorem cells_len {x : Value} {s n : Nat} {cs : List Value} (hr : Rel C j h w) (hw : Wf j x) (e : firstCells h s n x = some cs) : cs.length = n * s := by
  unfold firstCells at e
  split at e
  · rename_i a l cap
    rw [cond_beq] at e
    by_cases hn : n = 0
    · rw [if_pos hn] at e; cases e; simp [hn]
    · rw [if_neg hn, cond_ble] at e
      by_cases hcp : cap ≤ LOOSE
      · rw [if_pos hcp] at e
        simp only [Wf] at hw
        obtain ⟨i, hi, _⟩ := hw
        exact (read_of hr (by simp [hi]) e).1
      · rw [if_neg hcp] at e; cases e
  · rw [cond_beq] at e
    by_cases hn : n = 0
    · rw [if_pos hn] at e; cases e; simp [hn]
    · rw [if_neg hn] at e; cases e
  · rename_i b
    rw [cond_beq] at e
    split at e
    case isFalse => cases e
    rename_i h1
    subst h1
    split at e
    · rename_i bs hbs
      cases e
      have := take_of (o := 0) (show takeN n (dropN 0 b.data.toList) = some bs from hbs)
      simp [this.1]
    · cases e
  · cases e

theorem append_over (hc : CtxOk C) (hr : Rel C j h w) {ts tx ty el : TypeId} {i : TInfo} {dx : TypeDesc} {a : Addr} {sLen sCap n : Nat} {x : Value} {new old c : List Value} {im : Img}
    (ht : C.u ts = some (.slice el)) (hi : C.ty.get el = some i) (hx : C.u tx = some dx) (hsrc : Src C w i dx (ren j x) n (new.map (ren j))) (hnwf : ∀ v ∈ new, Wf j v) (hone : allB oneCell new = true)
    (hb : n * i.info.bytes ≤ 2 ^ 40) (hb1 : 1 ≤ i.info.bytes) (hsp : spotless (some a) = true) (him : j a.block = some im) (hg : h.get a.block = some (.cells c i.info.size)) (hw1 : Wf j (.slice (some a) sLen sCap)) (hold : firstCells h i.info.size sLen (.slice (some a) sLen sCap) = some old) (howf : ∀ v ∈ old, Wf j v)
    (hL : LOOSE ≤ sCap) (hesz : im.esz = i.info.size) (hn0 : n ≠ 0) (hs1 : 0 < i.info.size) (hin : sLen + n ≤ j.sCap a sCap) (hnn : j h.next = none) (holdlen : old.length = sLen * i.info.size) (hnewlen : new.length = n * i.info.size) :
    ∃ (j' : J) (w' : World), (Builtin.append_ ⟨[ts, tx]⟩ ty ⟨[Value.slice (some a) sLen sCap, x].map (ren j)⟩).run C.P w = .ok (ren j' (.slice (some ⟨h.next, 0, none⟩) (sLen + n) LOOSE)) w' ∧
      Adv j h w j' ((h.set a.block .dead).new (.cells (old ++ new) i.info.size)) w' ∧ Rel C j' ((h.set a.block .dead).new (.cells (old ++ new) i.info.size)) w' ∧ Wf j' (.slice (some ⟨h.next, 0, none⟩) (sLen + n) LOOSE) := by
  obtain ⟨k1, k2⟩ := kill_block hr him hg
  obtain ⟨c', el', fz, ho, b1, b2, b3, b4, b5, b6⟩ := hr.blk _ _ _ him hg
  have hblt : im.blk < w.heap.size := (Array.getElem?_eq_some_iff.1 ho).1
  obtain ⟨k, hk⟩ : ∃ k, sCap - LOOSE = k := ⟨_, rfl⟩
  generalize hs : i.info.size = s at *
  have hlast : j.last a = (im.ext - a.off) / s := by simp [J.last, him, hesz]
  have hsc : j.sCap a sCap = j.last a - k := by simp [J.sCap, hL, hk]
  have hin2 : sLen + n ≤ j.last a - k := by rw [← hsc]; exact hin
  have hne : j.last a ≠ k := by omega
  have hfit : (sLen + n + k) * s ≤ im.ext - a.off := div_room (by rw [← hlast]; omega)
  have hpos : 0 < (sLen + n + k) * s := Nat.mul_pos (by omega) hs1
  have hks : k * s + sLen * s + n * s ≤ im.ext - a.off := by
    have : (sLen + n + k) * s = k * s + sLen * s + n * s := by rw [Nat.add_mul, Nat.add_mul]; omega
    omega
  have hoff : a.off < im.ext := by omega
  have hspn : a.spot = none := by simpa [spotless] using hsp
  have hadr : j.sAddr a sCap = ⟨im.blk, im.base + a.off + k * s, none⟩ := by
    unfold J.sAddr
    rw [if_pos ⟨hL, by rw [hk]; exact hne⟩, hk]
    have e1 : j.addr a = ⟨im.blk, im.base + a.off, none⟩ := by simp [J.addr, him, hspn]
    have e2 : j.esz a = s := by simp [J.esz, him, hesz]
    rw [e1, e2]
    unfold Addr.add
    by_cases h0 : k * s = 0
    · rw [if_pos h0, h0]; rfl
    · rw [if_neg h0]
  generalize hA : j.sAddr a sCap = A at hadr
  generalize hB : j.sCap a sCap = B at hsc
  have hadr2 : A.add (sLen * s) = ⟨im.blk, im.base + a.off + k * s + sLen * s, none⟩ := by
    rw [hadr]; unfold Addr.add
    by_cases h0 : sLen * s = 0
    · rw [if_pos h0, h0]; rfl
    · rw [if_neg h0]
  have hone' : ∀ v ∈ new.map (ren j), oneCell v = true := by
    intro v hv
    obtain ⟨u, hu, rfl⟩ := List.mem_map.1 hv
    rw [oneCell_ren]; exact (allB_iff _ _).1 hone u hu
  obtain ⟨c2, r1, r2, r3⟩ := run_storeCells (P := C.P) im.blk (im.base + a.off + k * s + sLen * s) el' fz (new.map (ren j)) 0 c' w ho b5 (by rw [List.length_map, hnewlen, b3]; omega) hone'
  have hrun : (Builtin.append_ #[ts, tx] ty #[.slice (some A) sLen B, ren j x]).run C.P w = .ok (.slice (some A) (sLen + n) B) (World.put w im.blk (.cells c2 el' fz)) :=
    run_append_in hc ht hi hx hsrc hb hb1 (by rw [hsc]; exact hin2) (by simp only; rw [hs, hadr2]; exact r1)
  let im2 : Img := ⟨im.blk, im.base + a.off + k * s, (sLen + n) * s, s, im.ext - a.off - k * s⟩
  have hle : Ext.le j (j.upd h.next im2) := upd_le hnn
  have hlen : (old ++ new).length = (sLen + n) * s := by rw [List.length_append, holdlen, hnewlen, Nat.add_mul]
  have howf2 : ∀ v ∈ old ++ new, Wf j v := fun v hv => by
    rw [List.mem_append] at hv
    exact hv.elim (howf v) (hnwf v)
  -- the old elements lie where they lay
  have holdget : ∀ q v, old[q]? = some v → c'[im.base + a.off + k * s + q]? = some (ren j v) := by
    intro q v hq
    have hql : q < sLen * s := by rw [← holdlen]; exact (List.getElem?_eq_some_iff.1 hq).1
    have hsl : sLen ≠ 0 := fun hh => by subst hh; omega
    simp only [firstCells] at hold
    rw [cond_beq, if_neg hsl, cond_ble] at hold
    by_cases hcp : sCap ≤ LOOSE
    · rw [if_pos hcp] at hold
      have hk0 : k = 0 := by omega
      subst hk0
      unfold H.read at hold
      have hcs : h.cells? a.block = some c := by simp [H.cells?, hg]
      rw [hcs, hspn] at hold
      obtain ⟨_, _, t3⟩ := take_of hold
      rw [t3 q hql] at hq
      have := (b6 _ _ hq).1
      rw [Nat.zero_mul, Nat.add_zero, Nat.add_assoc]; exact this
    · rw [if_neg hcp] at hold; cases hold
  have hbr : BlkRel C (j.upd h.next im2) im2 (.cells (old ++ new) s) (some (.cells c2 el' fz)) := by
    refine ⟨c2, el', fz, rfl, hlen, rfl, ?_, ?_, by rw [r2]; exact b5, fun q v hq => ?_⟩
    · rw [r2, b3]; show im.base + im.ext = im.base + a.off + k * s + (im.ext - a.off - k * s); omega
    · show (sLen + n) * s ≤ im.ext - a.off - k * s
      rw [Nat.add_mul]; omega
    · have hm := howf2 v (List.mem_of_getElem? hq)
      refine ⟨?_, hm.le hle⟩
      rw [hm.ren hle]
      show c2[im.base + a.off + k * s + q]? = _
      rw [r3]
      by_cases hql : q < sLen * s
      · rw [if_neg (by omega)]
        rw [List.getElem?_append_left (by rw [holdlen]; exact hql)] at hq
        exact holdget q v hq
      · have hqn : q < (sLen + n) * s := by rw [← hlen]; exact (List.getElem?_eq_some_iff.1 hq).1
        rw [Nat.add_mul] at hqn
        rw [if_pos (by rw [List.length_map, hnewlen]; omega)]
        rw [List.getElem?_append_right (by rw [holdlen]; omega), holdlen] at hq
        have : im.base + a.off + k * s + q - (im.base + a.off + k * s + sLen * s + 0) = q - sLen * s := by omega
        rw [this, List.getElem?_map, hq]; rfl
  have hnh : ¬ Held j (h.set a.block .dead) im.blk := by
    rintro ⟨a1, i1, x1, h1, h2, h3, h4⟩
    rw [H.get_set] at h2
    by_cases e : a.block = a1
    · rw [if_pos e] at h2; cases h2; cases h3
    · rw [if_neg e] at h2
      exact e (hr.inj _ _ _ _ _ _ him h1 hg h2 rfl h3 h4.symm)
  have old_ : ∀ b q, j.upd h.next im2 b = some q → b ≠ h.next → j b = some q := fun b q e hne => by
    simp only [J.upd, if_neg hne] at e; exact e
  have hput : ∀ q, (World.put w im.blk (.cells c2 el' fz)).heap[q]? = if im.blk = q then some (.cells c2 el' fz) else w.heap[q]? := fun q => put_get hblt q
  have hnx : (h.set a.block .dead).next = h.next := rfl
  have hheld2 : ∀ q, q < w.heap.size → Held (j.upd h.next im2) ((h.set a.block .dead).new (.cells (old ++ new) s)) q → Held j h q := by
    rintro q hq ⟨a1, i1, x1, h1, h2, h3, h4⟩
    rw [H.get_new, hnx] at h2
    by_cases e : h.next = a1
    · subst e
      rw [upd_self] at h1; cases h1
      exact ⟨a.block, im, _, him, hg, rfl, h4⟩
    · rw [if_neg e] at h2
      exact k1.held q hq ⟨a1, i1, x1, old_ _ _ h1 (Ne.symm e), h2, h3, h4⟩
  have hback : ∀ a1 i1 c9, j.upd h.next im2 a1 = some i1 → ((h.set a.block .dead).new (.cells (old ++ new) s)).get a1 = some (.rom c9) → j a1 = some i1 ∧ h.get a1 = some (.rom c9) := fun a1 i1 c9 h1 h2 => by
    rw [H.get_new, hnx] at h2
    by_cases e : h.next = a1
    · rw [if_pos e] at h2; cases h2
    · rw [if_neg e, H.get_set] at h2
      by_cases e3 : a.block = a1
      · rw [if_pos e3] at h2; cases h2
      · rw [if_neg e3] at h2; exact ⟨old_ _ _ h1 (Ne.symm e), h2⟩
  refine ⟨j.upd h.next im2, World.put w im.blk (.cells c2 el' fz), ?_, ⟨hle, ?_, by simp [H.new, H.set], by simp [World.put], hheld2, ?_, ?_, rfl, rfl, rfl, hback⟩, ⟨?_, ?_, ?_, ?_, rom_next hr hheld2 hback⟩, ?_⟩
  · have e1 : (⟨[Value.slice (some a) sLen sCap, x].map (ren j)⟩ : Array Value) = #[.slice (some A) sLen B, ren j x] := by
      simp only [List.map_cons, List.map_nil, ren_sl, hA, hB]
    have e2 : (⟨[ts, tx]⟩ : Array TypeId) = #[ts, tx] := rfl
    have e3 : (j.upd h.next im2).addr ⟨h.next, 0, none⟩ = ⟨im.blk, im.base + a.off + k * s, none⟩ := by
      simp [J.addr, upd_self, im2]
    have e4 : (j.upd h.next im2).sCap ⟨h.next, 0, none⟩ LOOSE = (im.ext - a.off) / s - k := by
      simp only [J.sCap, Nat.le_refl, if_true, J.last, upd_self, Nat.sub_self, Nat.sub_zero]
      show (im.ext - a.off - k * s) / s = _
      rw [Nat.mul_comm k s, Nat.sub_mul_div]
    rw [e1, e2, hrun, ren_sl, sAddr_le (Nat.le_refl _), hadr, hsc, hlast, e3, e4]
  · intro b q e hn2
    by_cases hb2 : b = h.next
    · subst hb2; simp [H.new, H.set]
    · rw [old_ b q e hb2] at hn2; cases hn2
  · intro q hq hnq
    rw [hput, if_neg (fun e => hnq ⟨a.block, im, _, him, hg, rfl, e⟩)]
  · intro b hb2 hn2
    rw [H.get_new, hnx, if_neg (by omega)]
    exact k1.abs b hb2 hn2
  · intro a1 i1 x1 h1 h2
    rw [H.get_new, hnx] at h2
    by_cases e : h.next = a1
    · subst e
      rw [if_pos rfl] at h2; cases h2
      rw [upd_self] at h1; cases h1
      rw [hput, if_pos rfl]; exact hbr
    · rw [if_neg e] at h2
      have h1' := old_ _ _ h1 (Ne.symm e)
      refine ((k2.blk _ _ _ h1' h2).le hle).same fun hd => ?_
      rw [H.get_set] at h2
      by_cases e3 : a.block = a1
      · rw [if_pos e3] at h2; cases h2; exact absurd rfl hd
      · rw [if_neg e3] at h2
        rw [hput, if_neg (apart_of hr him hg rfl h1' h2 hd e3)]
  · intro a1 a2 i1 i2 x1 x2 h1 h2 h3 h4 h5 h6 h7
    rw [H.get_new, hnx] at h3 h4
    by_cases e1 : h.next = a1
    · by_cases e2 : h.next = a2
      · rw [← e1, e2]
      · rw [if_neg e2] at h4
        subst e1; rw [upd_self] at h1; cases h1
        exact absurd ⟨a2, i2, x2, old_ _ _ h2 (Ne.symm e2), h4, h6, h7.symm⟩ hnh
    · rw [if_neg e1] at h3
      by_cases e2 : h.next = a2
      · subst e2; rw [upd_self] at h2; cases h2
        exact absurd ⟨a1, i1, x1, old_ _ _ h1 (Ne.symm e1), h3, h5, h7⟩ hnh
      · rw [if_neg e2] at h4
        exact k2.inj _ _ _ _ _ _ (old_ _ _ h1 (Ne.symm e1)) (old_ _ _ h2 (Ne.symm e2)) h3 h4 h5 h6 h7
  · intro a1 x1 h1
    rw [H.get_new, hnx] at h1
    by_cases e : h.next = a1
    · subst e; simp [H.new, H.set]
    · rw [if_neg e] at h1
      have := k2.lt _ _ h1
      simp only [H.next_new]; omega
  · intro g hg2
    obtain ⟨q, h1, h2⟩ := hr.glob g hg2
    exact ⟨q, hle _ _ h1, h2⟩
  · simp only [Wf]; exact ⟨im2, upd_self _ _ _, fun _ => hs1⟩

theorem append_sound (hc : CtxOk C) (hr : Rel C j h w) {ats : List TypeId} {args : List Value} {ty : TypeId} {v : Value} {h' : H} (hf : Fresh j h h') (hw : ∀ x ∈ args, Wf j x) (e : append C h ats args = some (v, h')) :
    ∃ (j' : J) (w' : World), (Builtin.append_ ⟨ats⟩ ty ⟨args.map (ren j)⟩).run C.P w = .ok (ren j' v) w' ∧ Adv j h w j' h' w' ∧ Rel C j' h' w' ∧ Wf j' v := by
  unfold append at e
  split at e
  · rename_i ts tx base sLen sCap x
    split at e
    · rename_i el ht
      split at e
      · rename_i i hi
        split at e
        · rename_i zero hz
          simp only at e
          split at e
          · cases e
          · rename_i n hn
            rw [Bool.cond_eq_ite] at e
            split at e
            · rename_i hcnd
              simp only [Bool.and_eq_true, Nat.ble_eq] at hcnd
              obtain ⟨⟨⟨⟨⟨⟨c1, c2⟩, c3⟩, c4⟩, c5⟩, c6⟩, c7⟩ := hcnd
              obtain ⟨dx, hdx⟩ := Option.isSome_iff_exists.1 c1
              have hzs : zero.cells.toList.length = i.info.size := Nat.eq_of_beq_eq_true c5
              have hzl := map_ren_lit (j := j) (hc.zl _ _ _ hi hz)
              have hw1 : Wf j (.slice base sLen sCap) := hw _ (List.mem_cons_self ..)
              have hw2 : Wf j x := hw _ (List.mem_cons_of_mem _ (List.mem_cons_self ..))
              split at e
              · rename_i lb new hlb hnew
                -- what is appended
                have hnewwf : (∀ v ∈ new, Wf j v) ∧ Src C w i dx (ren j x) n (new.map (ren j)) := by
                  unfold Src
                  rw [hdx] at hn hnew
                  cases hzz : isIntD (some dx) with
                  | true =>
                    rw [hzz, cond_true] at hn hnew
                    cases hnew
                    obtain ⟨k, hk⟩ := asNat_of (j := j) (x' := ren j x) ⟨rfl, hw2⟩ hn
                    refine ⟨fun v hv => hzl.2 v (rep_mem hv), ?_⟩
                    rw [if_pos rfl]
                    exact ⟨⟨k, hk⟩, zero, hz, hzs, by omega, by rw [rep_ren, hzl.1]⟩
                  | false =>
                    rw [hzz, cond_false] at hn hnew
                    refine ⟨(firstCells_ok hr hw2 hnew).2, ?_⟩
                    rw [if_neg (by simp)]
                    exact ⟨lenOf_ok hn, fun d => (firstCells_ok (hr.drawn d) hw2 hnew).1⟩
                obtain ⟨hnwf, hsrc⟩ := hnewwf
                have hnb : n * i.info.bytes ≤ 2 ^ 40 := Nat.le_trans (Nat.mul_le_mul_right _ (by omega)) c6
                have hargs : ∀ a c, (⟨[Value.slice a sLen c, ren j x]⟩ : Array Value) = #[.slice a sLen c, ren j x] := fun _ _ => rfl
                have hats : (⟨[ts, tx]⟩ : Array TypeId) = #[ts, tx] := rfl
                rw [cond_ble] at e
                by_cases hroom : sLen + n ≤ lb
                · rw [if_pos hroom] at e
                  rcases Nat.eq_zero_or_pos n with hn0 | hn0
                  · -- nothing is appended
                    subst hn0
                    simp only [Option.some.injEq, Prod.mk.injEq] at e
                    obtain ⟨rfl, rfl⟩ := e
                    refine ⟨j, w, ?_, Adv.refl _ _ _, hr, hw1⟩
                    have hnil : new = [] := by
                      rw [hdx] at hn hnew
                      cases hzz : isIntD (some dx) with
                      | true => rw [hzz, cond_true] at hnew; cases hnew; rfl
                      | false =>
                        rw [hzz, cond_false] at hnew hn
                        cases x with
                        | slice a l c => cases a <;> simp [firstCells] at hnew <;> exact hnew
                        | string b =>
                          simp only [firstCells, cond_beq, takeN] at hnew
                          split at hnew
                          · simpa using hnew.symm
                          · cases hnew
                        | _ => cases hn
                    subst hnil
                    cases base with
                    | none =>
                      have hren : ren j (.slice none sLen sCap) = .slice none sLen sCap := by simp [ren]
                      simp only [List.map_cons, List.map_nil, hren, hargs, hats]
                      have hcap : lb = sCap := by
                        simp only [Wf] at hw1
                        unfold H.capOf at hlb
                        rw [cond_ble, if_neg (by have := pos_loose; omega)] at hlb
                        exact (Option.some.inj hlb).symm
                      exact run_append_in hc ht hi hdx hsrc (by simp) c4 (by omega) rfl
                    | some a =>
                      simp only [List.map_cons, List.map_nil, ren_sl, hargs, hats]
                      have := (cap_of hr hw1 hlb).1
                      exact run_append_in hc ht hi hdx hsrc (by simp) c4 (by omega) (by simp [storeCells])
                  · obtain ⟨m, rfl⟩ : ∃ m, n = m + 1 := ⟨n - 1, by omega⟩
                    cases base with
                    | none => simp only at e; cases e
                    | some a =>
                      simp only at e
                      rw [cond_ble] at e
                      by_cases hcp : sCap ≤ LOOSE
                      · rw [if_pos hcp] at e
                        split at e
                        · rename_i h1 hwr
                          simp only [Option.some.injEq, Prod.mk.injEq] at e
                          obtain ⟨rfl, rfl⟩ := e
                          have hw1' := hw1
                          simp only [Wf] at hw1'
                          obtain ⟨im, him, hez⟩ := hw1'
                          obtain ⟨w', r1, r2, r3, _⟩ := write_of hr (show (j (a.add (sLen * i.info.size)).block).isSome by rw [add_block]; simp [him]) hnwf hwr
                          refine ⟨j, w', ?_, r2, r3, by simp only [Wf]; exact ⟨im, him, hez⟩⟩
                          simp only [List.map_cons, List.map_nil, ren_sl, hargs, hats]
                          have := (cap_of hr hw1 hlb).1
                          refine run_append_in hc ht hi hdx hsrc hnb c4 (by omega) ?_
                          simp only
                          rw [sAddr_le hcp, ← addr_add]; exact r1
                        · cases e
                      · rw [if_neg hcp] at e; cases e
                · rw [if_neg hroom, Bool.cond_eq_ite] at e
                  split at e
                  · cases e
                  · rename_i hno
                    simp only [Bool.or_eq_true, not_or, Bool.not_eq_true', Bool.not_eq_false, Bool.not_eq_true] at hno
                    obtain ⟨hn0', hone⟩ := hno
                    have hn0 : n ≠ 0 := fun hh => by subst hh; cases hn0'
                    split at e
                    · rename_i old hold
                      simp only [Option.some.injEq, Prod.mk.injEq] at e
                      obtain ⟨rfl, rfl⟩ := e
                      have hfc := firstCells_ok hr hw1 hold
                      have holdlen : old.length = sLen * i.info.size := cells_len hr hw1 hold
                      have hnewlen : new.length = n * i.info.size := by
                        rw [hdx] at hn hnew
                        cases hzz : isIntD (some dx) with
                        | true => rw [hzz, cond_true] at hnew; cases hnew; rw [rep_length, hzs]
                        | false => rw [hzz, cond_false] at hnew hn; exact cells_len hr hw2 hnew
                      have hnn : j h.next = none := by
                        refine hf _ (Nat.le_refl _) ?_
                        rw [H.next_new]
                        cases Nat.ble LOOSE sCap <;> cases base <;> simp [H.kill, H.set]
                      have howf : ∀ v ∈ old ++ new, Wf j v := fun v hv => by
                        rw [List.mem_append] at hv
                        exact hv.elim (hfc.2 v) (hnwf v)
                      have hlen : (old ++ new).length = (sLen + n) * i.info.size := by rw [List.length_append, holdlen, hnewlen, Nat.add_mul]
                      -- the model moves the row
                      have moved : ∀ (base' : Option Addr) (sCap' : Nat) (h0 : H), ren j (.slice base sLen sCap) = .slice base' sLen sCap' → sCap' < sLen + n → Adv j h w j h0 w → Rel C j h0 w → h0.next = h.next →
                          ∃ (j' : J) (w' : World), (Builtin.append_ ⟨[ts, tx]⟩ ty ⟨[Value.slice base sLen sCap, x].map (ren j)⟩).run C.P w = .ok (ren j' (.slice (some ⟨h.next, 0, none⟩) (sLen + n) LOOSE)) w' ∧ Adv j h w j' (h0.new (.cells (old ++ new) i.info.size)) w' ∧ Rel C j' (h0.new (.cells (old ++ new) i.info.size)) w' ∧ Wf j' (.slice (some ⟨h.next, 0, none⟩) (sLen + n) LOOSE) := by
                        intro base' sCap' h0 hren hlt hadv hrel hnx
                        have hold2 : ∀ d, (Builtin.firstCells i.info.size sLen (.slice base' sLen sCap')).run C.P { w with drawn := d } = .ok ⟨old.map (ren j)⟩ { w with drawn := d } := fun d => by
                          have := (firstCells_ok (hr.drawn d) hw1 hold).1
                          rw [hren] at this; exact this
                        obtain ⟨nc, hnc, hrun⟩ := run_append_out (ty := ty) hc ht hi hdx hsrc c6 c4 c7 hlt hz hzs (by omega) hold2
                        let im : Img := ⟨w.heap.size, 0, (sLen + n) * i.info.size, i.info.size, nc * i.info.size⟩
                        have hb := grown_rel (C := C) (h := h) (i := im) (c := old ++ new) (rest := rep zero.cells.toList (nc - (sLen + n))) hnn howf rfl hlen (by
                          rw [hlen, rep_length, hzs, ← Nat.add_mul]; show nc * _ = _; congr 1; omega) el
                        rw [← hnx] at hb hnn
                        obtain ⟨q1, q2⟩ := new_block (w' := { w with heap := w.heap.push (.cells ⟨(old ++ new).map (ren j) ++ rep zero.cells.toList (nc - (sLen + n))⟩ el (0, 0)), drawn := w.drawn + 1 }) hrel hnn rfl rfl hb rfl rfl rfl
                        refine ⟨_, _, ?_, hadv.trans q1, q2, ?_⟩
                        · rw [← hnx]
                          simp only [List.map_cons, List.map_nil, hren, hargs, hats, hrun, List.map_append]
                          congr 1
                          rw [ren_sl, sAddr_le (Nat.le_refl _), addr_new _ _ _ rfl]
                          have : (j.upd h0.next im).sCap ⟨h0.next, 0, none⟩ LOOSE = nc := by
                            simp only [J.sCap, Nat.le_refl, if_true, J.last, upd_self, Nat.sub_self, Nat.sub_zero]
                            exact Nat.mul_div_cancel _ (by omega)
                          rw [this]
                        · rw [← hnx]; simp only [Wf]; exact ⟨im, upd_self _ _ _, fun _ => by show 0 < i.info.size; omega⟩
                      rw [cond_ble]
                      by_cases hL : LOOSE ≤ sCap
                      · rw [if_pos hL]
                        cases base with
                        | none => simp only [Wf] at hw1; have := pos_loose; omega
                        | some a =>
                          obtain ⟨d1, d2, d3⟩ := cap_of hr hw1 hlb
                          obtain ⟨d4, d5⟩ := d3 hL
                          have hw1' := hw1
                          simp only [Wf] at hw1'
                          obtain ⟨im, him, hez⟩ := hw1'
                          have hcl : ∃ c, h.get a.block = some (.cells c i.info.size) := by
                            unfold H.capOf at hlb
                            rw [cond_ble, if_pos hL] at hlb
                            simp only [H.room] at hlb
                            split at hlb
                            · rename_i hh
                              split at hh
                              · rename_i c z hg
                                rw [cond_beq] at hh
                                split at hh
                                · rename_i hzz; exact ⟨c, by rw [hg, hzz]⟩
                                · cases hh
                              · cases hh
                            · cases hlb
                          obtain ⟨c, hg⟩ := hcl
                          obtain ⟨k1, k2⟩ := kill_block hr him hg
                          by_cases hin : sLen + n ≤ j.sCap a sCap
                          · -- the model has room
                            exact append_over hc hr (ty := ty) ht hi hdx hsrc hnwf hone hnb c4 c2 him hg hw1 hold hfc.2 hL (by simpa [J.esz, him] using d4) hn0 (by omega) hin hnn holdlen hnewlen
                          · exact moved _ _ (h.set a.block .dead) ren_sl (by omega) k1 k2 rfl
                      · rw [if_neg hL]
                        have hlt : sCap < LOOSE := by omega
                        cases base with
                        | none =>
                          have hren : ren j (.slice none sLen sCap) = .slice none sLen sCap := by simp [ren]
                          refine moved _ _ h hren ?_ (Adv.refl _ _ _) hr rfl
                          unfold H.capOf at hlb
                          rw [cond_ble, if_neg hL] at hlb
                          cases hlb; omega
                        | some a =>
                          have := (cap_of hr hw1 hlb).2.1 hlt
                          exact moved _ _ h ren_sl (by rw [sCap_lt hlt]; omega) (Adv.refl _ _ _) hr rfl
                    · cases e
              · cases e
            · cases e
        · cases e
      · cases e
    · cases e
  · cases e
end
end Go.Mir

/- All writing operations together. -/
namespace Go.Mir

section
variable {C : Ctx} {j : J} {h : H} {w : World} {ρ ρ' : Operand → Value}

theorem loud_of_builtin {j' : J} {w' : World} {o : Oper} {b : Builtin} {args : Array Operand} {ats : Array TypeId} {v : Value} {h' : H} {s : Sem Value} (ho : o.op = .call { callee := .builtin b, args, argTypes := ats })
    (hb : ∀ cs, builtin b ats o.type cs (args.map ρ') = (do pure (.value (← s)))) (hs : s.run C.P w = .ok (ren j' v) w') (ha : Adv j h w j' h' w') (hr : Rel C j' h' w') (hw : Wf j' v) : LoudOk C j h w (execOp ρ' o) v h' :=
  let ⟨cs, hcs⟩ := exec_builtin' (ρ' := ρ') o b args ats ho C.P w
  ⟨j', w', _, by rw [hcs, hb]; exact run_v hs, .inl rfl, ha, hr, hw⟩

theorem loud_sound (hc : CtxOk C) (hr : Rel C j h w) {o : Oper} (hρ' : ∀ x ∈ o.op.operands.toList, ρ' x = ren j (ρ x) ∧ Wf j (ρ x))
    {v : Value} {h' : H} (hf : Fresh j h h') (e : loud C h ρ o = some (v, h')) : LoudOk C j h w (execOp ρ' o) v h' := by
  unfold loud at e
  cases hop : o.op with
  | store t a x =>
    rw [hop] at e hρ'
    have h1 := hρ' a (by simp [Op.operands])
    have h2 := hρ' x (by simp [Op.operands])
    simp only at e
    split at e
    · rename_i ad n ha hs
      rw [cond_beq] at e
      split at e
      · rename_i hlen
        split at e
        · rename_i h1' hwr
          simp only [Option.some.injEq, Prod.mk.injEq] at e
          obtain ⟨rfl, rfl⟩ := e
          have := loud_store hc hr h1 h2 ha hs hlen hwr
          unfold execOp; rw [hop]; exact this
        · cases e
      · cases e
    · cases e
  | convert src dst x =>
    rw [hop] at e hρ'
    have h1 := hρ' x (by simp [Op.operands])
    simp only at e
    split at e
    · rename_i el a l c hs hx
      split at e
      · rename_i el2 hel hd
        rw [Bool.cond_eq_ite] at e
        split at e
        · rename_i hb
          simp only [Option.some.injEq, Prod.mk.injEq] at e
          obtain ⟨rfl, rfl⟩ := e
          have := loud_conv hc hr h1 hx hs hel hd hb
          unfold execOp; rw [hop]; exact this
        · cases e
      · cases e
    · cases e
  | mapUpdate t m k x =>
    rw [hop] at e hρ'
    have h1 := hρ' m (by simp [Op.operands])
    have h2 := hρ' k (by simp [Op.operands])
    have h3 := hρ' x (by simp [Op.operands])
    simp only at e
    split at e
    · rename_i key elem r ht hm
      split at e
      · rename_i es cl d hg hd
        rw [Bool.cond_eq_ite] at e
        split at e
        · rename_i hkd
          have hv : v = undef := by
            split at e <;> first
              | (simp only [Option.some.injEq, Prod.mk.injEq] at e; exact e.1.symm)
              | cases e
          subst hv
          have := loud_mapUpdate (h' := h') hc hr h1 h2 h3 hm ht hg hd hkd (by
            split at e
            · rename_i hf; rw [hf]; exact e
            · rename_i hf; rw [hf]; exact e
            · cases e)
          unfold execOp; rw [hop]; exact this
        · cases e
      · cases e
    · cases e
  | next it b =>
    rw [hop] at e hρ'
    cases b with
    | false => simp at e
    | true =>
      have h1 := hρ' it (by simp [Op.operands])
      simp only at e
      split at e
      · rename_i r hit
        split at e
        · rename_i s pos hg
          have := loud_next (ty := o.type) hr h1 hit hg (Option.some.inj e)
          unfold execOp; rw [hop]; exact this
        · cases e
      · cases e
  | call c =>
    rw [hop] at e hρ'
    obtain ⟨callee, args, ats⟩ := c
    cases callee with
    | value f => simp at e
    | invoke r m => simp at e
    | builtin b =>
      have ha : ∀ x ∈ args.toList, ρ' x = ren j (ρ x) ∧ Wf j (ρ x) := fun x hx => hρ' x (by simp only [Op.operands, Call.operands]; simpa using hx)
      have hmap : args.map ρ' = ⟨(args.toList.map ρ).map (ren j)⟩ := by
        apply Array.ext'
        rw [Array.toList_map, List.map_map]
        exact List.map_congr_left fun x hx => (ha x hx).1
      have hwf : ∀ v ∈ args.toList.map ρ, Wf j v := fun v hv => by
        obtain ⟨x, hx, rfl⟩ := List.mem_map.1 hv
        exact (ha x hx).2
      have hats : ∀ {t : TypeId} {ts : List TypeId}, ats.toList = t :: ts → ats[0]? = some t := fun h => by
        have : ats[0]? = ats.toList[0]? := by simp
        rw [this, h]; rfl
      simp only at e
      split at e
      · -- append
        obtain ⟨j', w', r1, r2, r3, r4⟩ := append_sound (ty := o.type) hc hr hf hwf e
        exact loud_of_builtin hop (by intro cs; rw [hmap]; rfl) r1 r2 r3 r4
      · -- copy
        split at e
        · rename_i t ts base dLen dCap src hat har
          rw [har] at hmap hwf
          have hw1 : Wf j (.slice base dLen dCap) := hwf _ (by simp)
          have hw2 : Wf j src := hwf _ (by simp)
          split at e
          · rename_i el ht
            split at e
            · rename_i s m hs hm
              obtain ⟨w', r1, r2, r3, r4⟩ := copy_ok (ty := o.type) (ats := ats) hc hr ⟨rfl, hw1⟩ ⟨rfl, hw2⟩ rfl (hats hat) ht hs hm (v := v) (h' := h') e
              have hv := lit_ren j v r4
              exact loud_of_builtin hop (by intro cs; rw [hmap]; rfl) (by rw [hv.1]; exact r1) r2 r3 hv.2
            · cases e
          · cases e
        · cases e
      · -- clear
        split at e
        · rename_i t base n cap hat har
          rw [har] at hmap hwf
          have hw1 : Wf j (.slice base n cap) := hwf _ (by simp)
          split at e
          · rename_i el ht
            simp only [Option.some.injEq, Prod.mk.injEq] at e
            obtain ⟨rfl, rfl⟩ := e
            refine loud_of_builtin (j' := j) (w' := w) (h' := h) hop (by intro cs; rw [hmap]; rfl) ?_ (Adv.refl _ _ _) hr (undef_ren j).2
            have : ren j (.slice none n cap) = .slice none n cap := by simp [ren]
            have h0 : (⟨[Value.slice none n cap].map (ren j)⟩ : Array Value)[0]? = some (.slice none n cap) := by simp [this]
            unfold Builtin.clear_
            simp only [hats hat, h0, Sem.run_bind, run_u hc ht, Result.andThen_ok, Sem.run_pure]
            rw [show noResult = undef from rfl, (undef_ren j).1]; rfl
          · rename_i el a ht
            split at e
            · rename_i i hi
              split at e
              · simp only [Option.some.injEq, Prod.mk.injEq] at e
                obtain ⟨rfl, rfl⟩ := e
                refine loud_of_builtin (j' := j) (w' := w) (h' := h) hop (by intro cs; rw [hmap]; rfl) ?_ (Adv.refl _ _ _) hr (undef_ren j).2
                have h0 : (⟨[Value.slice (some a) 0 cap].map (ren j)⟩ : Array Value)[0]? = some (.slice (some (j.sAddr a cap)) 0 (j.sCap a cap)) := by simp [ren_sl]
                unfold Builtin.clear_
                simp only [hats hat, h0, Sem.run_bind, run_u hc ht, Result.andThen_ok, Sem.run_pure]
                rw [show noResult = undef from rfl, (undef_ren j).1]; rfl
              · rename_i z n0 hz hn0
                rw [Bool.cond_eq_ite] at e
                split at e
                · rename_i hb
                  split at e
                  · rename_i h1' hwr
                    simp only [Option.some.injEq, Prod.mk.injEq] at e
                    obtain ⟨rfl, rfl⟩ := e
                    obtain ⟨w', r1, r2, r3⟩ := clear_ok (ty := o.type) (ats := ats) hc hr ⟨rfl, hw1⟩ rfl (hats hat) ht hi hz (by intro hh; exact hn0 hh) hb hwr
                    exact loud_of_builtin hop (by intro cs; rw [hmap]; rfl) (by rw [show noResult = undef from rfl, (undef_ren j).1]; exact r1) r2 r3 (undef_ren j).2
                  · cases e
                · cases e
              · cases e
            · cases e
          · cases e
        · cases e
      · -- delete
        split at e
        · rename_i t ts r k hat har
          rw [har] at hmap hwf
          have hw1 : Wf j (.map (some r)) := hwf _ (by simp)
          have hw2 : Wf j k := hwf _ (by simp)
          split at e
          · rename_i key elem ht
            split at e
            · rename_i es cl d hg hd
              rw [Bool.cond_eq_ite] at e
              split at e
              · rename_i hkd
                obtain ⟨w', r1, rfl, r2, r3⟩ := delete_ok (ty := o.type) (ats := ats) hc hr ⟨rfl, hw1⟩ ⟨rfl, hw2⟩ rfl (hats hat) ht hg hd hkd (v := v) (h' := h') (by
                  split at e
                  · rename_i hf; rw [hf]; exact e
                  · rename_i hf; rw [hf]; exact e
                  · cases e)
                exact loud_of_builtin hop (by intro cs; rw [hmap]; rfl) (by rw [show noResult = undef from rfl, (undef_ren j).1]; exact r1) r2 r3 (undef_ren j).2
              · cases e
            · cases e
          · cases e
        · cases e
      · cases e
  | _ => rw [hop] at e; simp at e
end
end Go.Mir

/- The model's steps, for whatever frame. -/
namespace Go.Mir

/-- A frame at a place. -/
def At (fr : Frame) (tmps : Array Value) (todo : List Item) (ds : List Deferred) : Frame := { fr with tmps, todo, defers := ds, mode := .run }

section
variable {P : Program} {fr : Frame} {tmps : Array Value} {k : List Item} {ds : List Deferred} {cs : List Frame} {w : World}

theorem At_eval (fr : Frame) (tmps : Array Value) (todo : List Item) (ds : List Deferred) : (At fr tmps todo ds).eval = fun x => ({ fr with tmps := tmps } : Frame).eval x := by
  funext x; cases x <;> rfl

theorem s_skip : step P (lone (At fr tmps (.code .skip :: k) ds) cs w) = .next (lone (At fr tmps k ds) cs w) := step_lone_go (by simp [stepG, stepG.exec, At])
theorem s_label {l : Nat} : step P (lone (At fr tmps (.code (.label l) :: k) ds) cs w) = .next (lone (At fr tmps k ds) cs w) := step_lone_go (by simp [stepG, stepG.exec, At])
theorem s_inBlock {id : Nat} : step P (lone (At fr tmps (.inBlock id :: k) ds) cs w) = .next (lone (At fr tmps k ds) cs w) := step_lone_go (by simp [stepG, stepG.exec, At])
theorem s_inScope {c : Code} : step P (lone (At fr tmps (.inScope c :: k) ds) cs w) = .next (lone (At fr tmps k ds) cs w) := step_lone_go (by simp [stepG, stepG.exec, At])
theorem s_seq {a b : Code} : step P (lone (At fr tmps (.code (.seq a b) :: k) ds) cs w) = .next (lone (At fr tmps (.code a :: .code b :: k) ds) cs w) := step_lone_go (by simp [stepG, stepG.exec, At])
theorem s_block {id : Nat} {c : Code} : step P (lone (At fr tmps (.code (.block id c) :: k) ds) cs w) = .next (lone (At fr tmps (.code c :: .inBlock id :: k) ds) cs w) := step_lone_go (by simp [stepG, stepG.exec, At])
theorem s_scope {c : Code} : step P (lone (At fr tmps (.code (.scope c) :: k) ds) cs w) = .next (lone (At fr tmps (.code c :: .inScope c :: k) ds) cs w) := step_lone_go (by simp [stepG, stepG.exec, At])
theorem s_loop {c : Code} : step P (lone (At fr tmps (.code (.loop c) :: k) ds) cs w) = .next (lone (At fr tmps (.code c :: .inLoop c :: k) ds) cs w) := step_lone_go (by simp [stepG, stepG.exec, At])
theorem s_inLoop {c : Code} : step P (lone (At fr tmps (.inLoop c :: k) ds) cs w) = .next (lone (At fr tmps (.code c :: .inLoop c :: k) ds) cs w) := step_lone_go (by simp [stepG, stepG.exec, At])
theorem s_cond {c : Operand} {a b : Code} {t : Bool} (h : ({ fr with tmps := tmps } : Frame).eval c = .bool t) :
    step P (lone (At fr tmps (.code (.cond c a b) :: k) ds) cs w) = .next (lone (At fr tmps (.code (if t then a else b) :: k) ds) cs w) :=
  step_lone_go (by
    have := congrFun (At_eval fr tmps (.code (.cond c a b) :: k) ds) c
    rw [h] at this
    simp only [At] at this
    simp [stepG, stepG.exec, At, this])
theorem s_exit {id : Nat} {k' : List Item} (h : exitTo id k = some k') : step P (lone (At fr tmps (.code (.exit id) :: k) ds) cs w) = .next (lone (At fr tmps k' ds) cs w) := step_lone_go (by simp [stepG, stepG.exec, At, h])
theorem s_ret (hr : fr.roundOf = none) : step P (lone (At fr tmps (.code .ret :: k) ds) cs w) = .next (lone { At fr tmps (.code .ret :: k) ds with mode := .returning } cs w) := step_lone_go (by simp [stepG, stepG.exec, At, hr])
theorem s_end (hr : fr.roundOf = none) : step P (lone (At fr tmps [] ds) cs w) = .next (lone { At fr tmps [] ds with mode := .returning } cs w) := step_lone_go (by simp [stepG, stepG.exec, At, hr])

theorem s_region {id : Nat} {ops : Array Oper} : step P (lone (At fr tmps (.code (.region id ops false) :: k) ds) cs w) = .next (lone (At fr tmps (.inRegion ops (List.range ops.size) :: k) ds) cs w) := step_lone_go (by simp [stepG, stepG.exec, At])
theorem s_draw {id : Nat} {ops : Array Oper} (hm : P.follows .mixedOrders = true) : ∃ t, step P (lone (At fr tmps (.code (.region id ops true) :: k) ds) cs w) =
    .next (lone (At fr tmps (.inRegion ops (Region.linearise .any ops t) :: k) ds) cs { w with drawn := w.drawn + 1 }) :=
  ⟨w.tape w.drawn (.order fr.fn id), step_lone_go (by simp [stepG, stepG.exec, At, choose, Sem.run, Question.forced, Question.cut, Region.schedule, hm])⟩
theorem s_regionEnd {ops : Array Oper} : step P (lone (At fr tmps (.inRegion ops [] :: k) ds) cs w) = .next (lone (At fr tmps k ds) cs w) := step_lone_go (by simp [stepG, stepG.exec, At])

def putT (tmps : Array Value) (d : Option Tmp) (v : Value) : Array Value := match d with | some d => tmps.setIfInBounds d v | none => tmps

theorem At_finish (ops : Array Oper) (i : Nat) (rest : List Nat) {o : Oper} (ho : ops[i]? = some o) (v : Value) : (At fr tmps (.inRegion ops (i :: rest) :: k) ds).finish v = At fr (putT tmps o.dst v) (.inRegion ops rest :: k) ds := by
  simp only [Frame.finish, At, ho, Option.bind_some, putT]
  cases o.dst <;> rfl

theorem s_opSkip {ops : Array Oper} {i : Nat} {rest : List Nat} {o : Oper} (ho : ops[i]? = some o) (h : Region.wanted o (yielded ops tmps) = false) :
    step P (lone (At fr tmps (.inRegion ops (i :: rest) :: k) ds) cs w) = .next (lone (At fr (putT tmps o.dst undef) (.inRegion ops rest :: k) ds) cs w) := by
  rw [← At_finish ops i rest ho]
  exact step_lone_go (by
    have h' : Region.wanted o (yielded ops (At fr tmps (.inRegion ops (i :: rest) :: k) ds).tmps) = false := h
    simp only [At] at *
    simp [stepG, stepG.exec, ho, h'])

theorem g_op {ops : Array Oper} {i : Nat} {rest : List Nat} {o : Oper} (ho : ops[i]? = some o) (h : Region.wanted o (yielded ops tmps) = true) (hd : ∀ c, o.op ≠ .defer c) :
    stepG P true { frame := At fr tmps (.inRegion ops (i :: rest) :: k) ds, callers := cs, status := .running, dying := none } w =
      stepG.apply P true (At fr tmps (.inRegion ops (i :: rest) :: k) ds) cs none (execOp (fun x => ({ fr with tmps := tmps } : Frame).eval x) o) w := by
  have he := At_eval fr tmps (.inRegion ops (i :: rest) :: k) ds
  have h' : Region.wanted o (yielded ops (At fr tmps (.inRegion ops (i :: rest) :: k) ds).tmps) = true := h
  have key : stepG P true { frame := At fr tmps (.inRegion ops (i :: rest) :: k) ds, callers := cs, status := .running, dying := none } w =
      stepG.oper P true (At fr tmps (.inRegion ops (i :: rest) :: k) ds) cs none w := by
    simp only [At] at *
    simp [stepG, stepG.exec, ho, h']
  rw [key]
  have hop : (At fr tmps (.inRegion ops (i :: rest) :: k) ds).oper? = some o := by simp [Frame.oper?, At, ho]
  unfold stepG.oper
  simp only [hop, he]
  split
  · rename_i l c hr hc; exact absurd hc (hd c)
  · rfl
end

/-- A todo at which a call's frame is an ordinary one. -/
def Plain : List Item → Prop
  | .call _ _ _ _ :: _ => False
  | .extern _ _ :: _ => False
  | _ => True

/-- What an operation comes to, a call among them. -/
def OpOk (C : Ctx) (j : J) (h : H) (w : World) (s : Sem Next) (v : Value) (h' : H) : Prop :=
  LoudOk C j h w s v h' ∨
  (∃ g args, s.run C.P w = .ok (.enter g args) w ∧ Calls C.P g args w fun e w' => ∃ j', e = .returned (ren j' v) ∧ Adv j h w j' h' w' ∧ Rel C j' h' w' ∧ Wf j' v) ∨
  (∃ l fn tmps a b, s.run C.P w = .ok (.round l fn tmps a b) w ∧ ∀ c cs, ∃ j' w', Steps C.P (lone (Frame.round l fn tmps a b .normal) (c :: cs) w) (lone (c.finish (ren j' v)) cs w') ∧ Adv j h w j' h' w' ∧ Rel C j' h' w' ∧ Wf j' v)

theorem ok_steps {C : Ctx} {j : J} {h : H} {w w0 : World} {s : Sem Next} {v : Value} {h' : H} (he : OpOk C j h w s v h') {fr fr0 : Frame} {cs : List Frame} (hp : Plain fr.todo)
    (hst : (stepG C.P true { frame := fr0, callers := cs, status := .running, dying := none } w0).bare = (stepG.apply C.P true fr cs none s w).bare) :
    ∃ j' w', Steps C.P (lone fr0 cs w0) (lone (fr.finish (ren j' v)) cs w') ∧ Adv j h w j' h' w' ∧ Rel C j' h' w' ∧ Wf j' v := by
  rcases he with ⟨j', w', nx, h1, h2, h3, h4, h5⟩ | ⟨g, args, h1, h2⟩ | ⟨l, fn, tmps, a, b, h1, h2⟩
  · refine ⟨j', w', .one (step_lone_go ?_), h3, h4, h5⟩
    rw [hst]
    rcases h2 with rfl | ⟨rfl, rfl⟩
    · simp [stepG.apply, h1]
    · rw [(undef_ren j').1]; simp [stepG.apply, h1]
  · obtain ⟨e, w', fr', ⟨j', he, h3, h4, h5⟩, hcomes, hfn, hleave⟩ := h2 (fr :: cs)
    subst he
    refine ⟨j', w', .head (m₁ := lone (Frame.enter C.P g args .normal) (fr :: cs) w) (step_lone_go ?_) (Steps.trans hcomes (.one (step_leave_returned hleave))), h3, h4, h5⟩
    rw [hst]
    simp only [stepG.apply, Sem.runT_eq, h1, GStep.bare_after, if_true]
    cases ht : fr.todo with
    | nil => rfl
    | cons x xs => cases x <;> first | (rw [ht] at hp; exact hp.elim) | rfl
  · obtain ⟨j', w', h3, h4⟩ := h2 fr cs
    refine ⟨j', w', .head (m₁ := lone (Frame.round l fn tmps a b .normal) (fr :: cs) w) (step_lone_go ?_) h3, h4⟩
    rw [hst]
    simp only [stepG.apply, Sem.runT_eq, h1, GStep.bare_after, if_true]
    rfl
end Go.Mir

