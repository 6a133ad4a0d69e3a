/- What the rows of scripts share. -/
import Derived.Test.YtmaccpaiaidgpaaGreatDoorImpA
import Derived.Test.YtmaccpaiaidgpaaGreatDoorKit
import Derived.Test.YtmaccpaiaidgpaaGreatDoorReadB
namespace Go.Proofs.YtmaccpaiaidgpaaGreatDoor
open Go Go.Mir Go.ChangeShapes Go.WideShapes Go.ChangeAt Go.RowKit
set_option maxRecDepth 100000

def fieldLists : List (List UInt8) := [[], [111], [98], [105, 98], [105, 106], [105, 106, 112], [105, 106, 112], [105, 106, 107, 121], [105, 106], [105, 106], [105], [46], [46], [46], [46], [46], [46], [46], [46], [105], [105], [46]]
theorem fields_are : fieldsRom = fieldLists.map str := rfl
theorem laid_are : (Rows.laid_rubric_script_fields : DataW Unit) = .agg (fieldLists.map fun l => .lit (.string l)) := rfl

/-- The listed table: the letters of the kinds. -/
theorem fields_laid {W : World} {l : List (String × DataW Unit)} (hl : (l.filter fun x => x.1 == "rubric/script.fields") = [("rubric/script.fields", Rows.laid_rubric_script_fields)]) (h0 : laidMet Tryz.prog l W) :
    ∃ (c' : Array Value) (el : TypeId) (fz : Nat × Nat), W.heap[0]? = some (.cells c' el fz) ∧ ∀ (k : Nat) (v : Value), fieldsRom[k]? = some v → c'[k]? = some v := by
  have h := h0.filter (fun x => x.1 == "rubric/script.fields")
  rw [hl] at h
  obtain ⟨ps, ⟨g, t, cs, fuel, p, q, hg, ht, hv, hd, _, _⟩, _, _⟩ := h
  obtain rfl := Option.some.inj ((show Tryz.prog.globalNamed "rubric/script.fields" = some 0 by kernel_rfl).symm.trans hg)
  obtain rfl := Option.some.inj ((show (Tryz.prog.globals[0]?).map (·.type) = some 222 by kernel_rfl).symm.trans ht)
  have c9 : Tryz.prog.cellsOf 9 = 1 := by kernel_rfl
  have c222 : Tryz.prog.cellsOf 222 = 22 := by kernel_rfl
  obtain ⟨xs, m, _, ex, hlen, hxl, hel⟩ := DataW.trod_array (show Tryz.prog.underlying 222 = some (.array 22 9) by kernel_rfl) hd
  rw [c222] at hlen
  rw [laid_are] at ex
  have e3 := DataW.agg.inj (Prod.mk.inj ex).1
  unfold World.var? at hv
  rw [hg, Option.bind_some] at hv
  split at hv
  · rename_i c2 el fz hw
    simp only [Option.some.injEq] at hv
    subst hv
    refine ⟨c2, el, fz, hw, fun k v hk => ?_⟩
    rw [fields_are, List.getElem?_map] at hk
    obtain ⟨l, hl2, rfl⟩ := Option.map_eq_some_iff.1 hk
    have hk22 : k < 22 := (List.getElem?_eq_some_iff.1 hl2).1
    have hx : xs[k]? = some (xs[k]'(by omega)) := List.getElem?_eq_getElem _
    have h1 := hel k hk22
    rw [c9, hx] at h1
    obtain ⟨s, e1, e2, _⟩ := DataW.trod_string Tryz.underlying9 h1
    have h2 := congrArg (fun z => z[k]?) e3
    simp only [List.getElem?_map, hl2, hx, Option.map_some, Option.some.injEq] at h2
    rw [e2] at h2
    simp only [DataW.lit.injEq, Lit.string.injEq] at h2
    have hc : c2.toList[k]? = some (.string s) := by
      have := congrArg (fun z => z[0]?) e1
      simpa [List.getElem?_take, List.getElem?_drop] using this
    rw [Array.getElem?_toList] at hc
    rw [hc]
    obtain ⟨⟨sl⟩⟩ := s
    simp only at h2
    rw [← h2]; rfl
  · cases hv

theorem imp_zero {W : World} {c' : Array Value} {el : TypeId} {fz : Nat × Nat} (hw : W.heap[0]? = some (.cells c' el fz)) (hk : ∀ (k : Nat) (v : Value), fieldsRom[k]? = some v → c'[k]? = some v) : Imp cxo W (jZero 4 fieldsRom.length c'.size) (H.set ⟨4, .nil⟩ 0 (.rom fieldsRom)) where
  rel := rel_zero cxo hw hk (by intro v hv; rw [fields_are] at hv; obtain ⟨l, _, rfl⟩ := List.mem_map.1 hv; rfl) (by decide)
  rom := fun a x h => by
    rw [H.get_set] at h
    by_cases e : 0 = a
    · rw [if_pos e] at h; cases h; rfl
    · rw [if_neg e] at h; simp [H.get, T.get_nil] at h
  new := fun a h => by have h : 4 ≤ a := h; simp only [jZero]; rw [if_neg (by omega), if_neg (by omega)]

theorem fld_zero {h : Mir.H} (l : Le (H.set ⟨4, .nil⟩ 0 (.rom fieldsRom)) h) : Fld (Here h) h :=
  ⟨Nat.lt_of_lt_of_le (by decide : 0 < 4) l.1, by rw [l.2 0 (by decide : 0 < 4), H.get_set, if_pos rfl]⟩

end Go.Proofs.YtmaccpaiaidgpaaGreatDoor

