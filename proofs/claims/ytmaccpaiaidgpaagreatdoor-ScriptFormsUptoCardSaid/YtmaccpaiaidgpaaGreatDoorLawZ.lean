/- What the laws of scripts share. -/
import Derived.Test.YtmaccpaiaidgpaaGreatDoorReadB
import Derived.Test.YtmaccpaiaidgpaaGreatDoorScrA
/- What the laws of scripts share. -/
namespace Go.Proofs.YtmaccpaiaidgpaaGreatDoor
open Go Go.Mir
set_option maxRecDepth 10000

theorem rom_same : sameVal.sames fieldsRom fieldsRom = true := by rfl
theorem Fld.rom {S : Nat → Prop} {h : H} (f : Fld S h) : romIs h fieldsRom = true := by
  unfold romIs
  have : fieldsRom = (str []) :: fieldsRom.tail := rfl
  rw [this]
  simp only [f.2]
  exact rom_same
theorem known_ev {S : Nat → Prop} {h : H} (f : Fld S h) : Cal cxo 22 [] h (fun r h' => r = .bool true ∧ h = h') := cal_orc rfl rfl f.rom

/-- An owned row of bytes stays, and may be cut. -/
theorem bufB_freeze {h0 h : H} {S : Nat → Prop} {As : List Asn} {v : Value} {l : List UInt8} {i : Nat} (st : St h0 S h As) (hi : nth As i = some (BufB v l)) (hl : l.length < 2 ^ 62) : ∃ S', Gr S h S' h ∧ Bs h S' v l ∧ St h S' h (eraseAt As i) := by
  obtain ⟨K, hK, hg, st2⟩ := st.freeze i hi
  have g : Gr S h (fun a => S a ∨ ∃ p ∈ K, p.1 = a) h := ⟨Nat.le_refl _, fun a ha => ⟨.inl ha, rfl⟩⟩
  refine ⟨_, g, ?_, st2⟩
  have r := rows_bytes l
  rcases hK.2 with ⟨hn, _, a, _, rfl⟩ | ⟨b, rfl, rfl⟩
  · have hl0 : l = [] := List.eq_nil_of_length_eq_zero hn
    subst hl0
    refine ⟨⟨a, 0, 0, rfl, rfl, Nat.zero_le _, by decide, ?_⟩, a, 0, rfl, Nat.le_refl _, .inl (by decide)⟩
    cases a with
    | none => exact ⟨rfl, rfl⟩
    | some a => exact .inl rfl
  · have hb : h.get b = some (.cells (bytesV l) 1) := hg _ (List.mem_singleton.2 rfl)
    have hS : ∃ p ∈ [(b, Blk.cells (bytesV l) 1)], p.1 = b := ⟨_, List.mem_singleton.2 rfl, rfl⟩
    refine ⟨⟨_, l.length, LOOSE, rfl, rfl, Nat.le_refl _, hl, .inr ⟨b, 0, rfl, .inr hS, fun j x hx => ?_⟩⟩, some ⟨b, 0, none⟩, LOOSE, rfl, le_loose hl, .inr ⟨rfl, b, bytesV l, rfl, .inr hS, hb, by rw [bytesV_len, Nat.mul_one]⟩⟩
    obtain ⟨c, h1, h2, h3⟩ := r.2 j x hx
    exact ⟨c, h1, h2, readOf hb (by rw [Nat.zero_add]; exact h3)⟩

theorem agn_strB {C : Ctx} {N : Nat} {s t : TypeId} {x : Operand} {dd : Option Nat} {ty : TypeId} {pos : String} {aft : Array Edge} {g : Option (Nat × Bool)} {hx a : H} {L : List (Nat × Value)} {v : Value} {bs : List UInt8} (q : Byt a v bs) (hs : isByteSl C s = true := by rfl) (ht : isStr C t = true := by rfl) (hxx : lookO L x = some v := by rfl) : Agn C N ⟨dd, .convert s t x, ty, pos, aft, g⟩ hx L (.string ⟨⟨bs⟩⟩) a :=
  .inr fun e' he' => by
    obtain ⟨b, n, c, rfl⟩ := q.2
    unfold isByteSl at hs
    unfold isStr at ht
    split at hs
    · rename_i e hu
      split at hs
      · rename_i he
        split at ht
        · rename_i hut
          simp only [calmF, cConvert, he'.eval hxx, hu, hut, he, byt_str q, pv]
        · cases ht
      · cases hs
    · cases hs

end Go.Proofs.YtmaccpaiaidgpaaGreatDoor

