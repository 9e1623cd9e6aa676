import Derived.Test.YtkjfbjgcfkmhkaaLib
import Derived.Test.YtkjfbjgcfkmhkaaMem0
import Derived.Test.YtkjfbjgcfkmhkaaAgain
import Derived.Deep.Slices
namespace Go.Proofs.Ytkjfbjgcfkmhkaa
open Go.RowKit Go.ChangeShapes Go.WideShapes Go.Deep
set_option linter.unusedVariables false

section
variable {H : Type} {enc : TypeId × Value → H} {P : Program} {w : World} {sp : Nat → Bool} {held : Bool}
/-- A slice of any length; where it is not too long, what it reads as. -/
theorem read_slice_any {α : Type} [Inhabited α] {t e : TypeId} {C n : Nat} (E : Nat → Nat → α → Prop) (ht : P.underlying t = some (.slice e)) (hC : P.cellsOf e = C) (hpos : 0 < C) {cs : List Value} {x : DataW H × List MemPlace}
    (h : DataW.trod enc P w 0 sp held n t cs = some x)
    (hel : ∀ (cs' : List Value) (y : DataW H × List MemPlace) (m : Nat), cs'.length = C → DataW.trod enc P w 0 sp held m e cs' = some y →
      ∃ z : α, ∀ b o, b < w.heap.size → (∀ (j : Nat) (u : Value), cs'[j]? = some u → w.cell? ⟨b, o + j, none⟩ = some u) → E b o z) :
    ∃ A n c, cs = [.slice A n c] ∧ (n ≤ 4194304 → ∃ xs : List α, xs.length = n ∧ Sl (Good [] w) C E (.slice A n c) xs) := by
  rcases open_slice ht h with ⟨rfl, rfl⟩ | ⟨a, len, cap, m, k, D, Pl, rfl, _, hlc, hcm, hm, rfl, hi⟩
  · exact ⟨_, _, _, rfl, fun _ => ⟨[], rfl, Sl.nil _ _ _⟩⟩
  · have hlm : len ≤ m := by rw [hm]; split <;> omega
    refine ⟨_, _, _, rfl, fun hlen => ?_⟩
    rcases Nat.eq_zero_or_pos len with h0 | h0
    · subst h0
      exact ⟨[], rfl, by simp, some a, cap, rfl, by simp, fun h => absurd rfl h⟩
    obtain ⟨cs0, hc0, _⟩ := hi 0 (by omega)
    rw [hC] at hc0
    have hblk := World.cells?_block hc0 hpos
    obtain ⟨_, hl0, hat0⟩ := World.cells?_some hc0
    have hspot : a.spot = none := by
      have h1 := hat0 0 hpos
      rw [List.getElem?_eq_getElem (by omega)] at h1
      have := World.cell?_spot h1
      simpa [Addr.add] using this
    obtain ⟨b, o, spot⟩ := a
    have hspot : spot = none := hspot
    subst hspot
    have hbl : b < w.heap.size := by simpa [Addr.add] using hblk
    obtain ⟨f, hf⟩ := choose_lt (n := len) (p := fun i z => E b (o + i * C) z) fun i hil => by
      obtain ⟨cs', hc, htr⟩ := hi i (by omega)
      rw [hC] at hc
      obtain ⟨_, hl, hat⟩ := World.cells?_some hc
      obtain ⟨z, hz⟩ := hel cs' _ k hl htr
      refine ⟨z, hz b (o + i * C) hbl fun j u hu => ?_⟩
      have hj : j < C := by rw [← hl]; exact (List.getElem?_eq_some_iff.1 hu).1
      have := hat j hj
      rw [hu, Go.Deep.add_add, add_zero_addr, ← Nat.add_assoc] at this
      exact this
    refine ⟨(List.range len).map f, by simp, by simpa using hlen, some ⟨b, o, none⟩, cap, by simp, by simpa using hlc, fun _ => ⟨b, o, rfl, ⟨hbl, by simp⟩, fun i z hz => ?_⟩⟩
    have hil : i < len := by have := (List.getElem?_eq_some_iff.1 hz).1; simpa using this
    rw [List.getElem?_map] at hz
    obtain ⟨i', hi', rfl⟩ := Option.map_eq_some_iff.1 hz
    rw [List.getElem?_range hil] at hi'
    injection hi' with hi'
    subst hi'
    exact hf i hil
end
end Go.Proofs.Ytkjfbjgcfkmhkaa
