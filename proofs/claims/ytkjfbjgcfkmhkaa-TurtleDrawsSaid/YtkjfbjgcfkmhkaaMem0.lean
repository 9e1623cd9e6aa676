/- Words for memory: what a call leaves as it was, what a slice reads as. Nothing here names a Go function. -/
import Derived.Test.YtkjfbjgcfkmhkaaRows
import Derived.WalkKit
import Derived.ProofKit
import Derived.Lib.Hide
import Derived.Deep.Draws
import Derived.Deep.AppendLies
import Derived.Maps.AppendAt
namespace Go.Proofs.Ytkjfbjgcfkmhkaa
open Go.RowKit
set_option linter.unusedVariables false

/-- What a block holds that nobody owns. -/
def Good (F : List Nat) (w : World) (b : Nat) : Prop := b < w.heap.size ∧ b ∉ F

/-- What a call leaves: all that lay there, but what is owned; what is owned behind it was owned or is new. -/
structure Fr (F : List Nat) (w : World) (F' : List Nat) (w' : World) : Prop where
  os : w'.os = w.os
  tape : w'.tape = w.tape
  output : w'.output = w.output
  size : w.heap.size ≤ w'.heap.size
  block : ∀ b, b < w.heap.size → b ∉ F → w'.heap[b]? = w.heap[b]?
  sub : ∀ b, b ∈ F' → b ∈ F ∨ w.heap.size ≤ b

theorem Fr.refl (F : List Nat) (w : World) : Fr F w F w := ⟨rfl, rfl, rfl, Nat.le_refl _, fun _ _ _ => rfl, fun _ h => .inl h⟩
theorem Fr.trans {F F1 F2 : List Nat} {w w1 w2 : World} (h : Fr F w F1 w1) (k : Fr F1 w1 F2 w2) : Fr F w F2 w2 :=
  ⟨k.os.trans h.os, k.tape.trans h.tape, k.output.trans h.output, Nat.le_trans h.size k.size,
   fun b hb hF => by
     have h1 : b ∉ F1 := fun hc => by
       rcases h.sub b hc with h1 | h1
       · exact hF h1
       · omega
     exact (k.block b (Nat.lt_of_lt_of_le hb h.size) h1).trans (h.block b hb hF),
   fun b hb => by
     rcases k.sub b hb with h1 | h1
     · exact h.sub b h1
     · exact .inr (Nat.le_trans h.size h1)⟩
theorem Fr.of_below {F : List Nat} {w w' : World} (h : Below w.heap.size w w') : Fr F w F w' :=
  ⟨h.os, h.tape, h.output, h.size, fun b hb _ => h.block b hb, fun _ h => .inl h⟩
theorem Fr.drew {F F' : List Nat} {w w' : World} (h : Fr F w F' w') : Fr F w F' w'.drew := ⟨h.os, h.tape, h.output, h.size, h.block, h.sub⟩
theorem Fr.drewN {F F' : List Nat} {w w' : World} (h : Fr F w F' w') (n : Nat) : Fr F w F' (w'.drewN n) := ⟨h.os, h.tape, h.output, h.size, h.block, h.sub⟩
theorem Fr.below {w w' : World} {F' : List Nat} (h : Fr [] w F' w') : Below w.heap.size w w' := ⟨h.os, h.tape, h.output, h.size, fun b hb => h.block b hb (by simp)⟩
theorem Fr.good {F F' : List Nat} {w w' : World} (h : Fr F w F' w') {b : Nat} (hb : Good F w b) : Good F' w' b :=
  ⟨Nat.lt_of_lt_of_le hb.1 h.size, fun hc => by
    rcases h.sub b hc with h1 | h1
    · exact hb.2 h1
    · exact absurd hb.1 (by omega)⟩
theorem Fr.cell {F F' : List Nat} {w w' : World} (h : Fr F w F' w') {b : Nat} (hb : Good F w b) (o : Nat) : w'.cell? ⟨b, o, none⟩ = w.cell? ⟨b, o, none⟩ :=
  World.cell?_of_block (w := w) (h.block b hb.1 hb.2)
theorem Fr.frozen {F F' : List Nat} {w w' : World} (h : Fr F w F' w') {b : Nat} (hb : Good F w b) (o : Nat) : w'.frozen? ⟨b, o, none⟩ = w.frozen? ⟨b, o, none⟩ :=
  World.frozen?_of_block (w := w) (h.block b hb.1 hb.2)

/-- A slice that reads as a list. -/
def Sl {α : Type} (G : Nat → Prop) (sz : Nat) (E : Nat → Nat → α → Prop) (v : Value) (xs : List α) : Prop :=
  xs.length ≤ 4194304 ∧ ∃ A c, v = .slice A xs.length c ∧ xs.length ≤ c ∧ (xs ≠ [] → ∃ b o, A = some ⟨b, o, none⟩ ∧ G b ∧ ∀ i x, xs[i]? = some x → E b (o + i * sz) x)

theorem Sl.imp {α : Type} {G G' : Nat → Prop} {sz : Nat} {E E' : Nat → Nat → α → Prop} {v : Value} {xs : List α} (h : Sl G sz E v xs) (hG : ∀ b, G b → G' b)
    (hE : ∀ b o x, G b → E b o x → E' b o x) : Sl G' sz E' v xs := by
  obtain ⟨h0, A, c, rfl, hc, h⟩ := h
  refine ⟨h0, A, c, rfl, hc, fun hx => ?_⟩
  obtain ⟨b, o, rfl, hb, h⟩ := h hx
  exact ⟨b, o, rfl, hG b hb, fun i x hi => hE _ _ _ hb (h i x hi)⟩
theorem Sl.nil {α : Type} (G : Nat → Prop) (sz : Nat) (E : Nat → Nat → α → Prop) : Sl G sz E (.slice none 0 0) ([] : List α) :=
  ⟨by simp, none, 0, rfl, Nat.le_refl _, fun h => absurd rfl h⟩

abbrev cel (w : World) (b o : Nat) (v : Value) : Prop := w.cell? ⟨b, o, none⟩ = some v
theorem cel.keep {F F' : List Nat} {w w' : World} (h : Fr F w F' w') {b o : Nat} (hb : Good F w b) {v : Value} (hc : cel w b o v) : cel w' b o v := (h.cell hb o).trans hc
theorem ownsRow_same {w w' : World} {e : TypeId} {size n : Nat} {v : Value} {xs : List Value} (h : w.ownsRow 0 e size v n xs)
    (hb : ∀ b, v.ownBlock = some b → w'.heap[b]? = w.heap[b]?) : w'.ownsRow 0 e size v n xs := by
  obtain ⟨h1, h2⟩ := h
  refine ⟨h1, ?_⟩
  rcases h2 with h2 | ⟨g, cap, cur, rfl, hg, hh, r⟩
  · exact .inl h2
  · exact .inr ⟨g, cap, cur, rfl, hg, by rw [hb g rfl]; exact hh, r⟩
theorem ownsRow_lt {w : World} {e : TypeId} {size n : Nat} {v : Value} {xs : List Value} (h : w.ownsRow 0 e size v n xs) {b : Nat} (hb : v.ownBlock = some b) : b < w.heap.size := (h.lt b hb).2
theorem Fr.more {F F' : List Nat} {w w' : World} (hB : Below w.heap.size w w') (hF : ∀ b ∈ F', b ∈ F ∨ w.heap.size ≤ b) : Fr F w F' w' := ⟨hB.os, hB.tape, hB.output, hB.size, fun b hb _ => hB.block b hb, hF⟩
end Go.Proofs.Ytkjfbjgcfkmhkaa
