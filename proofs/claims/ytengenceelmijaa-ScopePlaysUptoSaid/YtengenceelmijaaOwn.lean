import Derived.Test.YtengenceelmijaaMem
namespace Go.Proofs.Ytengenceelmijaa
open Go.RowKit
set_option linter.unusedVariables false

/-! ### The footprint -/
theorem split_at {α : Type} {l : List α} {j : Nat} {x : α} (h : l[j]? = some x) : l = l.take j ++ x :: l.drop (j + 1) ∧ ∀ y, l.set j y = l.take j ++ y :: l.drop (j + 1) := by
  obtain ⟨hj, rfl⟩ := List.getElem?_eq_some_iff.1 h
  refine ⟨by simp, fun y => by rw [List.set_eq_take_append_cons_drop, if_pos hj]⟩

theorem nd_set {hs : List Value} {p N : Nat} (hnd : (p :: hs.filterMap Value.ownBlock).Nodup) (hlt : ∀ b ∈ p :: hs.filterMap Value.ownBlock, b < N) {j : Nat} {h h' : Value}
    (hj : hs[j]? = some h) (ho : h'.ownBlock = h.ownBlock ∨ ∃ g, h'.ownBlock = some g ∧ N ≤ g) : (p :: (hs.set j h').filterMap Value.ownBlock).Nodup := by
  obtain ⟨e1, e2⟩ := split_at hj
  rw [e2]
  generalize hs.take j = A at *
  generalize hs.drop (j + 1) = B at *
  subst e1
  rcases ho with ho | ⟨g, ho, hg⟩
  · simp only [List.filterMap_append, List.filterMap_cons, ho] at *
    exact hnd
  · have h1 : (p :: (A ++ B).filterMap Value.ownBlock).Nodup := by
      refine hnd.sublist (List.Sublist.cons_cons _ (List.Sublist.filterMap _ ?_))
      exact List.Sublist.append_left (List.sublist_cons_self _ _) _
    have h2 : g ∉ p :: (A ++ B).filterMap Value.ownBlock := fun hm => by
      have : g < N := hlt g (by
        simp only [List.filterMap_append, List.mem_cons, List.mem_append, List.filterMap_cons] at hm ⊢
        rcases hm with rfl | hm | hm
        · exact .inl rfl
        · exact .inr (.inl hm)
        · refine .inr (.inr ?_)
          split
          · exact hm
          · exact List.mem_cons_of_mem _ hm)
      omega
    simp only [List.filterMap_append, List.filterMap_cons, ho, List.nodup_cons, List.mem_append, List.mem_cons, not_or, List.nodup_append] at h1 h2 ⊢
    refine ⟨⟨h1.1.1, fun e => h2.1 e.symm, h1.1.2⟩, h1.2.1, ⟨h2.2.2, h1.2.2.1⟩, fun a ha b hb e => ?_⟩
    rcases hb with rfl | hb
    · subst e; exact h2.2.1 ha
    · exact h1.2.2.2 a ha b hb e

theorem nd_ne {hs : List Value} {p : Nat} (hnd : (p :: hs.filterMap Value.ownBlock).Nodup) {i j : Nat} {a b : Value} (hi : hs[i]? = some a) (hj : hs[j]? = some b) (hij : i ≠ j) {g : Nat}
    (hg : a.ownBlock = some g) : b.ownBlock ≠ some g := by
  intro hb
  obtain ⟨e1, _⟩ := split_at hi
  have hm : b ∈ hs.take i ++ hs.drop (i + 1) := by
    rcases Nat.lt_or_gt_of_ne hij with h | h
    · refine List.mem_append_right _ (List.mem_of_getElem? (i := j - (i + 1)) ?_)
      rw [List.getElem?_drop, show i + 1 + (j - (i + 1)) = j by omega]; exact hj
    · refine List.mem_append_left _ (List.mem_of_getElem? (i := j) ?_)
      rw [List.getElem?_take, if_pos h]; exact hj
  generalize hs.take i = A at *
  generalize hs.drop (i + 1) = B at *
  subst e1
  simp only [List.filterMap_append, List.filterMap_cons, hg, List.nodup_cons, List.nodup_append, List.mem_append, List.mem_cons] at hnd
  rcases List.mem_append.1 hm with hm | hm
  · exact hnd.2.2.2 g (List.mem_filterMap.2 ⟨b, hm, hb⟩) g (by simp) rfl
  · exact hnd.2.2.1.1 (List.mem_filterMap.2 ⟨b, hm, hb⟩)

theorem nd_p {hs : List Value} {p : Nat} (hnd : (p :: hs.filterMap Value.ownBlock).Nodup) {i : Nat} {a : Value} (hi : hs[i]? = some a) {g : Nat} (hg : a.ownBlock = some g) : g ≠ p := by
  rintro rfl
  exact (List.nodup_cons.1 hnd).1 (List.mem_filterMap.2 ⟨a, List.mem_of_getElem? hi, hg⟩)

theorem ownsRow_lt {w : World} {e : TypeId} {size n : Nat} {v : Value} {xs : List Value} (h : w.ownsRow 0 e size v n xs) {b : Nat} (hb : v.ownBlock = some b) : b < w.heap.size := (h.lt b hb).2

section
variable {F : List Nat} {w : World} {p : Nat} {a : Abs} {ov mv : Value} {vs ms : List Value}
theorem ScV.lt (h : ScV F w p a ov mv vs ms) : ∀ b ∈ F, b < w.heap.size := by
  intro b hb
  rw [h.ft] at hb
  rcases List.mem_cons.1 hb with rfl | hb
  · rcases Nat.lt_or_ge b w.heap.size with h1 | h1
    · exact h1
    · have := h.blk; rw [Array.getElem?_eq_none h1] at this; cases this
  · obtain ⟨v, hv, hvb⟩ := List.mem_filterMap.1 hb
    simp only [List.mem_cons, List.mem_append] at hv
    rcases hv with rfl | rfl | hv | hv
    · exact ownsRow_lt h.ow hvb
    · exact ownsRow_lt h.mw hvb
    · obtain ⟨i, hi⟩ := List.mem_iff_getElem?.1 hv
      have hl : i < a.opn.length := by rw [← h.os.1]; exact (List.getElem?_eq_some_iff.1 hi).1
      obtain ⟨_, cs, hr, _⟩ := h.os.2 i v _ hi (List.getElem?_eq_getElem hl)
      exact ownsRow_lt hr hvb
    · obtain ⟨i, hi⟩ := List.mem_iff_getElem?.1 hv
      have hl : i < a.mds.length := by rw [← h.ms_.1]; exact (List.getElem?_eq_some_iff.1 hi).1
      obtain ⟨_, cs, hr, _⟩ := h.ms_.2 i v _ hi (List.getElem?_eq_getElem hl)
      exact ownsRow_lt hr hvb
theorem ScV.pcell (h : ScV F w p a ov mv vs ms) : cel w p 0 ov ∧ cel w p 1 mv ∧ (∀ i, w.frozen? ⟨p, i, none⟩ = false) ∧ p < w.heap.size := by
  refine ⟨by rw [cel, cell_of_row w p 0 _ _ _ h.blk]; rfl, by rw [cel, cell_of_row w p 1 _ _ _ h.blk]; rfl, fun i => frozen_of_row w p i _ _ h.blk, h.lt p (by rw [h.ft]; exact List.mem_cons_self)⟩

theorem OwnObs.keep {F F' : List Nat} {w w' : World} {v : Value} {xs : List Ob} (h : OwnObs F w v xs) (hf : Fr F w F' w') (hb : ∀ b, v.ownBlock = some b → w'.heap[b]? = w.heap[b]?) : OwnObs F' w' v xs := by
  obtain ⟨h0, cs, hr, hc⟩ := h
  exact ⟨h0, cs, ownsRow_same hr hb, hc.keep hf⟩

/-- What reads and lays alone: the scopes are as they were. -/
theorem ScV.below {w' : World} (h : ScV F w p a ov mv vs ms) (hb : Below w.heap.size w w') : ScV F w' p a ov mv vs ms := by
  have hf : Fr F w F w' := Fr.of_below hb
  have hk : ∀ b, b < w.heap.size → w'.heap[b]? = w.heap[b]? := hb.block
  refine ⟨by rw [hk p h.pcell.2.2.2]; exact h.blk, ownsRow_same h.ow fun b hbb => hk b (ownsRow_lt h.ow hbb), ownsRow_same h.mw fun b hbb => hk b (ownsRow_lt h.mw hbb),
    ⟨h.os.1, fun i v xs hi hx => ?_⟩, ⟨h.ms_.1, fun i v xs hi hx => ?_⟩, h.ft, h.nd, h.small⟩
  · have ho := h.os.2 i v xs hi hx
    exact ho.keep hf fun b hbb => by obtain ⟨_, _, hr, _⟩ := ho; exact hk b (ownsRow_lt hr hbb)
  · have ho := h.ms_.2 i v xs hi hx
    exact ho.keep hf fun b hbb => by obtain ⟨_, _, hr, _⟩ := ho; exact hk b (ownsRow_lt hr hbb)
end
theorem Sc.below {F : List Nat} {w w' : World} {p : Nat} {a : Abs} (h : Sc F w p a) (hb : Below w.heap.size w w') : Sc F w' p a := by
  obtain ⟨ov, mv, vs, ms, h⟩ := h
  exact ⟨ov, mv, vs, ms, h.below hb⟩
end Go.Proofs.Ytengenceelmijaa
