import Derived.Test.YtengenceelmijaaOpen
namespace Go.Proofs.Ytengenceelmijaa
open Go.RowKit
set_option linter.unusedVariables false

section
variable {F : List Nat} {w w2 : World} {p : Nat} {a : Abs} {ov mv v v' : Value} {vs ms : List Value} {k : Nat} {xs' : List Ob}
/-- Behind a write to one list, and to its place in the outer row. -/
theorem ScV.setInner (h : ScV F w p a ov mv vs ms) (hv : vs[k]? = some v)
    (hos : w2.os = w.os) (htp : w2.tape = w.tape) (hout : w2.output = w.output) (hsz : w.heap.size ≤ w2.heap.size)
    (hk : ∀ b, b < w.heap.size → ov.ownBlock ≠ some b → v.ownBlock ≠ some b → w2.heap[b]? = w.heap[b]?)
    (hown : w2.ownsRow 0 66 1 ov a.opn.length (vs.set k v')) (hob : v'.ownBlock = v.ownBlock ∨ ∃ g, v'.ownBlock = some g ∧ w.heap.size ≤ g) :
    Fr F w (footOf p ov mv (vs.set k v') ms) w2 ∧ ∀ cs', w2.ownsRow 0 25 8 v' xs'.length cs' → OC (footOf p ov mv (vs.set k v') ms) w2 cs' xs' → xs'.length ≤ 4194304 →
      ScV (footOf p ov mv (vs.set k v') ms) w2 p ⟨a.opn.set k xs', a.mds⟩ ov mv (vs.set k v') ms := by
  have hlt := h.lt
  have hnd := h.nd
  have hF := h.ft
  have hkl : k < vs.length := (List.getElem?_eq_some_iff.1 hv).1
  have hj : (ov :: mv :: (vs ++ ms))[2 + k]? = some v := by
    rw [show 2 + k = k + 1 + 1 by omega]; simp only [List.getElem?_cons_succ]; rw [List.getElem?_append_left hkl]; exact hv
  have hset : (ov :: mv :: (vs ++ ms)).set (2 + k) v' = ov :: mv :: (vs.set k v' ++ ms) := by
    rw [show 2 + k = k + 1 + 1 by omega]; simp only [List.set_cons_succ]; rw [List.set_append_left _ _ hkl]
  have hnd2 : (footOf p ov mv (vs.set k v') ms).Nodup := by
    rw [footOf, ← hset]
    exact nd_set (by rw [hF] at hnd; exact hnd) (fun b hb => hlt b (by rw [hF]; exact hb)) hj hob
  have hpF : p ∈ F := by rw [hF]; exact List.mem_cons_self
  have hoF : ∀ (j : Nat) (u : Value), (ov :: mv :: (vs ++ ms))[j]? = some u → ∀ b, u.ownBlock = some b → b ∈ F := fun j u hu b hb => by
    rw [hF]; exact List.mem_cons_of_mem _ (List.mem_filterMap.2 ⟨u, List.mem_of_getElem? hu, hb⟩)
  have hfr : Fr F w (footOf p ov mv (vs.set k v') ms) w2 := by
    refine ⟨hos, htp, hout, hsz, fun b hb hbF => hk b hb (fun e => hbF (hoF 0 ov rfl b e)) (fun e => hbF (hoF (2 + k) v hj b e)), fun b hb => ?_⟩
    rcases List.mem_cons.1 hb with rfl | hb
    · exact .inl hpF
    · rw [← hset] at hb
      obtain ⟨u, hu, hub⟩ := List.mem_filterMap.1 hb
      obtain ⟨j, hj'⟩ := List.mem_iff_getElem?.1 hu
      rw [List.getElem?_set] at hj'
      split at hj'
      · split at hj'
        · injection hj' with e; subst e
          rcases hob with ho | ⟨g, ho, hg⟩
          · exact .inl (hoF (2 + k) v hj b (ho ▸ hub))
          · rw [ho] at hub; injection hub with e; subst e; exact .inr hg
        · cases hj'
      · exact .inl (hoF j u hj' b hub)
  rw [hF] at hnd
  have hkeep : ∀ (j : Nat) (u : Value), (ov :: mv :: (vs ++ ms))[j]? = some u → j ≠ 0 → j ≠ 2 + k → ∀ b, u.ownBlock = some b → b < w.heap.size → w2.heap[b]? = w.heap[b]? := fun j u hu h0 h2 b hb hbl =>
    hk b hbl (fun e => nd_ne hnd (i := 0) rfl hu (Ne.symm h0) e hb) (fun e => nd_ne hnd hj hu (Ne.symm h2) e hb)
  refine ⟨hfr, fun cs' hr hoc hle => ⟨?_, by simpa using hown, ownsRow_same h.mw fun b hb => hkeep 1 mv rfl (by decide) (by omega) b hb (ownsRow_lt h.mw hb), ⟨by simp [h.os.1], fun i u xs hi hx => ?_⟩, ⟨h.ms_.1, fun i u xs hi hx => ?_⟩, rfl, hnd2, by simpa using h.small⟩⟩
  · rw [hk p h.pcell.2.2.2 (fun e => nd_p hnd (i := 0) rfl e rfl) (fun e => nd_p hnd hj e rfl)]; exact h.blk
  · rw [List.getElem?_set] at hi hx
    by_cases hik : k = i
    · subst hik
      rw [if_pos rfl, if_pos hkl] at hi
      rw [if_pos rfl, if_pos (by rw [← h.os.1]; exact hkl)] at hx
      injection hi with hi; injection hx with hx
      subst hi; subst hx
      exact ⟨hle, cs', hr, hoc⟩
    · rw [if_neg hik] at hi hx
      have ho := h.os.2 i u xs hi hx
      refine ho.keep hfr fun b hb => ?_
      obtain ⟨_, _, hr, _⟩ := ho
      have hil : i < vs.length := (List.getElem?_eq_some_iff.1 hi).1
      exact hkeep (2 + i) u (by rw [show 2 + i = i + 1 + 1 by omega]; simp only [List.getElem?_cons_succ]; rw [List.getElem?_append_left hil]; exact hi) (by omega) (by omega) b hb (ownsRow_lt hr hb)
  · have ho := h.ms_.2 i u xs hi hx
    refine ho.keep hfr fun b hb => ?_
    obtain ⟨_, _, hr, _⟩ := ho
    exact hkeep (2 + (vs.length + i)) u (by rw [show 2 + (vs.length + i) = (vs.length + i) + 1 + 1 by omega]; simp only [List.getElem?_cons_succ]; rw [List.getElem?_append_right (by omega), show vs.length + i - vs.length = i by omega]; exact hi) (by omega) (by omega) b hb (ownsRow_lt hr hb)
end

/-- An owned list, as find reads it. -/
theorem OwnObs.rd {F : List Nat} {w : World} {v : Value} {xs : List Ob} (h : OwnObs F w v xs) : ∃ A c, v = .slice A xs.length c ∧ Rd w A (xs.map Ob.nm) ∧ (0 < xs.length → ∃ g, A = some ⟨g, 0, none⟩ ∧ v.ownBlock = some g ∧ g < w.heap.size ∧
    ∀ i x, xs[i]? = some x → Ob7 w g (i * 8) x ∧ ∃ pv, cel w g (i * 8 + 7) pv ∧ PsR F w pv x.ps) := by
  obtain ⟨hl, cs, hr, hc⟩ := h
  obtain ⟨A, c, rfl, hcap, hA⟩ := own_cells hr
  have hobs : 0 < xs.length → ∃ g, A = some ⟨g, 0, none⟩ ∧ (Value.slice A xs.length c).ownBlock = some g ∧ g < w.heap.size ∧ ∀ i x, xs[i]? = some x → Ob7 w g (i * 8) x ∧ ∃ pv, cel w g (i * 8 + 7) pv ∧ PsR F w pv x.ps := fun h0 => by
    obtain ⟨g, rfl, hb, hg, hcell⟩ := hA h0
    refine ⟨g, rfl, hb, hg, fun i x hi => ?_⟩
    obtain ⟨h0, h1, h2, h3, h4, h5, h6, pv, h7, hp⟩ := hc i x hi
    exact ⟨⟨hcell _ _ h0, hcell _ _ h1, hcell _ _ h2, hcell _ _ h3, hcell _ _ h4, hcell _ _ h5, hcell _ _ h6⟩, pv, hcell _ _ h7, hp⟩
  refine ⟨A, c, rfl, fun hne => ?_, hobs⟩
  obtain ⟨g, rfl, hb, hg, hob⟩ := hobs (by simpa [List.length_pos_iff] using hne)
  refine ⟨g, 0, rfl, hg, fun i s hi => ?_⟩
  rw [List.getElem?_map] at hi
  obtain ⟨x, hx, rfl⟩ := Option.map_eq_some_iff.1 hi
  obtain ⟨h7, pv, hpv, _⟩ := hob i x hx
  rw [Nat.zero_add]
  exact ⟨x, rfl, h7, pv, hpv⟩
end Go.Proofs.Ytengenceelmijaa
