import Derived.Test.YtengenceelmijaaSmall
import Derived.BigRegion
namespace Go.Proofs.Ytengenceelmijaa
open Go.RowKit
set_option linter.unusedVariables false

/-- Behind a write to the outer row and to the object's own cell: the scopes with one list more, or one fewer. -/
theorem ScV.setOpen {F : List Nat} {w w2 : World} {p : Nat} {a : Abs} {ov mv ov' : Value} {vs ms vs' : List Value} {op' : List (List Ob)} (h : ScV F w p a ov mv vs ms)
    (hos : w2.os = w.os) (htp : w2.tape = w.tape) (hout : w2.output = w.output) (hsz : w.heap.size ≤ w2.heap.size)
    (hk : ∀ b, b < w.heap.size → b ≠ p → ov.ownBlock ≠ some b → w2.heap[b]? = w.heap[b]?)
    (hp : w2.heap[p]? = some (.cells #[ov', mv] 64 (0, 0))) (hown : w2.ownsRow 0 66 1 ov' op'.length vs')
    (hob : ov'.ownBlock = ov.ownBlock ∨ ∃ g, ov'.ownBlock = some g ∧ w.heap.size ≤ g)
    (hvs : vs'.length = op'.length) (hin : ∀ (i : Nat) (v : Value) (xs : List Ob), vs'[i]? = some v → op'[i]? = some xs → (v = .slice none 0 0 ∧ xs = []) ∨ (vs[i]? = some v ∧ a.opn[i]? = some xs))
    (hsub : vs'.filterMap Value.ownBlock <+: vs.filterMap Value.ownBlock) (hsm : op'.length ≤ 65 ∧ 0 < op'.length) :
    ∃ F', Fr F w F' w2 ∧ ScV F' w2 p ⟨op', a.mds⟩ ov' mv vs' ms := by
  have hlt := h.lt
  have hnd := h.nd
  have hF := h.ft
  have hsubl : (footOf p ov mv vs' ms).Sublist (footOf p ov mv vs ms) := by
    unfold footOf
    refine List.Sublist.cons_cons _ ?_
    show ([ov, mv] ++ (vs' ++ ms)).filterMap _ |>.Sublist (([ov, mv] ++ (vs ++ ms)).filterMap _)
    simp only [List.filterMap_append]
    exact List.Sublist.append_left (List.Sublist.append_right hsub.sublist _) _
  have hnd1 : (footOf p ov mv vs' ms).Nodup := by rw [hF] at hnd; exact hnd.sublist hsubl
  have hlt1 : ∀ b ∈ footOf p ov mv vs' ms, b < w.heap.size := fun b hb => hlt b (by rw [hF]; exact hsubl.mem hb)
  have hnd2 : (footOf p ov' mv vs' ms).Nodup := nd_set (j := 0) (h' := ov') hnd1 hlt1 rfl hob
  have hpF : p ∈ F := by rw [hF]; exact List.mem_cons_self
  have hoF : ∀ b, ov.ownBlock = some b → b ∈ F := fun b hb => by rw [hF]; exact List.mem_cons_of_mem _ (List.mem_filterMap.2 ⟨ov, by simp, hb⟩)
  have hfr : Fr F w (footOf p ov' mv vs' ms) w2 := by
    refine ⟨hos, htp, hout, hsz, fun b hb hbF => hk b hb (fun e => hbF (e ▸ hpF)) (fun e => hbF (hoF b e)), fun b hb => ?_⟩
    rcases List.mem_cons.1 hb with rfl | hb
    · exact .inl hpF
    · obtain ⟨v, hv, hvb⟩ := List.mem_filterMap.1 hb
      rcases List.mem_cons.1 hv with rfl | hv
      · rcases hob with ho | ⟨g, ho, hg⟩
        · exact .inl (hoF b (ho ▸ hvb))
        · rw [ho] at hvb; injection hvb with e; subst e; exact .inr hg
      · refine .inl ?_
        rw [hF]
        exact hsubl.mem (List.mem_cons_of_mem _ (List.mem_filterMap.2 ⟨v, List.mem_cons_of_mem _ hv, hvb⟩))
  have hhs0 : (ov :: mv :: (vs ++ ms))[0]? = some ov := rfl
  rw [hF] at hnd
  have hkeep : ∀ (j : Nat) (v : Value), (ov :: mv :: (vs ++ ms))[j]? = some v → j ≠ 0 → ∀ b, v.ownBlock = some b → b < w.heap.size → w2.heap[b]? = w.heap[b]? := fun j v hj h0 b hb hbl =>
    hk b hbl (nd_p hnd hj hb) (fun e => nd_ne hnd hhs0 hj (Ne.symm h0) e hb)
  refine ⟨_, hfr, hp, hown, ownsRow_same h.mw fun b hb => hkeep 1 mv rfl (by decide) b hb (ownsRow_lt h.mw hb), ⟨hvs, fun i v xs hi hx => ?_⟩, ⟨h.ms_.1, fun i v xs hi hx => ?_⟩, rfl, hnd2, ⟨hsm.1, h.small.2.1, hsm.2⟩⟩
  · rcases hin i v xs hi hx with ⟨rfl, rfl⟩ | ⟨hi', hx'⟩
    · exact ⟨by simp, [], World.ownsRow_nil _ _ _ _, fun i x hi => by simp at hi⟩
    · have ho := h.os.2 i v xs hi' hx'
      refine ho.keep hfr fun b hb => ?_
      obtain ⟨_, _, hr, _⟩ := ho
      have hil : i < vs.length := (List.getElem?_eq_some_iff.1 hi').1
      exact hkeep (2 + i) v (by rw [show 2 + i = i + 1 + 1 by omega]; simp only [List.getElem?_cons_succ]; rw [List.getElem?_append_left hil]; exact hi') (by omega) b hb (ownsRow_lt hr hb)
  · have ho := h.ms_.2 i v xs hi hx
    refine ho.keep hfr fun b hb => ?_
    obtain ⟨_, _, hr, _⟩ := ho
    exact hkeep (2 + (vs.length + i)) v (by rw [show 2 + (vs.length + i) = (vs.length + i) + 1 + 1 by omega]; simp only [List.getElem?_cons_succ]; rw [List.getElem?_append_right (by omega), show vs.length + i - vs.length = i by omega]; exact hi) (by omega) b hb (ownsRow_lt hr hb)

theorem own_take {w : World} {e : TypeId} {size n c g : Nat} {xs : List Value} (h : w.ownsRow 0 e size (.slice (some ⟨g, 0, none⟩) n c) n xs) {k : Nat} (hk : k ≤ n) : w.ownsRow 0 e size (.slice (some ⟨g, 0, none⟩) k c) k (xs.take (k * size)) := by
  obtain ⟨h1, h2⟩ := h
  have hm : k * size ≤ n * size := Nat.mul_le_mul_right _ hk
  refine ⟨by rw [List.length_take, h1]; omega, ?_⟩
  rcases h2 with ⟨h2, _⟩ | ⟨g', cap, cur, hv, hg, hh, hnc, hm2, hcs, ht⟩
  · cases h2
  · cases hv
    exact .inr ⟨g, c, cur, rfl, hg, hh, by omega, hm2, hcs, by rw [← ht, List.take_take, Nat.min_eq_left hm]⟩

theorem f10_any {F : List Nat} {w : World} {p : Nat} {a : Abs} (h : Sc F w p a) :
    Calls Try.prog 10 #[.pointer (some ⟨p, 0, none⟩)] w fun e w' => (65 ≤ a.opn.length ∧ e = .returned (.int .i64 240) ∧ w = w') ∨
      (a.opn.length < 65 ∧ e = .returned (.int .i64 0) ∧ ∃ F', Fr F w F' w' ∧ Sc F' w' p ⟨a.opn ++ [[]], a.mds⟩) := by
  have hS := h
  obtain ⟨ov, mv, vs, ms, h⟩ := h
  obtain ⟨h0, h1, hf, hp⟩ := h.pcell
  have hf0 := hf 0
  have hs1 := h.small.1
  have hown := h.ow
  have hsv := h
  obtain ⟨A, c, rfl, _⟩ := own_cells h.ow
  have HH := Lib.hid hsv
  clear h h1 hsv hf
  by_cases hlt : a.opn.length < 65
  · go_enter Try.func10, Try.ntmps10
    go_wp2_with (first | (go_at_call 9; refine (f9_any hS).mono ?_; rintro e w' ⟨rfl, rfl⟩) | (at_builtin; refine wpList_app ti62 (by rfl) _ _ (by rfl) (by rfl) (hown.alloc _) (by rfl) [.slice none 0 0] (by rfl) (new_src _ #[.slice none 0 0] 66 (0, 0) 1) (by simp [Value.oneCell']) (by omega) ?_))
    intro A1 c1 w1 hown1 hg hob
    have hsv := HH.out
    have hne : some p ≠ (Value.slice A a.opn.length c).ownBlock := fun e => nd_p (by have := hsv.nd; rw [hsv.ft] at this; exact this) (i := 0) rfl e.symm rfl
    have hb1 : w1.heap[p]? = w.heap[p]? := (hg.block p (by simp; omega) hne).trans (Below.heap_alloc w _ p hp)
    have hc1 : w1.cell? ⟨p, 0, none⟩ = some (.slice A a.opn.length c) := (World.cell?_of_block (w := w) (a := ⟨p, 0, none⟩) hb1).trans h0
    have hf1 : w1.frozen? ⟨p, 0, none⟩ = false := (World.frozen?_of_block (w := w) (a := ⟨p, 0, none⟩) hb1).trans hf0
    have hsz := hg.size
    have HO := Lib.hid hob
    clear hob
    go_wp2
    go_ret
    right
    refine ⟨hlt, rfl, ?_⟩
    obtain ⟨v', hv'⟩ : ∃ v', v' = Value.slice A1 (a.opn.length + 1) c1 := ⟨_, rfl⟩
    rw [← hv'] at hown1
    have HO : v'.ownBlock = (Value.slice A a.opn.length c).ownBlock ∨ v'.ownBlock = some (w.heap.size + 1) := by rw [hv']; exact HO.out
    have hz : w.heap.size + 1 ≤ w1.heap.size := by simpa using hsz
    have hin : ∀ (i : Nat) (v : Value) (xs : List Ob), (vs ++ [Value.slice none 0 0])[i]? = some v → (a.opn ++ [[]])[i]? = some xs → (v = .slice none 0 0 ∧ xs = []) ∨ (vs[i]? = some v ∧ a.opn[i]? = some xs) := by
      intro i v xs hi hx
      have hl := hsv.os.1
      rw [List.getElem?_append] at hi hx
      split at hi
      · rename_i hlt'; rw [if_pos (by omega)] at hx; exact .inr ⟨hi, hx⟩
      · rename_i hlt'; rw [if_neg (by omega)] at hx
        left
        rw [← hl] at hx
        match h : i - vs.length, hi, hx with
        | 0, hi, hx => simp at hi hx; exact ⟨hi.symm, hx⟩
        | n + 1, hi, hx => simp at hi
    obtain ⟨F', hfr, hsc⟩ := hsv.setOpen (w2 := w1.setCell ⟨p, 0, none⟩ v') (ov' := v') (vs' := vs ++ [.slice none 0 0]) (op' := a.opn ++ [[]])
      hg.os hg.tape hg.output (by simp; omega)
      (fun b hb hbp hbo => by rw [Below.heap_setCell _ _ _ _ (by exact hbp), hg.block b (by simp; omega) (fun e => hbo e.symm), Below.heap_alloc _ _ _ hb])
      (heap_setCell_same w1 p 0 _ 64 v' (hb1.trans hsv.blk)) (ownsRow_same (by simpa using hown1) fun b hb => Below.heap_setCell _ _ _ _ (fun e => by
        subst e
        rcases HO with ho | ho
        · exact hne (ho ▸ hb.symm)
        · rw [ho] at hb; injection hb with hb; omega))
      (by rcases HO with ho | ho
          · exact .inl ho
          · exact .inr ⟨_, ho, by omega⟩)
      (by simp [hsv.os.1]) hin (by rw [List.filterMap_append]; exact ⟨[], by simp [List.filterMap, Value.ownBlock]⟩) (by simp; omega)
    subst hv'
    exact ⟨F', hfr, _, _, _, _, hsc⟩
  · go_enter Try.func10, Try.ntmps10
    go_wp2_with (go_at_call 9; refine (f9_any hS).mono ?_; rintro e w' ⟨rfl, rfl⟩)
    go_ret
    exact .inl ⟨by omega, rfl, rfl⟩
theorem f12_any {F : List Nat} {w : World} {p : Nat} {a : Abs} (h : Sc F w p a) :
    Calls Try.prog 12 #[.pointer (some ⟨p, 0, none⟩)] w fun e w' => (a.opn.length = 1 ∧ e = .returned (.int .i64 111) ∧ w = w') ∨
      (1 < a.opn.length ∧ e = .returned (.int .i64 0) ∧ ∃ F', Fr F w F' w' ∧ Sc F' w' p ⟨a.opn.dropLast, a.mds⟩) := by
  have hS := h
  obtain ⟨ov, mv, vs, ms, h⟩ := h
  obtain ⟨h0, h1, hf, hp⟩ := h.pcell
  have hf0 := hf 0
  have hs1 := h.small.1
  have hs2 := h.small.2.2
  have hown := h.ow
  have hsv := h
  obtain ⟨A, c, rfl, hc, hA⟩ := own_cells h.ow
  obtain ⟨g, rfl, _⟩ := hA hs2
  have HH := Lib.hid hsv
  clear h h1 hsv hf hA
  by_cases hlt : 1 < a.opn.length
  · have hq : (((a.opn.length : Int) - 1) == 0) = false := by simp; omega
    have b1 : (0 : Int) ≤ (a.opn.length : Int) - 1 := by omega
    have b2 : (a.opn.length : Int) - 1 ≤ (c : Int) := by omega
    go_enter Try.func12, Try.ntmps12
    go_wp2_with (first | (go_at_call 9; refine (f9_any hS).mono ?_; rintro e w' ⟨rfl, rfl⟩))
    go_region
    go_wp2
    go_ret
    right
    refine ⟨hlt, rfl, ?_⟩
    have hsv := HH.out
    have hl := hsv.os.1
    have hne : g ≠ p := nd_p (by have := hsv.nd; rw [hsv.ft] at this; exact this) (i := 0) rfl rfl
    have hin : ∀ (i : Nat) (v : Value) (xs : List Ob), vs.dropLast[i]? = some v → a.opn.dropLast[i]? = some xs → (v = .slice none 0 0 ∧ xs = []) ∨ (vs[i]? = some v ∧ a.opn[i]? = some xs) := by
      intro i v xs hi hx
      rw [List.getElem?_dropLast] at hi hx
      split at hi
      · split at hx
        · exact .inr ⟨hi, hx⟩
        · cases hx
      · cases hi
    obtain ⟨F', hfr, hsc⟩ := hsv.setOpen (w2 := (w.setCell ⟨p, 0, none⟩ (.slice (some ⟨g, 0, none⟩) (a.opn.length - 1) c)).drew) (ov' := .slice (some ⟨g, 0, none⟩) (a.opn.length - 1) c) (vs' := vs.dropLast) (op' := a.opn.dropLast)
      rfl rfl rfl (by simp) (fun b hb hbp hbo => Below.heap_setCell _ _ _ _ (by exact hbp)) (heap_setCell_same w p 0 _ 64 _ hsv.blk)
      (by
        rw [List.length_dropLast, List.dropLast_eq_take]
        have := own_take hown (k := a.opn.length - 1) (by omega)
        rw [Nat.mul_one] at this
        rw [show vs.length - 1 = a.opn.length - 1 by omega]
        exact ownsRow_same this fun b hb => Below.heap_setCell _ _ _ _ (by cases hb; exact hne))
      (.inl rfl) (by simp [hl]) hin (by rw [List.dropLast_eq_take]; exact List.IsPrefix.filterMap _ (List.take_prefix _ _)) (by simp; omega)
    exact ⟨F', hfr, _, _, _, _, hsc⟩
  · have hq : (((a.opn.length : Int) - 1) == 0) = true := by simp; omega
    go_enter Try.func12, Try.ntmps12
    go_wp2_with (go_at_call 9; refine (f9_any hS).mono ?_; rintro e w' ⟨rfl, rfl⟩)
    go_ret
    exact .inl ⟨by omega, rfl, rfl⟩
end Go.Proofs.Ytengenceelmijaa
