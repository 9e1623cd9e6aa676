import Derived.Test.YtengenceelmijaaRefH
namespace Go.Proofs.Ytengenceelmijaa
open Go.RowKit
set_option linter.unusedVariables false

/-- The program's scopes and the document's say the same. -/
structure Rel (a : Abs) (r : Rf) : Prop where
  lv : r.lv = (a.opn.length : Int) - 1
  pos : 0 < a.opn.length
  le : a.opn.length ≤ 65
  mods : a.mds = r.mods
  at_ : ∀ j, j < a.opn.length → a.opn[j]? = some (levelL r.l (j : Int))
  in_ : ∀ x ∈ r.l, 0 ≤ x.lv ∧ x.lv ≤ r.lv

theorem findI_map (l : List Ob) (lv : Int) (s : ByteArray) : (atI l lv s).bind (fun i => l[i]?) = findIn (levelL l lv) s := by
  induction l with
  | nil => rfl
  | cons x l ih =>
    unfold atI levelL at *
    rw [List.findIdx?_cons]
    by_cases h : x.lv = lv
    · rw [List.filter_cons_of_pos (by simpa using h)]
      cases hn : x.nm.toList == s.toList with
      | true =>
        have hh : hit lv s x = true := by unfold hit; rw [decide_eq_true h, hn]; rfl
        rw [if_pos hh]
        simp [findIn, findI, hn]
      | false =>
        have hh : hit lv s x = false := by unfold hit; rw [hn]; simp
        rw [if_neg (by rw [hh]; simp)]
        rw [findIn, List.map_cons, findI, if_neg (by rw [hn]; simp)]
        rw [findIn] at ih
        rw [Option.bind_map, Option.bind_map]
        exact ih
    · rw [List.filter_cons_of_neg (by simpa using h)]
      have hh : hit lv s x = false := by unfold hit; rw [decide_eq_false h]; rfl
      rw [if_neg (by rw [hh]; simp)]
      rw [Option.bind_map]
      exact ih
theorem findI_isSome (l : List Ob) (lv : Int) (s : ByteArray) : (atI l lv s).isSome = (findI ((levelL l lv).map Ob.nm) s).isSome := by
  have h := findI_map l lv s
  unfold findIn at h
  cases h1 : atI l lv s with
  | none =>
    cases h2 : findI ((levelL l lv).map Ob.nm) s with
    | none => rfl
    | some j =>
      have := findI_lt h2
      rw [h1, h2] at h
      simp at h
      rw [List.length_map] at this
      omega
  | some i =>
    cases h2 : findI ((levelL l lv).map Ob.nm) s with
    | some j => rfl
    | none =>
      have := atI_lt h1
      rw [h1, h2] at h
      simp at h
      omega
theorem levelL_set (l : List Ob) (lv : Int) (s : ByteArray) (y : Ob) (hy : y.lv = lv) : ∀ i, atI l lv s = some i → ∃ j, findI ((levelL l lv).map Ob.nm) s = some j ∧ levelL (l.set i y) lv = (levelL l lv).set j y ∧ ∀ m : Int, m ≠ lv → levelL (l.set i y) m = levelL l m := by
  induction l with
  | nil => intro i h; simp [atI] at h
  | cons x l ih =>
    intro i h
    unfold atI at h
    rw [List.findIdx?_cons] at h
    by_cases hx : x.lv = lv
    · cases hn : x.nm.toList == s.toList with
      | true =>
        have hh : hit lv s x = true := by unfold hit; rw [decide_eq_true hx, hn]; rfl
        rw [if_pos hh] at h
        injection h with h; subst h
        refine ⟨0, ?_, ?_, fun m hm => ?_⟩
        · rw [levelL, List.filter_cons_of_pos (by simpa using hx), List.map_cons, findI, hn]; rfl
        · rw [List.set_cons_zero, levelL, levelL, List.filter_cons_of_pos (by simpa using hy), List.filter_cons_of_pos (by simpa using hx), List.set_cons_zero]
        · rw [List.set_cons_zero, levelL, levelL, List.filter_cons_of_neg (by simp; omega), List.filter_cons_of_neg (by simp; omega)]
      | false =>
        have hh : hit lv s x = false := by unfold hit; rw [hn]; simp
        rw [if_neg (by rw [hh]; simp)] at h
        obtain ⟨i', hi', rfl⟩ := Option.map_eq_some_iff.1 h
        obtain ⟨j, h1, h2, h3⟩ := ih i' hi'
        refine ⟨j + 1, ?_, ?_, fun m hm => ?_⟩
        · rw [levelL, List.filter_cons_of_pos (by simpa using hx), List.map_cons, findI, if_neg (by rw [hn]; simp)]
          unfold levelL at h1
          rw [h1]; rfl
        · rw [List.set_cons_succ, levelL, List.filter_cons_of_pos (by simpa using hx), levelL, List.filter_cons_of_pos (by simpa using hx), List.set_cons_succ]
          unfold levelL at h2
          rw [h2]
        · rw [List.set_cons_succ, levelL, List.filter_cons_of_neg (by simp; omega), levelL, List.filter_cons_of_neg (by simp; omega)]
          exact h3 m hm
    · have hh : hit lv s x = false := by unfold hit; rw [decide_eq_false hx]; rfl
      rw [if_neg (by rw [hh]; simp)] at h
      obtain ⟨i', hi', rfl⟩ := Option.map_eq_some_iff.1 h
      obtain ⟨j, h1, h2, h3⟩ := ih i' hi'
      refine ⟨j, ?_, ?_, fun m hm => ?_⟩
      · rw [levelL, List.filter_cons_of_neg (by simpa using hx)]; exact h1
      · rw [List.set_cons_succ, levelL, List.filter_cons_of_neg (by simpa using hx), levelL, List.filter_cons_of_neg (by simpa using hx)]
        exact h2
      · rw [List.set_cons_succ, levelL, levelL, List.filter_cons, List.filter_cons]
        have := h3 m hm
        unfold levelL at this
        rw [this]

theorem levelL_snoc (l : List Ob) (y : Ob) (m : Int) : levelL (l ++ [y]) m = levelL l m ++ if y.lv = m then [y] else [] := by
  unfold levelL
  rw [List.filter_append]
  congr 1
  by_cases h : y.lv = m
  · rw [if_pos h, List.filter_cons_of_pos (by simpa using h)]; rfl
  · rw [if_neg h, List.filter_cons_of_neg (by simpa using h)]; rfl
theorem levelL_close (l : List Ob) (lv m : Int) (h : m < lv) : levelL (closeL l lv) m = levelL l m := by
  unfold levelL closeL
  rw [List.filter_filter]
  apply List.filter_congr
  intro x _
  by_cases hx : x.lv = m <;> simp [hx, h]
theorem levelL_none (l : List Ob) (lv m : Int) (h : ∀ x ∈ l, 0 ≤ x.lv ∧ x.lv ≤ lv) (hm : lv < m) : levelL l m = [] := by
  unfold levelL
  rw [List.filter_eq_nil_iff]
  intro x hx
  have := h x hx
  simp; omega

theorem Rel.top {a : Abs} {r : Rf} (h : Rel a r) : top a = levelL r.l r.lv := by
  have := h.at_ (a.opn.length - 1) (by have := h.pos; omega)
  rw [Ytengenceelmijaa.top, this, Option.getD_some]
  congr 1
  have := h.lv; have := h.pos; omega
theorem Rel.new : Rel ⟨[[]], []⟩ ⟨[], 0, []⟩ := ⟨rfl, by simp, by simp, rfl, fun j hj => by simp at hj; subst hj; rfl, fun x hx => by simp at hx⟩

def openA (a : Abs) : Int × Abs := if 65 ≤ a.opn.length then (240, a) else (0, ⟨a.opn ++ [[]], a.mds⟩)
def closeA (a : Abs) : Int × Abs := if a.opn.length = 1 then (111, a) else (0, ⟨a.opn.dropLast, a.mds⟩)

theorem Rel.open_ {a : Abs} {r : Rf} (h : Rel a r) : (openA a).1 = (openR r).1 ∧ Rel (openA a).2 (openR r).2 := by
  have hl := h.lv; have hp := h.pos; have hle := h.le
  unfold openA openR
  by_cases hf : 65 ≤ a.opn.length
  · rw [if_pos hf, if_pos (by omega)]; exact ⟨rfl, h⟩
  · rw [if_neg hf, if_neg (by omega)]
    refine ⟨rfl, by simp; omega, by simp, by simp; omega, h.mods, fun j hj => ?_, fun x hx => ⟨(h.in_ x hx).1, by have := (h.in_ x hx).2; simp; omega⟩⟩
    simp at hj
    rw [List.getElem?_append]
    split
    · exact h.at_ j (by omega)
    · have : j = a.opn.length := by omega
      subst this
      simp
      exact (levelL_none r.l r.lv (a.opn.length : Int) h.in_ (by omega))
theorem Rel.close {a : Abs} {r : Rf} (h : Rel a r) : (closeA a).1 = (closeR r).1 ∧ Rel (closeA a).2 (closeR r).2 := by
  have hl := h.lv; have hp := h.pos; have hle := h.le
  unfold closeA closeR
  by_cases hf : a.opn.length = 1
  · rw [if_pos hf, if_pos (by omega)]; exact ⟨rfl, h⟩
  · rw [if_neg hf, if_neg (by omega)]
    refine ⟨rfl, by simp; omega, by simp; omega, by simp; omega, h.mods, fun j hj => ?_, fun x hx => ?_⟩
    · have hj : j < a.opn.length - 1 := by simpa using hj
      show a.opn.dropLast[j]? = some (levelL (closeL r.l r.lv) j)
      have hjl : j < a.opn.length := by omega
      rw [List.getElem?_dropLast, if_pos (by omega), h.at_ j hjl, levelL_close r.l r.lv (j : Int) (by omega)]
    · obtain ⟨h1, h2⟩ := List.mem_filter.1 hx
      have := h.in_ x h1
      simp at h2
      exact ⟨this.1, by simp; omega⟩
theorem Rel.declare {a : Abs} {r : Rf} (h : Rel a r) (hn : r.l.length ≤ 1000) (x : Ob) : (declare a x).1 = (declareR r x).1 ∧ Rel (Ytengenceelmijaa.declare a x).2 (declareR r x).2 := by
  have hl := h.lv; have hp := h.pos; have hle := h.le
  unfold Ytengenceelmijaa.declare declareR
  by_cases hb : badName x.nm = true
  · rw [if_pos hb, if_pos hb]; exact ⟨rfl, h⟩
  rw [if_neg hb, if_neg hb, h.top, ← findI_isSome]
  cases ha : atI r.l r.lv x.nm with
  | some i =>
    have : 0 ≤ atZ r.l r.lv x.nm := by unfold atZ; rw [ha]; simp
    rw [if_pos (by simp), if_pos this]; exact ⟨rfl, h⟩
  | none =>
    have : ¬ 0 ≤ atZ r.l r.lv x.nm := by unfold atZ; rw [ha]; simp
    have hlen := levelL_len r.l r.lv
    rw [if_neg (by simp), if_neg this, if_neg (by omega)]
    have hy : ((a.opn.length : Int) - 1) = r.lv := by omega
    rw [hy]
    refine ⟨rfl, by simpa using hl, by simpa using hp, by simpa using hle, h.mods, fun j hj => ?_, fun y hy => ?_⟩
    · have hj' : j < a.opn.length := by simpa using hj
      show (a.opn.set (a.opn.length - 1) _)[j]? = some (levelL (r.l ++ [{ x with lv := r.lv }]) j)
      rw [levelL_snoc, List.getElem?_set]
      by_cases hjk : a.opn.length - 1 = j
      · rw [if_pos hjk, if_pos (by omega), if_pos (show r.lv = (j : Int) by omega), ← (show r.lv = (j : Int) by omega)]
      · rw [if_neg hjk, if_neg (show ¬ r.lv = (j : Int) by omega), List.append_nil]
        exact h.at_ j hj'
    · rcases List.mem_append.1 hy with hy | hy
      · exact h.in_ y hy
      · simp at hy; subst hy
        exact ⟨by simp; omega, by simp⟩
theorem Rel.change {a : Abs} {r : Rf} (h : Rel a r) (lv : Int) (x : Ob) : (change a lv x).1 = (changeR r lv x).1 ∧ Rel (Ytengenceelmijaa.change a lv x).2 (changeR r lv x).2 := by
  have hl := h.lv; have hp := h.pos; have hle := h.le
  unfold Ytengenceelmijaa.change changeR
  have hin : ∀ i, atI r.l lv x.nm = some i → 0 ≤ lv ∧ lv ≤ r.lv := fun i hi => by
    unfold atI at hi
    obtain ⟨hil, hh, _⟩ := List.findIdx?_eq_some_iff_getElem.1 hi
    have := h.in_ _ (List.getElem_mem hil)
    unfold hit at hh
    simp at hh
    omega
  by_cases hb : lv < 0 ∨ (a.opn.length : Int) ≤ lv
  · rw [if_pos hb]
    cases ha : atI r.l lv x.nm with
    | none => exact ⟨rfl, h⟩
    | some i => have := hin i ha; omega
  rw [if_neg hb]
  obtain ⟨k, rfl⟩ : ∃ k : Nat, lv = k := ⟨lv.toNat, by omega⟩
  have hk : k < a.opn.length := by omega
  rw [show ((k : Int).toNat) = k from rfl, h.at_ k hk, Option.getD_some]
  have hsome := findI_isSome r.l (k : Int) x.nm
  cases ha : atI r.l (k : Int) x.nm with
  | none =>
    rw [ha] at hsome
    cases hf : findI ((levelL r.l (k : Int)).map Ob.nm) x.nm with
    | none => exact ⟨rfl, h⟩
    | some j => rw [hf] at hsome; cases hsome
  | some i =>
    obtain ⟨j, h1, h2, h3⟩ := levelL_set r.l (k : Int) x.nm { x with lv := (k : Int) } rfl i ha
    rw [h1]
    refine ⟨rfl, by simpa using hl, by simpa using hp, by simpa using hle, h.mods, fun m hm => ?_, fun y hy => ?_⟩
    · have hm' : m < a.opn.length := by simpa using hm
      show (a.opn.set k _)[m]? = some (levelL (r.l.set i { x with lv := (k : Int) }) m)
      rw [List.getElem?_set]
      by_cases hmk : k = m
      · subst hmk
        rw [if_pos rfl, if_pos hk, h2]
      · rw [if_neg hmk, h3 m (by omega)]
        exact h.at_ m hm'
    · rcases List.mem_or_eq_of_mem_set hy with hy | hy
      · exact h.in_ y hy
      · subst hy; exact hin i ha
theorem Rel.import_ {a : Abs} {r : Rf} (h : Rel a r) (hn : r.l.length ≤ 1000) (s : ByteArray) (es : List Ex) :
    (importA a s es).1 = (importR r s es).1 ∧ (importA a s es).2.1 = (importR r s es).2.1 ∧ Rel (importA a s es).2.2 (importR r s es).2.2 := by
  unfold importA importR
  rw [h.mods]
  by_cases hf : 64 ≤ r.mods.length
  · rw [if_pos hf, if_pos hf]; exact ⟨rfl, rfl, h⟩
  rw [if_neg hf, if_neg hf]
  obtain ⟨h1, h2⟩ := h.declare hn (modOb s ((r.mods.length : Int) + 1))
  simp only [h1]
  by_cases hz : (declareR r (modOb s ((r.mods.length : Int) + 1))).1 = 0
  · rw [if_neg (by simpa using hz), if_neg (by simpa using hz)]
    have hm := (declare_len a (modOb s ((r.mods.length : Int) + 1))).2
    refine ⟨rfl, rfl, h2.lv, h2.pos, h2.le, ?_, h2.at_, h2.in_⟩
    show (Ytengenceelmijaa.declare a _).2.mds ++ _ = _
    rw [hm, h.mods]
  · rw [if_pos hz, if_pos hz]; exact ⟨rfl, rfl, h⟩
theorem Rel.find {a : Abs} {r : Rf} (h : Rel a r) (s : ByteArray) : ∀ k, k ≤ a.opn.length → findN a.opn s k = atN r.l s k
  | 0, _ => rfl
  | k + 1, hk => by
    rw [findN, atN, h.at_ k (by omega), Option.getD_some, ← findI_map]
    cases ha : atI r.l (k : Int) s with
    | none => exact h.find s k (by omega)
    | some i =>
      have := atI_lt ha
      simp [List.getElem?_eq_getElem this]
theorem Rel.exports {a : Abs} {r : Rf} (h : Rel a r) : exportsOf (a.opn[0]?.getD []) = exportsR r.l := by
  rw [h.at_ 0 h.pos, Option.getD_some, exportsOf, exportsR, levelL, List.filter_filter]
  congr 1
  apply List.filter_congr
  intro x _
  unfold exIn
  rw [Bool.and_comm]; rfl
end Go.Proofs.Ytengenceelmijaa
