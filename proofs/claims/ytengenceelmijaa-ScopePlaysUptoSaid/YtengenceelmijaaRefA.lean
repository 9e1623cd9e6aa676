import Derived.Test.YtengenceelmijaaImport
namespace Go.Proofs.Ytengenceelmijaa
open Go.RowKit
set_option linter.unusedVariables false

theorem ps_at {F : List Nat} {w : World} {v : Value} {ps : List (Int × Bool)} (h : PsR F w v ps) : ∃ A c, v = .slice A ps.length c ∧ ps.length ≤ c ∧ ps.length ≤ 4194304 ∧ ∀ i x, ps[i]? = some x → ∃ b o, A = some ⟨b, o, none⟩ ∧ Good F w b ∧
    w.cell? ⟨b, o + i * 2, none⟩ = some (.int .i64 x.1) ∧ w.cell? ⟨b, o + i * 2 + 1, none⟩ = some (.bool x.2) := by
  obtain ⟨hl, A, c, rfl, hc, hx⟩ := h
  refine ⟨A, c, rfl, hc, hl, fun i x hi => ?_⟩
  obtain ⟨b, o, rfl, hg, hx⟩ := hx (by rintro rfl; simp at hi)
  exact ⟨b, o, rfl, hg, hx i x hi⟩
theorem take_succ_eq {α : Type} {xs ys : List α} {j : Nat} {x y : α} (hx : xs[j]? = some x) (hy : ys[j]? = some y) (h : xs.take j = ys.take j) (hxy : x = y) : xs.take (j + 1) = ys.take (j + 1) := by
  rw [List.take_add_one, List.take_add_one, hx, hy, h, hxy]

set_option maxHeartbeats 2000000 in
set_option maxRecDepth 100000 in
theorem f27_any {F : List Nat} {w : World} {u v : Value} {ps qs : List (Int × Bool)} (h : PsR F w u ps) (k : PsR F w v qs) :
    Calls Try.prog 27 #[u, v] w fun e w' => e = .returned (.bool (decide (ps = qs))) ∧ Below w.heap.size w w' := by
  obtain ⟨A, c, rfl, hc, hl, hA⟩ := ps_at h
  obtain ⟨B, d, rfl, hd, hm, hB⟩ := ps_at k
  have HA := Lib.hid hA
  have HB := Lib.hid hB
  clear h k hA hB
  by_cases hn : ps.length = qs.length
  · rw [hn] at hc hl ⊢
    have HN := Lib.hid hn
    clear hn
    go_enter Try.func27, Try.ntmps27
    go_wp2
    go_loopw [5] (fun i wr => ∃ j : Nat, j ≤ qs.length ∧ i = .int .i64 j ∧ Below w.heap.size w wr ∧ ps.take j = qs.take j) (fun i _ => qs.length - (intOf i).toNat)
    case atStart => exact ⟨0, Nat.zero_le _, rfl, Below.refl _ _, rfl⟩
    case round =>
      obtain ⟨j, hj, rfl, hBl, heq⟩ := hrel
      by_cases hlt : j < qs.length
      · obtain ⟨y, hy⟩ : ∃ y, qs[j]? = some y := ⟨_, List.getElem?_eq_getElem hlt⟩
        obtain ⟨x, hx⟩ : ∃ x, ps[j]? = some x := ⟨_, List.getElem?_eq_getElem (by have := HN.out; omega)⟩
        obtain ⟨b, o, rfl, hbl, q0, q1⟩ := HA.out j x hx
        obtain ⟨b', o', rfl, hbl', q0', q1'⟩ := HB.out j y hy
        have r0 := (hBl.cell (p := ⟨b, o + j * 2, none⟩) hbl.1).trans q0
        have r1 := (hBl.cell (p := ⟨b, o + j * 2 + 1, none⟩) hbl.1).trans q1
        have s0 := (hBl.cell (p := ⟨b', o' + j * 2, none⟩) hbl'.1).trans q0'
        have s1 := (hBl.cell (p := ⟨b', o' + j * 2 + 1, none⟩) hbl'.1).trans q1'
        have hbl1 := hbl.1
        have hbl1' := hbl'.1
        have HX := Lib.hid hx
        have HY := Lib.hid hy
        have HE := Lib.hid heq
        have hs := hBl.size
        clear q0 q1 q0' q1' hx hy heq hbl hbl'
        obtain ⟨x1, x2⟩ := x
        obtain ⟨y1, y2⟩ := y
        by_cases h1 : x1 = y1
        · subst h1
          by_cases h2 : x2 = y2
          · subst h2
            go_wp2
            go_region
            go_wp2
            go_roundw
            case rel => exact ⟨j + 1, by omega, by go_num, hBl.drew, take_succ_eq HX.out HY.out HE.out rfl⟩
            case measure => simp [intOf]; omega
          · go_wp2
            go_region
            go_wp2
            go_ret
            have hne : decide (ps = qs) = false := decide_eq_false fun e => by have := HX.out; rw [e, HY.out] at this; injection this with this; injection this with _ this; exact h2 this.symm
            rw [hne]
            exact ⟨rfl, hBl.drew⟩
        · go_wp2
          go_region
          go_wp2
          go_ret
          have hne : decide (ps = qs) = false := decide_eq_false fun e => by have := HX.out; rw [e, HY.out] at this; injection this with this; injection this with this _; exact h1 this.symm
          rw [hne]
          exact ⟨rfl, hBl.drew⟩
      · obtain rfl : j = qs.length := by omega
        go_wp2
        go_ret
        rw [List.take_of_length_le (Nat.le_of_eq HN.out), List.take_of_length_le (Nat.le_refl _)] at heq
        rw [decide_eq_true heq]
        exact ⟨rfl, hBl⟩
  · have : decide (ps = qs) = false := by simp; rintro rfl; exact hn rfl
    rw [this]
    clear this
    have hn1 : (ps.length : Int) ≠ (qs.length : Int) := by omega
    go_enter Try.func27, Try.ntmps27
    go_wp2
    go_ret
    exact ⟨rfl, Below.refl _ _⟩

/-! ### The reference's scopes -/
structure Rf where
  l : List Ob
  lv : Int
  mods : List (List Ob)
def RfR (F : List Nat) (w : World) (v : Value) (r : Rf) : Prop := ∃ lv mv, v = .agg #[lv, .int .i64 r.lv, mv] ∧ ObR F w lv r.l ∧ ObsR F w mv r.mods
theorem RfR.keep {F F' : List Nat} {w w' : World} {v : Value} {r : Rf} (h : RfR F w v r) (hf : Fr F w F' w') : RfR F' w' v r := by
  obtain ⟨lv, mv, rfl, h1, h2⟩ := h
  exact ⟨lv, mv, rfl, h1.keep hf, h2.keep hf⟩

theorem ob_at {F : List Nat} {w : World} {v : Value} {xs : List Ob} (h : ObR F w v xs) : ∃ A c, v = .slice A xs.length c ∧ xs.length ≤ c ∧ xs.length ≤ 4194304 ∧ ∀ i x, xs[i]? = some x → ∃ b o, A = some ⟨b, o, none⟩ ∧ Good F w b ∧ Ob7 w b (o + i * 8) x ∧ ∃ pv, w.cell? ⟨b, o + i * 8 + 7, none⟩ = some pv ∧ PsR F w pv x.ps := by
  obtain ⟨hl, A, c, rfl, hc, hx⟩ := h
  refine ⟨A, c, rfl, hc, hl, fun i x hi => ?_⟩
  obtain ⟨b, o, rfl, hg, hx⟩ := hx (by rintro rfl; simp at hi)
  exact ⟨b, o, rfl, hg, hx i x hi⟩
def hit (lv : Int) (s : ByteArray) (x : Ob) : Bool := decide (x.lv = lv) && (x.nm.toList == s.toList)
def atI (l : List Ob) (lv : Int) (s : ByteArray) : Option Nat := l.findIdx? (hit lv s)
def atZ (l : List Ob) (lv : Int) (s : ByteArray) : Int := match atI l lv s with | some i => i | none => -1
theorem atI_none {l : List Ob} {lv : Int} {s : ByteArray} (h : ∀ (i : Nat) (a : Ob), l[i]? = some a → hit lv s a = false) : atZ l lv s = -1 := by
  unfold atZ atI
  rw [List.findIdx?_eq_none_iff.2 fun x hx => by obtain ⟨i, hi⟩ := List.mem_iff_getElem?.1 hx; exact h i x hi]
theorem atI_some {l : List Ob} {lv : Int} {s : ByteArray} {k : Nat} {a : Ob} (hk : l[k]? = some a) (ha : hit lv s a = true) (h : ∀ (i : Nat) (b : Ob), i < k → l[i]? = some b → hit lv s b = false) : atZ l lv s = k := by
  unfold atZ atI
  obtain ⟨hl, rfl⟩ := List.getElem?_eq_some_iff.1 hk
  rw [List.findIdx?_eq_some_iff_getElem.2 ⟨hl, ha, fun j hj => by simp [h j _ hj (List.getElem?_eq_getElem (by omega))]⟩]

set_option maxHeartbeats 2000000 in
set_option maxRecDepth 100000 in
theorem f28_any {F : List Nat} {w : World} {v : Value} {r : Rf} (lv : Int) (s : ByteArray) (h : RfR F w v r) :
    Calls Try.prog 28 #[v, .int .i64 lv, .string s] w fun e w' => e = .returned (.int .i64 (atZ r.l lv s)) ∧ Below w.heap.size w w' := by
  obtain ⟨ov, mv, rfl, hl, hm⟩ := h
  obtain ⟨A, c, rfl, hc, hn, hA⟩ := ob_at hl
  have HA := Lib.hid hA
  clear hl hm hA
  obtain ⟨W, hW⟩ : ∃ W, W = w.alloc (.cells #[.slice A r.l.length c, .int .i64 r.lv, mv] 31) := ⟨_, rfl⟩
  have hBW : Below w.heap.size w W := by rw [hW]; exact (Below.refl _ _).alloc (Nat.le_refl _) _
  have hWx : W.heap[w.heap.size]? = some (.cells #[.slice A r.l.length c, .int .i64 r.lv, mv] 31 (0, 0)) := by rw [hW]; exact heap_alloc_new w _
  have hWl := (Array.getElem?_eq_some_iff.1 hWx).1
  have HW := Lib.hid hW
  have c0 : W.cell? ⟨w.heap.size, 0, none⟩ = some (.slice A r.l.length c) := cell_of_row W w.heap.size 0 _ 31 (0, 0) hWx
  clear hW hWx
  go_enter Try.func28, Try.ntmps28
  go_wp2_with fail
  rw [← HW.out]
  go_loopw [7] (fun i wr => ∃ j : Nat, j ≤ r.l.length ∧ i = .int .i64 j ∧ Below W.heap.size W wr ∧ ∀ (i : Nat) (b : Ob), i < j → r.l[i]? = some b → hit lv s b = false) (fun i _ => r.l.length - (intOf i).toNat)
  case atStart => exact ⟨0, Nat.zero_le _, rfl, Below.refl _ _, fun i b hi => by omega⟩
  case round =>
    obtain ⟨j, hj, rfl, hBl, hno⟩ := hrel
    have d0 := (hBl.cell (p := ⟨w.heap.size, 0, none⟩) hWl).trans c0
    have hs := hBl.size
    by_cases hlt : j < r.l.length
    · obtain ⟨x, hx⟩ : ∃ x, r.l[j]? = some x := ⟨_, List.getElem?_eq_getElem hlt⟩
      obtain ⟨b, o, rfl, hbl, ⟨q0, q1, q2, q3, q4, q5, q6⟩, _⟩ := HA.out j x hx
      have hbl1 := hbl.1
      have hbl2 := Nat.lt_of_lt_of_le hbl.1 hBW.size
      have r0 := ((hBl.cell (p := ⟨b, o + j * 8, none⟩) hbl2).trans (hBW.cell (p := ⟨b, o + j * 8, none⟩) hbl1)).trans q0
      have r3 := ((hBl.cell (p := ⟨b, o + j * 8 + 3, none⟩) hbl2).trans (hBW.cell (p := ⟨b, o + j * 8 + 3, none⟩) hbl1)).trans q3
      have HX := Lib.hid hx
      have HN := Lib.hid hno
      clear hbl q0 q1 q2 q3 q4 q5 q6 hx hno
      have hnext : hit lv s x = false → ∀ (i : Nat) (b : Ob), i < j + 1 → r.l[i]? = some b → hit lv s b = false := fun hh i b hi hib => by
        rcases Nat.lt_succ_iff_lt_or_eq.1 hi with h | rfl
        · exact HN.out i b h hib
        · rw [HX.out] at hib; injection hib with hib; exact hib ▸ hh
      have HNX := Lib.hid hnext
      clear hnext
      by_cases h3 : x.lv = lv
      · cases h0 : x.nm.toList == s.toList with
        | true =>
          have hh : hit lv s x = true := by unfold hit; rw [h0, decide_eq_true h3]; rfl
          have HH := Lib.hid hh
          clear hh
          go_wp2
          go_ret
          rw [atI_some HX.out HH.out HN.out]
          exact ⟨rfl, (hBW.trans (hBl.mono hBW.size) : Below w.heap.size w _)⟩
        | false =>
          have hh : hit lv s x = false := by unfold hit; rw [h0, decide_eq_true h3]; rfl
          have HH := Lib.hid hh
          clear hh
          go_wp2
          go_roundw
          case rel => exact ⟨j + 1, by omega, by go_num, hBl, HNX.out HH.out⟩
          case measure => simp [intOf]; omega
      · have hh : hit lv s x = false := by unfold hit; rw [decide_eq_false h3]; rfl
        have HH := Lib.hid hh
        clear hh
        go_wp2
        go_roundw
        case rel => exact ⟨j + 1, by omega, by go_num, hBl, HNX.out HH.out⟩
        case measure => simp [intOf]; omega
    · obtain rfl : j = r.l.length := by omega
      go_wp2
      go_ret
      rw [atI_none fun i a hi => hno i a (List.getElem?_eq_some_iff.1 hi).1 hi]
      exact ⟨rfl, (hBW.trans (hBl.mono hBW.size) : Below w.heap.size w _)⟩
end Go.Proofs.Ytengenceelmijaa
