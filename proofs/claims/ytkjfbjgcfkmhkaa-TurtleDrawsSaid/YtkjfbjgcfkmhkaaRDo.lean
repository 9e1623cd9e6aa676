import Derived.Test.YtkjfbjgcfkmhkaaRef
namespace Go.Proofs.Ytkjfbjgcfkmhkaa
open Go.RowKit
set_option linter.unusedVariables false
set_option linter.unusedSimpArgs false

theorem below2 (w : World) (o1 o2 : Obj) : Below w.heap.size w ((w.alloc o1).alloc o2) := ((Below.refl _ w).alloc (Nat.le_refl _) o1).alloc (by simp) o2
theorem f11_bad0 {F : List Nat} {w : World} {s : St} {lv : Value} {what much : Int} (h : SkR F w lv s.l) (hc0 : what < 1) (hb1 : -2147483648 ≤ much) (hb2 : much ≤ 2147483647) :
    Calls Try.prog 11 #[refV s lv, .int .i32 what, .int .i32 much] w (RefPost F w (s, 110)) := by
  obtain ⟨A, c, rfl, hc, _, _⟩ := sk_at h
  have HR := Lib.hid h
  clear h
  unfold refV
  go_enter Try.func11, Try.ntmps11
  go_wp2_with fail
  exact bodyPost_ret (results_ref _ 6 7 Try.results11 _ _ _ _ _ _ _ _ _ _ _ rfl rfl (heap_alloc2_new w _ _)) rfl ⟨_, rfl, below2 _ _ _, HR.out.keep (Fr.of_below (below2 _ _ _))⟩
theorem f11_bad1 {F : List Nat} {w : World} {s : St} {lv : Value} {what much : Int} (h : SkR F w lv s.l) (hc0 : 5 < what) (hb1 : -2147483648 ≤ much) (hb2 : much ≤ 2147483647) :
    Calls Try.prog 11 #[refV s lv, .int .i32 what, .int .i32 much] w (RefPost F w (s, 110)) := by
  have hn1 : ¬ what < 1 := by omega
  obtain ⟨A, c, rfl, hc, _, _⟩ := sk_at h
  have HR := Lib.hid h
  clear h
  unfold refV
  go_enter Try.func11, Try.ntmps11
  go_wp2_with fail
  exact bodyPost_ret (results_ref _ 6 7 Try.results11 _ _ _ _ _ _ _ _ _ _ _ rfl rfl (heap_alloc2_new w _ _)) rfl ⟨_, rfl, below2 _ _ _, HR.out.keep (Fr.of_below (below2 _ _ _))⟩
theorem f11_far0 {F : List Nat} {w : World} {s : St} {lv : Value} {what much : Int} (h : SkR F w lv s.l) (hc0 : much < -1000000) (hw1 : 1 ≤ what) (hw2 : what ≤ 5) (hb1 : -2147483648 ≤ much) (hb2 : much ≤ 2147483647) :
    Calls Try.prog 11 #[refV s lv, .int .i32 what, .int .i32 much] w (RefPost F w (s, 90)) := by
  have hn1 : ¬ what < 1 := by omega
  have hn2 : ¬ 5 < what := by omega
  obtain ⟨A, c, rfl, hc, _, _⟩ := sk_at h
  have HR := Lib.hid h
  clear h
  unfold refV
  go_enter Try.func11, Try.ntmps11
  go_wp2_with fail
  exact bodyPost_ret (results_ref _ 6 7 Try.results11 _ _ _ _ _ _ _ _ _ _ _ rfl rfl (heap_alloc2_new w _ _)) rfl ⟨_, rfl, below2 _ _ _, HR.out.keep (Fr.of_below (below2 _ _ _))⟩
theorem f11_far1 {F : List Nat} {w : World} {s : St} {lv : Value} {what much : Int} (h : SkR F w lv s.l) (hc0 : 1000000 < much) (hw1 : 1 ≤ what) (hw2 : what ≤ 5) (hb1 : -2147483648 ≤ much) (hb2 : much ≤ 2147483647) :
    Calls Try.prog 11 #[refV s lv, .int .i32 what, .int .i32 much] w (RefPost F w (s, 90)) := by
  have hn1 : ¬ what < 1 := by omega
  have hn2 : ¬ 5 < what := by omega
  have hn3 : ¬ much < -1000000 := by omega
  obtain ⟨A, c, rfl, hc, _, _⟩ := sk_at h
  have HR := Lib.hid h
  clear h
  unfold refV
  go_enter Try.func11, Try.ntmps11
  go_wp2_with fail
  exact bodyPost_ret (results_ref _ 6 7 Try.results11 _ _ _ _ _ _ _ _ _ _ _ rfl rfl (heap_alloc2_new w _ _)) rfl ⟨_, rfl, below2 _ _ _, HR.out.keep (Fr.of_below (below2 _ _ _))⟩
theorem f11_scale {F : List Nat} {w : World} {s : St} {lv : Value} {much : Int} (h : SkR F w lv s.l) (h0 : -1000000 ≤ much) (h1 : much ≤ 1000000) :
    Calls Try.prog 11 #[refV s lv, .int .i32 5, .int .i32 much] w (RefPost F w ({ s with step := much }, 0)) := by
  obtain ⟨A, c, rfl, hc, _, _⟩ := sk_at h
  have HR := Lib.hid h
  clear h
  unfold refV
  go_enter Try.func11, Try.ntmps11
  go_wp2_with fail
  exact bodyPost_ret (results_ref _ 6 7 Try.results11 _ _ _ _ _ _ _ _ _ _ _ rfl rfl (heap_alloc2_new w _ _)) rfl ⟨_, rfl, below2 _ _ _, HR.out.keep (Fr.of_below (below2 _ _ _))⟩
theorem f11_pen_false {F : List Nat} {w : World} {s : St} {lv : Value} {much : Int} (h : SkR F w lv s.l) (h0 : -1000000 ≤ much) (h1 : much ≤ 1000000) (hz : much = 0) :
    Calls Try.prog 11 #[refV s lv, .int .i32 3, .int .i32 much] w (RefPost F w ({ s with down := false }, 0)) := by
  subst hz
  obtain ⟨A, c, rfl, hc, _, _⟩ := sk_at h
  have HR := Lib.hid h
  clear h
  unfold refV
  go_enter Try.func11, Try.ntmps11
  go_wp2_with fail
  exact bodyPost_ret (results_ref _ 6 7 Try.results11 _ _ _ _ _ _ _ _ _ _ _ rfl rfl (heap_alloc2_new w _ _)) rfl ⟨_, rfl, below2 _ _ _, HR.out.keep (Fr.of_below (below2 _ _ _))⟩
theorem f11_pen_true {F : List Nat} {w : World} {s : St} {lv : Value} {much : Int} (h : SkR F w lv s.l) (h0 : -1000000 ≤ much) (h1 : much ≤ 1000000) (hz : much ≠ 0) :
    Calls Try.prog 11 #[refV s lv, .int .i32 3, .int .i32 much] w (RefPost F w ({ s with down := true }, 0)) := by
  have hz2 : (much != 0) = true := by simpa using hz
  have hz3 : (much == 0) = false := by simpa using hz
  clear hz
  obtain ⟨A, c, rfl, hc, _, _⟩ := sk_at h
  have HR := Lib.hid h
  clear h
  unfold refV
  go_enter Try.func11, Try.ntmps11
  go_wp2_with fail
  exact bodyPost_ret (results_ref _ 6 7 Try.results11 _ _ _ _ _ _ _ _ _ _ _ rfl rfl (heap_alloc2_new w _ _)) rfl ⟨_, rfl, below2 _ _ _, HR.out.keep (Fr.of_below (below2 _ _ _))⟩

theorem block7_fr {F : List Nat} {w w' : World} {g : Nat} (hg : g ∈ F) (v0 v1 v2 v3 v4 v5 v6 : Value)
    (hw : w' = ((((((w.setCell ⟨g, 0, none⟩ v0).setCell ⟨g, 1, none⟩ v1).setCell ⟨g, 2, none⟩ v2).setCell ⟨g, 3, none⟩ v3).setCell ⟨g, 4, none⟩ v4).setCell ⟨g, 5, none⟩ v5).setCell ⟨g, 6, none⟩ v6) : Fr F w F w' := by
  subst hw
  have hB := (((((((Below.refl 0 w).setCell (p := ⟨g, 0, none⟩) (Nat.zero_le _) v0).setCell (p := ⟨g, 1, none⟩) (Nat.zero_le _) v1).setCell (p := ⟨g, 2, none⟩) (Nat.zero_le _) v2).setCell (p := ⟨g, 3, none⟩) (Nat.zero_le _) v3).setCell (p := ⟨g, 4, none⟩) (Nat.zero_le _) v4).setCell (p := ⟨g, 5, none⟩) (Nat.zero_le _) v5).setCell (p := ⟨g, 6, none⟩) (Nat.zero_le _) v6
  refine ⟨hB.os, hB.tape, hB.output, hB.size, fun b hb hn => ?_, fun b hb => .inl hb⟩
  have hne : b ≠ g := fun e => hn (e ▸ hg)
  iterate 7 (refine (Below.heap_setCell _ _ _ _ (by exact hne)).trans ?_)
  rfl
theorem SkR.weak {F F' : List Nat} {w : World} {v : Value} {l : List Sk} (h : SkR F w v l) (hF : ∀ b ∈ F', b ∈ F) : SkR F' w v l :=
  Sl.imp h (fun b hb => ⟨hb.1, fun hm => hb.2 (hF b hm)⟩) fun _ _ _ _ he => he
theorem own2_fr {F : List Nat} {w : World} (o1 o2 : Obj) : Fr F w (w.heap.size :: (w.heap.size + 1) :: F) ((w.alloc o1).alloc o2) := Fr.more (below2 w o1 o2) fun b hb => by
  simp at hb
  rcases hb with h | h | h
  · exact .inr (by omega)
  · exact .inr (by omega)
  · exact .inl h
theorem own2_lt {F : List Nat} {w : World} (hF : ∀ b ∈ F, b < w.heap.size) (o1 o2 : Obj) : ∀ b ∈ w.heap.size :: (w.heap.size + 1) :: F, b < ((w.alloc o1).alloc o2).heap.size := fun b hb => by
  simp at hb ⊢
  rcases hb with h | h | h
  · omega
  · omega
  · have := hF b h; omega
theorem prod_bd {s : St} {m : Int} (h : Bd s) (h0 : -1000000 ≤ m) (h1 : m ≤ 1000000) :
    (-1000000 ≤ s.dx * m ∧ s.dx * m ≤ 1000000) ∧ (-1000000 ≤ s.dy * m ∧ s.dy * m ≤ 1000000) ∧ (-1000000000000 ≤ s.dx * m * s.step ∧ s.dx * m * s.step ≤ 1000000000000) ∧ (-1000000000000 ≤ s.dy * m * s.step ∧ s.dy * m * s.step ≤ 1000000000000) := by
  have a1 : -1000000 ≤ s.dx * m ∧ s.dx * m ≤ 1000000 := by rcases h.look with h | h | h | h <;> rw [h.1] <;> omega
  have a2 : -1000000 ≤ s.dy * m ∧ s.dy * m ≤ 1000000 := by rcases h.look with h | h | h | h <;> rw [h.2] <;> omega
  have h2 := h.step
  have p : ∀ x : Int, -1000000 ≤ x → x ≤ 1000000 → -1000000000000 ≤ x * s.step ∧ x * s.step ≤ 1000000000000 := fun x hx0 hx1 => by
    have a1 : (x * s.step).natAbs ≤ 1000000 * 1000000 := by rw [Int.natAbs_mul]; exact Nat.mul_le_mul (by omega) (by omega)
    omega
  exact ⟨a1, a2, p _ a1.1 a1.2, p _ a2.1 a2.2⟩
set_option maxHeartbeats 1000000 in
theorem f11_go {F : List Nat} {w : World} {s : St} {lv : Value} {much : Int} (h : SkR F w lv s.l) (hF : ∀ b ∈ F, b < w.heap.size) (hl : s.l.length ≤ 1000000) (hbd : Bd s) (h0 : -1000000 ≤ much) (h1 : much ≤ 1000000) :
    Calls Try.prog 11 #[refV s lv, .int .i32 1, .int .i32 much] w (RefPost F w (moveT s (s.x + s.dx * much * s.step) (s.y + s.dy * much * s.step))) := by
  obtain ⟨A, c, rfl, hc, _, _⟩ := sk_at h
  obtain ⟨⟨p1, p2⟩, ⟨p3, p4⟩, ⟨p5, p6⟩, p7, p8⟩ := prod_bd hbd h0 h1
  obtain ⟨b1, b2⟩ := hbd.x
  obtain ⟨b3, b4⟩ := hbd.y
  obtain ⟨b5, b6⟩ := hbd.step
  have HC := Lib.hid fun o1 o2 => f26_any (x := s.x + s.dx * much * s.step) (y := s.y + s.dy * much * s.step) (h.keep (own2_fr o1 o2)) (own2_lt hF o1 o2) hl
  clear h hF hbd
  unfold refV at HC ⊢
  go_enter Try.func11, Try.ntmps11
  go_wp2_with fail
  refine (HC.out _ _).mono ?_
  rintro e w1 ⟨lv1, rfl, hB, hsk⟩
  obtain ⟨q, hq⟩ : ∃ q : St × Int, q = moveT s (s.x + s.dx * much * s.step) (s.y + s.dy * much * s.step) := ⟨_, rfl⟩
  rw [← hq] at hsk ⊢
  have HQ := Lib.hid hq
  clear hq
  obtain ⟨A1, c1, rfl, _, _, _⟩ := sk_at hsk
  unfold refV
  have hz := (hB.block (w.heap.size + 1) (by simp)).trans (heap_alloc2_new w _ _)
  have hl1 : w.heap.size + 1 < w1.heap.size := (Array.getElem?_eq_some_iff.1 hz).1
  obtain ⟨⟨y0, y1, y2, y3, y4, y5, y6⟩, yf⟩ := cells7 hz
  have yf0 := yf 0
  have yf1 := yf 1
  have yf2 := yf 2
  have yf3 := yf 3
  have yf4 := yf 4
  have yf5 := yf 5
  have yf6 := yf 6
  have HZ := Lib.hid hz
  have HB := Lib.hid ((below2 w _ _).trans (hB.mono (below2 w _ _).size))
  have HS := Lib.hid hsk
  clear yf hz hsk hB
  go_wp2_with fail
  obtain ⟨W', hW'⟩ : ∃ W', W' = (((((((w1.setCell ⟨w.heap.size + 1, 0, none⟩ (.int .i64 q.1.x)).setCell ⟨w.heap.size + 1, 1, none⟩ (.int .i64 q.1.y)).setCell ⟨w.heap.size + 1, 2, none⟩ (.int .i64 q.1.dx)).setCell ⟨w.heap.size + 1, 3, none⟩ (.int .i64 q.1.dy)).setCell ⟨w.heap.size + 1, 4, none⟩ (.int .i64 q.1.step)).setCell ⟨w.heap.size + 1, 5, none⟩ (.bool q.1.down)).setCell ⟨w.heap.size + 1, 6, none⟩ (.slice A1 q.1.l.length c1)) := ⟨_, rfl⟩
  rw [← hW']
  obtain ⟨k1, k2⟩ := block7 HZ.out _ _ _ _ _ _ _ hW'
  have k3 := k2 (w.heap.size + 1) (Nat.le_refl _)
  have kB : Below w.heap.size w W' := HB.out.trans (k2 _ (by omega))
  refine bodyPost_ret (results_ref _ 6 7 Try.results11 _ _ _ _ _ _ _ _ _ _ _ rfl rfl k1) rfl ?_
  rw [← HQ.out]
  exact ⟨_, rfl, kB, (HS.out.keep (block7_fr (by simp) _ _ _ _ _ _ _ hW')).weak fun b hb => by simp [hb]⟩
set_option maxHeartbeats 1000000 in
theorem f11_home {F : List Nat} {w : World} {s : St} {lv : Value} {much : Int} (h : SkR F w lv s.l) (hF : ∀ b ∈ F, b < w.heap.size) (hl : s.l.length ≤ 1000000) (h0 : -1000000 ≤ much) (h1 : much ≤ 1000000) :
    Calls Try.prog 11 #[refV s lv, .int .i32 4, .int .i32 much] w (RefPost F w ({ (moveT s 0 0).1 with dx := 1, dy := 0 }, 0)) := by
  obtain ⟨A, c, rfl, hc, _, _⟩ := sk_at h
  have HC := Lib.hid fun o1 o2 => f26_any (x := 0) (y := 0) (h.keep (own2_fr o1 o2)) (own2_lt hF o1 o2) hl
  clear h hF
  have hq2 := home_ok s
  unfold refV at HC ⊢
  go_enter Try.func11, Try.ntmps11
  go_wp2_with fail
  refine (HC.out _ _).mono ?_
  rintro e w1 ⟨lv1, rfl, hB, hsk⟩
  obtain ⟨q, hq⟩ : ∃ q : St × Int, q = moveT s 0 0 := ⟨_, rfl⟩
  rw [← hq] at hsk ⊢
  rw [← hq] at hq2
  have HQ := Lib.hid hq
  clear hq
  obtain ⟨A1, c1, rfl, _, _, _⟩ := sk_at hsk
  unfold refV
  rw [hq2]
  have hz := (hB.block (w.heap.size + 1) (by simp)).trans (heap_alloc2_new w _ _)
  have hl1 : w.heap.size + 1 < w1.heap.size := (Array.getElem?_eq_some_iff.1 hz).1
  obtain ⟨⟨y0, y1, y2, y3, y4, y5, y6⟩, yf⟩ := cells7 hz
  have yf0 := yf 0
  have yf1 := yf 1
  have yf2 := yf 2
  have yf3 := yf 3
  have yf4 := yf 4
  have yf5 := yf 5
  have yf6 := yf 6
  have HZ := Lib.hid hz
  have HB := Lib.hid ((below2 w _ _).trans (hB.mono (below2 w _ _).size))
  have HS := Lib.hid hsk
  clear yf hz hsk hB
  go_wp2_with fail
  obtain ⟨W', hW'⟩ : ∃ W', W' = (((((((w1.setCell ⟨w.heap.size + 1, 0, none⟩ (.int .i64 q.1.x)).setCell ⟨w.heap.size + 1, 1, none⟩ (.int .i64 q.1.y)).setCell ⟨w.heap.size + 1, 2, none⟩ (.int .i64 1)).setCell ⟨w.heap.size + 1, 3, none⟩ (.int .i64 0)).setCell ⟨w.heap.size + 1, 4, none⟩ (.int .i64 q.1.step)).setCell ⟨w.heap.size + 1, 5, none⟩ (.bool q.1.down)).setCell ⟨w.heap.size + 1, 6, none⟩ (.slice A1 q.1.l.length c1)) := ⟨_, rfl⟩
  rw [← hW']
  obtain ⟨k1, k2⟩ := block7 HZ.out _ _ _ _ _ _ _ hW'
  have kl : w.heap.size + 1 < W'.heap.size := (Array.getElem?_eq_some_iff.1 k1).1
  have k3 := (Below.heap_alloc W' (.cells #[.int .i64 q.1.x, .int .i64 q.1.y, .int .i64 1, .int .i64 0, .int .i64 q.1.step, .bool q.1.down, .slice A1 q.1.l.length c1] 28) _ kl).trans k1
  have kA : Below W'.heap.size W' (W'.alloc (.cells #[.int .i64 q.1.x, .int .i64 q.1.y, .int .i64 1, .int .i64 0, .int .i64 q.1.step, .bool q.1.down, .slice A1 q.1.l.length c1] 28)) := (Below.refl _ _).alloc (Nat.le_refl _) _
  have kB : Below w.heap.size w W' := HB.out.trans (k2 _ (by omega))
  refine bodyPost_ret (results_ref _ 6 7 Try.results11 _ _ _ _ _ _ _ _ _ _ _ rfl rfl k3) rfl ?_
  rw [← HQ.out]
  exact ⟨_, rfl, kB.trans (kA.mono kB.size), ((HS.out.keep (block7_fr (by simp) _ _ _ _ _ _ _ hW')).keep (Fr.of_below kA)).weak fun b hb => by simp [hb]⟩
theorem turnN_same (s : St) : ∀ j, (turnN s j).x = s.x ∧ (turnN s j).y = s.y ∧ (turnN s j).step = s.step ∧ (turnN s j).down = s.down ∧ (turnN s j).l = s.l
  | 0 => ⟨rfl, rfl, rfl, rfl, rfl⟩
  | j + 1 => turnN_same s j
set_option maxHeartbeats 1000000 in
theorem f11_turn {F : List Nat} {w : World} {s : St} {lv : Value} {much : Int} (h : SkR F w lv s.l) (hbd : Bd s) (h0 : -1000000 ≤ much) (h1 : much ≤ 1000000) :
    Calls Try.prog 11 #[refV s lv, .int .i32 2, .int .i32 much] w (RefPost F w (turnN s (much % 4).toNat, 0)) := by
  obtain ⟨A, c, rfl, hc, _, _⟩ := sk_at h
  have HR := Lib.hid h
  have HBD := Lib.hid hbd
  clear h hbd
  obtain ⟨k, hk⟩ : ∃ k : Nat, (k : Int) = much % 4 := ⟨(much % 4).toNat, by omega⟩
  have hkn : (much % 4).toNat = k := by omega
  rw [hkn]
  have hk4 : k < 4 := by omega
  unfold refV
  have hstart : ∀ W, W = ((w.alloc (.cells #[.int .i64 s.x, .int .i64 s.y, .int .i64 s.dx, .int .i64 s.dy, .int .i64 s.step, .bool s.down, .slice A s.l.length c] 28)).alloc (.cells #[.int .i64 0, .int .i64 0, .int .i64 0, .int .i64 0, .int .i64 0, .bool false, .slice none 0 0] 28)) →
      Below w.heap.size w W ∧ W.heap[w.heap.size]? = some (.cells #[.int .i64 s.x, .int .i64 s.y, .int .i64 s.dx, .int .i64 s.dy, .int .i64 s.step, .bool s.down, .slice A s.l.length c] 28 (0, 0)) ∧ W.heap[w.heap.size + 1]? = some (.cells #[.int .i64 0, .int .i64 0, .int .i64 0, .int .i64 0, .int .i64 0, .bool false, .slice none 0 0] 28 (0, 0)) := fun W hW => by
    subst hW
    exact ⟨below2 _ _ _, heap_alloc2_old w _ _, heap_alloc2_new w _ _⟩
  have HST := Lib.hid hstart
  clear hstart
  rcases Int.lt_or_le much 0 with hneg | hpos
  · obtain ⟨n, rfl⟩ : ∃ n : Nat, much = -(n : Int) := ⟨(-much).toNat, by omega⟩
    have e1 : (-((n : Int) % 4) + 4) % 4 = (k : Int) := by omega
    have b1 : (0 : Int) ≤ (n : Int) % 4 := by omega
    have b2 : (n : Int) % 4 < 4 := by omega
    have b3 : (0 : Int) ≤ -((n : Int) % 4) + 4 := by omega
    clear hk hkn
    go_enter Try.func11, Try.ntmps11
    go_wp2_with fail
    obtain ⟨W, hW⟩ : ∃ W, W = ((w.alloc (.cells #[.int .i64 s.x, .int .i64 s.y, .int .i64 s.dx, .int .i64 s.dy, .int .i64 s.step, .bool s.down, .slice A s.l.length c] 28)).alloc (.cells #[.int .i64 0, .int .i64 0, .int .i64 0, .int .i64 0, .int .i64 0, .bool false, .slice none 0 0] 28)) := ⟨_, rfl⟩
    rw [← hW]
    have HW := Lib.hid (HST.out W hW)
    clear hW
    go_loopw [9] (fun i wr => ∃ j : Nat, j ≤ k ∧ i = .int .i64 j ∧ Hid (Below w.heap.size w wr ∧ wr.heap[w.heap.size]? = some (.cells #[.int .i64 (turnN s j).x, .int .i64 (turnN s j).y, .int .i64 (turnN s j).dx, .int .i64 (turnN s j).dy, .int .i64 (turnN s j).step, .bool (turnN s j).down, .slice A (turnN s j).l.length c] 28 (0, 0)) ∧ wr.heap[w.heap.size + 1]? = some (.cells #[.int .i64 0, .int .i64 0, .int .i64 0, .int .i64 0, .int .i64 0, .bool false, .slice none 0 0] 28 (0, 0)))) (fun i _ => k - (intOf i).toNat)
    case atStart => exact ⟨0, Nat.zero_le _, rfl, HW⟩
    case round =>
      obtain ⟨j, hj, rfl, hR⟩ := hrel
      obtain ⟨⟨x0, x1, x2, x3, x4, x5, x6⟩, xf⟩ := cells7 hR.out.2.1
      obtain ⟨⟨y0, y1, y2, y3, y4, y5, y6⟩, yf⟩ := cells7 hR.out.2.2
      have hwl : w.heap.size < wr.heap.size := (Array.getElem?_eq_some_iff.1 hR.out.2.1).1
      have hwl1 : w.heap.size + 1 < wr.heap.size := (Array.getElem?_eq_some_iff.1 hR.out.2.2).1
      by_cases hlt : j < k
      · have hlk := (HBD.out.turnN j).look
        have c1 : -1 ≤ (turnN s j).dy := by omega
        have c2 : (turnN s j).dy ≤ 1 := by omega
        have xf2 := xf 2
        have xf3 := xf 3
        clear hlk xf yf y0 y1 y2 y3 y4 y5 y6 x0 x1 x4 x5 x6
        go_wp2
        go_roundw
        case rel =>
          refine ⟨j + 1, by omega, by go_num, Lib.hid ⟨(hR.out.1.setCell (p := ⟨w.heap.size, 2, none⟩) (Nat.le_refl _) _).setCell (p := ⟨w.heap.size, 3, none⟩) (Nat.le_refl _) _, ?_, ?_⟩⟩
          · have q1 := heap_setCell_same wr w.heap.size 2 _ 28 (.int .i64 (-(turnN s j).dy)) hR.out.2.1
            have q2 := heap_setCell_same _ w.heap.size 3 _ 28 (.int .i64 (turnN s j).dx) q1
            have q3 : ((wr.setCell ⟨w.heap.size, 2, none⟩ (.int .i64 (-(turnN s j).dy))).setCell ⟨w.heap.size, 3, none⟩ (.int .i64 (turnN s j).dx)).heap[w.heap.size]? = some (.cells #[.int .i64 (turnN s j).x, .int .i64 (turnN s j).y, .int .i64 (-(turnN s j).dy), .int .i64 (turnN s j).dx, .int .i64 (turnN s j).step, .bool (turnN s j).down, .slice A (turnN s j).l.length c] 28 (0, 0)) := by simpa using q2
            exact q3
          · exact (Below.heap_setCell _ _ _ _ (by show w.heap.size + 1 ≠ w.heap.size; omega)).trans ((Below.heap_setCell _ _ _ _ (by show w.heap.size + 1 ≠ w.heap.size; omega)).trans hR.out.2.2)
        case measure => simp [intOf]; omega
      · obtain rfl : j = k := by omega
        have yf0 := yf 0
        have yf1 := yf 1
        have yf2 := yf 2
        have yf3 := yf 3
        have yf4 := yf 4
        have yf5 := yf 5
        have yf6 := yf 6
        clear xf yf
        go_wp2_with fail
        obtain ⟨W', hW'⟩ : ∃ W', W' = (((((((wr.setCell ⟨w.heap.size + 1, 0, none⟩ (.int .i64 (turnN s j).x)).setCell ⟨w.heap.size + 1, 1, none⟩ (.int .i64 (turnN s j).y)).setCell ⟨w.heap.size + 1, 2, none⟩ (.int .i64 (turnN s j).dx)).setCell ⟨w.heap.size + 1, 3, none⟩ (.int .i64 (turnN s j).dy)).setCell ⟨w.heap.size + 1, 4, none⟩ (.int .i64 (turnN s j).step)).setCell ⟨w.heap.size + 1, 5, none⟩ (.bool (turnN s j).down)).setCell ⟨w.heap.size + 1, 6, none⟩ (.slice A (turnN s j).l.length c)) := ⟨_, rfl⟩
        rw [← hW']
        obtain ⟨k1, k2⟩ := block7 hR.out.2.2 _ _ _ _ _ _ _ hW'
        have kB : Below w.heap.size w W' := hR.out.1.trans (k2 _ (by omega))
        refine bodyPost_ret (results_ref _ 6 7 Try.results11 _ _ _ _ _ _ _ _ _ _ _ rfl rfl k1) rfl ?_
        exact ⟨_, rfl, kB, by show SkR F W' (.slice A (turnN s j).l.length c) (turnN s j).l; rw [(turnN_same s j).2.2.2.2]; exact HR.out.keep (Fr.of_below kB)⟩
  · obtain ⟨n, rfl⟩ : ∃ n : Nat, much = (n : Int) := ⟨much.toNat, by omega⟩
    have e1 : ((n : Int) % 4 + 4) % 4 = (k : Int) := by omega
    have b1 : (0 : Int) ≤ (n : Int) % 4 := by omega
    have b2 : (n : Int) % 4 < 4 := by omega
    clear hk hkn
    go_enter Try.func11, Try.ntmps11
    go_wp2_with fail
    obtain ⟨W, hW⟩ : ∃ W, W = ((w.alloc (.cells #[.int .i64 s.x, .int .i64 s.y, .int .i64 s.dx, .int .i64 s.dy, .int .i64 s.step, .bool s.down, .slice A s.l.length c] 28)).alloc (.cells #[.int .i64 0, .int .i64 0, .int .i64 0, .int .i64 0, .int .i64 0, .bool false, .slice none 0 0] 28)) := ⟨_, rfl⟩
    rw [← hW]
    have HW := Lib.hid (HST.out W hW)
    clear hW
    go_loopw [9] (fun i wr => ∃ j : Nat, j ≤ k ∧ i = .int .i64 j ∧ Hid (Below w.heap.size w wr ∧ wr.heap[w.heap.size]? = some (.cells #[.int .i64 (turnN s j).x, .int .i64 (turnN s j).y, .int .i64 (turnN s j).dx, .int .i64 (turnN s j).dy, .int .i64 (turnN s j).step, .bool (turnN s j).down, .slice A (turnN s j).l.length c] 28 (0, 0)) ∧ wr.heap[w.heap.size + 1]? = some (.cells #[.int .i64 0, .int .i64 0, .int .i64 0, .int .i64 0, .int .i64 0, .bool false, .slice none 0 0] 28 (0, 0)))) (fun i _ => k - (intOf i).toNat)
    case atStart => exact ⟨0, Nat.zero_le _, rfl, HW⟩
    case round =>
      obtain ⟨j, hj, rfl, hR⟩ := hrel
      obtain ⟨⟨x0, x1, x2, x3, x4, x5, x6⟩, xf⟩ := cells7 hR.out.2.1
      obtain ⟨⟨y0, y1, y2, y3, y4, y5, y6⟩, yf⟩ := cells7 hR.out.2.2
      have hwl : w.heap.size < wr.heap.size := (Array.getElem?_eq_some_iff.1 hR.out.2.1).1
      have hwl1 : w.heap.size + 1 < wr.heap.size := (Array.getElem?_eq_some_iff.1 hR.out.2.2).1
      by_cases hlt : j < k
      · have hlk := (HBD.out.turnN j).look
        have c1 : -1 ≤ (turnN s j).dy := by omega
        have c2 : (turnN s j).dy ≤ 1 := by omega
        have xf2 := xf 2
        have xf3 := xf 3
        clear hlk xf yf y0 y1 y2 y3 y4 y5 y6 x0 x1 x4 x5 x6
        go_wp2
        go_roundw
        case rel =>
          refine ⟨j + 1, by omega, by go_num, Lib.hid ⟨(hR.out.1.setCell (p := ⟨w.heap.size, 2, none⟩) (Nat.le_refl _) _).setCell (p := ⟨w.heap.size, 3, none⟩) (Nat.le_refl _) _, ?_, ?_⟩⟩
          · have q1 := heap_setCell_same wr w.heap.size 2 _ 28 (.int .i64 (-(turnN s j).dy)) hR.out.2.1
            have q2 := heap_setCell_same _ w.heap.size 3 _ 28 (.int .i64 (turnN s j).dx) q1
            have q3 : ((wr.setCell ⟨w.heap.size, 2, none⟩ (.int .i64 (-(turnN s j).dy))).setCell ⟨w.heap.size, 3, none⟩ (.int .i64 (turnN s j).dx)).heap[w.heap.size]? = some (.cells #[.int .i64 (turnN s j).x, .int .i64 (turnN s j).y, .int .i64 (-(turnN s j).dy), .int .i64 (turnN s j).dx, .int .i64 (turnN s j).step, .bool (turnN s j).down, .slice A (turnN s j).l.length c] 28 (0, 0)) := by simpa using q2
            exact q3
          · exact (Below.heap_setCell _ _ _ _ (by show w.heap.size + 1 ≠ w.heap.size; omega)).trans ((Below.heap_setCell _ _ _ _ (by show w.heap.size + 1 ≠ w.heap.size; omega)).trans hR.out.2.2)
        case measure => simp [intOf]; omega
      · obtain rfl : j = k := by omega
        have yf0 := yf 0
        have yf1 := yf 1
        have yf2 := yf 2
        have yf3 := yf 3
        have yf4 := yf 4
        have yf5 := yf 5
        have yf6 := yf 6
        clear xf yf
        go_wp2_with fail
        obtain ⟨W', hW'⟩ : ∃ W', W' = (((((((wr.setCell ⟨w.heap.size + 1, 0, none⟩ (.int .i64 (turnN s j).x)).setCell ⟨w.heap.size + 1, 1, none⟩ (.int .i64 (turnN s j).y)).setCell ⟨w.heap.size + 1, 2, none⟩ (.int .i64 (turnN s j).dx)).setCell ⟨w.heap.size + 1, 3, none⟩ (.int .i64 (turnN s j).dy)).setCell ⟨w.heap.size + 1, 4, none⟩ (.int .i64 (turnN s j).step)).setCell ⟨w.heap.size + 1, 5, none⟩ (.bool (turnN s j).down)).setCell ⟨w.heap.size + 1, 6, none⟩ (.slice A (turnN s j).l.length c)) := ⟨_, rfl⟩
        rw [← hW']
        obtain ⟨k1, k2⟩ := block7 hR.out.2.2 _ _ _ _ _ _ _ hW'
        have kB : Below w.heap.size w W' := hR.out.1.trans (k2 _ (by omega))
        refine bodyPost_ret (results_ref _ 6 7 Try.results11 _ _ _ _ _ _ _ _ _ _ _ rfl rfl k1) rfl ?_
        exact ⟨_, rfl, kB, by show SkR F W' (.slice A (turnN s j).l.length c) (turnN s j).l; rw [(turnN_same s j).2.2.2.2]; exact HR.out.keep (Fr.of_below kB)⟩

theorem f11_any {F : List Nat} {w : World} {s : St} {lv : Value} {what much : Int} (h : SkR F w lv s.l) (hF : ∀ b ∈ F, b < w.heap.size) (hl : s.l.length ≤ 1000000) (hbd : Bd s) (hb1 : -2147483648 ≤ much) (hb2 : much ≤ 2147483647) :
    Calls Try.prog 11 #[refV s lv, .int .i32 what, .int .i32 much] w (RefPost F w (doT s what much)) := by
  unfold doT
  by_cases hw : what < 1 ∨ 5 < what
  · rw [if_pos hw]
    rcases hw with hw | hw
    · exact f11_bad0 h hw hb1 hb2
    · exact f11_bad1 h hw hb1 hb2
  rw [if_neg hw]
  by_cases hm : much < -1000000 ∨ 1000000 < much
  · rw [if_pos hm]
    rcases hm with hm | hm
    · exact f11_far0 h hm (by omega) (by omega) hb1 hb2
    · exact f11_far1 h hm (by omega) (by omega) hb1 hb2
  rw [if_neg hm]
  by_cases e1 : what = 1
  · subst e1
    rw [if_pos rfl]
    exact f11_go h hF hl hbd (by omega) (by omega)
  rw [if_neg e1]
  by_cases e2 : what = 2
  · subst e2
    rw [if_pos rfl]
    exact f11_turn h hbd (by omega) (by omega)
  rw [if_neg e2]
  by_cases e3 : what = 3
  · subst e3
    rw [if_pos rfl]
    by_cases hz : much = 0
    · rw [show decide (much ≠ 0) = false by simpa using hz]
      exact f11_pen_false h (by omega) (by omega) hz
    · rw [show decide (much ≠ 0) = true by simpa using hz]
      exact f11_pen_true h (by omega) (by omega) hz
  rw [if_neg e3]
  by_cases e4 : what = 4
  · subst e4
    rw [if_pos rfl]
    exact f11_home h hF hl (by omega) (by omega)
  rw [if_neg e4]
  obtain rfl : what = 5 := by omega
  exact f11_scale h (by omega) (by omega)
end Go.Proofs.Ytkjfbjgcfkmhkaa
