import Derived.Test.YtkjfbjgcfkmhkaaAwk
namespace Go.Proofs.Ytkjfbjgcfkmhkaa
open Go.RowKit
set_option linter.unusedVariables false
set_option linter.unusedSimpArgs false

theorem draw_len : ∀ (xs : List (Int × Int)) (s : St), (draw s xs).1.l.length ≤ s.l.length + xs.length
  | [], s => by simp [draw]
  | x :: xs, s => by
    have h1 := doT_len s x.1 x.2
    unfold draw
    split
    · simp; omega
    · have := draw_len xs (doT s x.1 x.2).1
      simp; omega
theorem draw_bd : ∀ {s : St}, Bd s → ∀ (xs : List (Int × Int)), Bd (draw s xs).1
  | s, h, [] => h
  | s, h, x :: xs => by
    unfold draw
    split
    · exact h.doT _ _
    · exact draw_bd (h.doT _ _) xs

set_option maxHeartbeats 2000000 in
theorem f4_any {w : World} {A : Option Addr} {n c : Nat} (h : n ≤ 200 → ∃ es : List (Int × Int), es.length = n ∧ EvR [] w (.slice A n c) es ∧ ∀ e ∈ es, -2147483648 ≤ e.2 ∧ e.2 ≤ 2147483647) :
    Calls Try.prog 4 #[.slice A n c] w fun e w' => e = .returned (.bool true) ∧ Below w.heap.size w w' := by
  by_cases hn : n ≤ 200
  · obtain ⟨es, hl, hE, hrg⟩ := h hn
    clear h
    obtain ⟨q, hq⟩ : ∃ q, q = draw st0 (prs (nums es)) := ⟨_, rfl⟩
    have hpl : (prs (nums es)).length ≤ 200 := by
      have := nums_len es es.length
      rw [List.take_length] at this
      unfold prs; rw [upto_length]; omega
    have hql : q.1.l.length ≤ 200 := by rw [hq]; exact Nat.le_trans (draw_len _ _) (by simp [st0]; exact hpl)
    have hqb : Bd q.1 := by rw [hq]; exact draw_bd Bd.st0 _
    have H14 : Hid (∀ w1, Below w.heap.size w w1 → Calls Try.prog 14 #[.slice A n c] w1 (DrawPost w1 q)) := Lib.hid (fun w1 hB => by rw [hq]; exact f14_any (hE.keep (F' := []) (Fr.of_below hB)) (by omega))
    have H15 : Hid (∀ w1, Below w.heap.size w w1 → Calls Try.prog 15 #[.slice A n c] w1 fun e w' => ∃ A' c', e = .returned (.tuple #[.agg #[.int .i64 q.1.x, .int .i64 q.1.y, .int .i64 q.1.dx, .int .i64 q.1.dy, .int .i64 q.1.step, .bool q.1.down, .slice A' q.1.l.length c'], .int .i64 q.2.1, .int .i64 q.2.2]) ∧ Below w1.heap.size w1 w' ∧ SkR [] w' (.slice A' q.1.l.length c') q.1.l) := Lib.hid (fun w1 hB => (f15_any (hE.keep (F' := []) (Fr.of_below hB)) (by omega) hrg).mono (by
      rintro e w' ⟨lv, rfl, hB, hsk⟩
      rw [← hq] at hsk ⊢
      obtain ⟨A', c', rfl, _⟩ := sk_at hsk
      exact ⟨A', c', rfl, hB, hsk⟩))
    have H8 := Lib.hid (f8_any w)
    have HQL := Lib.hid hql
    have HQB := Lib.hid hqb
    clear hE hrg hq hpl hl hql hqb
    go_enter Try.func4, Try.ntmps4
    go_wp2_with (first
      | (go_at_call 8; refine H8.out.mono ?_; rintro e w1 ⟨rfl, hB1⟩; have HB1 := Lib.hid hB1; clear hB1)
      | (go_at_call 14; refine (H14.out _ HB1.out).mono ?_; rintro e w2 ⟨p, F, rfl, hB2, hT2, _⟩; have HB2 := Lib.hid hB2; have HT2 := Lib.hid hT2; clear hB2 hT2)
      | (go_at_call 15; refine (H15.out _ (HB1.out.trans (HB2.out.mono HB1.out.size))).mono ?_; rintro e w3 ⟨A3, c3, rfl, hB3, hsk3⟩; have HB3 := Lib.hid hB3; have HSK3 := Lib.hid hsk3; clear hB3 hsk3))
    have h23 : Below w2.heap.size w2 w3 := HB3.out
    have hT3 := HT2.out.below h23
    have hBw3 : Below w.heap.size w w3 := (HB1.out.trans (HB2.out.mono HB1.out.size)).trans (h23.mono (Nat.le_trans HB1.out.size HB2.out.size))
    obtain ⟨w4, hw4⟩ : ∃ w4, w4 = w3.alloc (Obj.cells #[Value.int IntKind.i64 q.fst.x, Value.int IntKind.i64 q.fst.y, Value.int IntKind.i64 q.fst.dx, Value.int IntKind.i64 q.fst.dy, Value.int IntKind.i64 q.fst.step, Value.bool q.fst.down, Value.slice A3 q.fst.l.length c3] 28) := ⟨_, rfl⟩
    obtain ⟨g6, hg6⟩ : ∃ g6, g6 = w3.heap.size := ⟨_, rfl⟩
    have hB34 : Below w3.heap.size w3 w4 := by rw [hw4]; exact (Below.refl _ _).alloc (Nat.le_refl _) _
    have hz : w4.heap[g6]? = some (Obj.cells #[Value.int IntKind.i64 q.fst.x, Value.int IntKind.i64 q.fst.y, Value.int IntKind.i64 q.fst.dx, Value.int IntKind.i64 q.fst.dy, Value.int IntKind.i64 q.fst.step, Value.bool q.fst.down, Value.slice A3 q.fst.l.length c3] 28 (0, 0)) := by rw [hw4, hg6]; exact heap_alloc_new _ _
    have hg4 : g6 < w4.heap.size := by rw [hw4, hg6]; simp
    have hBw4 : Below w.heap.size w w4 := hBw3.trans (hB34.mono hBw3.size)
    have HT4 := Lib.hid (hT3.below hB34)
    have HSK4 := Lib.hid (HSK3.out.keep (Fr.of_below hB34))
    rw [← hw4, ← hg6]
    clear hw4 hg6 hB34 hT3 h23 HSK3 HB3 HT2 HB2 HB1 H14 H15 H8
    have HS : Hid (∀ w', Below w4.heap.size w4 w' → w'.heap[g6]? = some (Obj.cells #[Value.int IntKind.i64 q.fst.x, Value.int IntKind.i64 q.fst.y, Value.int IntKind.i64 q.fst.dx, Value.int IntKind.i64 q.fst.dy, Value.int IntKind.i64 q.fst.step, Value.bool q.fst.down, Value.slice A3 q.fst.l.length c3] 28 (0, 0))) := Lib.hid (fun w' h => (h.block g6 hg4).trans hz)
    have H13 : Hid (Calls Try.prog 13 #[.pointer (some ⟨p, 0, none⟩), .agg #[Value.int IntKind.i64 q.fst.x, Value.int IntKind.i64 q.fst.y, Value.int IntKind.i64 q.fst.dx, Value.int IntKind.i64 q.fst.dy, Value.int IntKind.i64 q.fst.step, Value.bool q.fst.down, Value.slice A3 q.fst.l.length c3]] w4.drew fun e w' => e = .returned (.bool true) ∧ Below w4.heap.size w4 w') := Lib.hid ((f13_any (HT4.out.below (Below.refl _ _).drew) (HSK4.out.keep (F' := []) (w' := w4.drew) (Fr.of_below (w := w4) (Below.refl _ _).drew))).mono (by rintro e w' ⟨rfl, h⟩; exact ⟨rfl, (Below.refl w4.heap.size w4).drew.trans h⟩))
    have H16 : Hid (∀ w', Below w4.heap.size w4 w' → Calls Try.prog 16 #[.pointer (some ⟨p, 0, none⟩)] w' fun e w'' => e = .returned (.string ⟨(textL q.1).toArray⟩) ∧ Below w4.heap.size w4 w'') := Lib.hid (fun w' h => (f16_any (HT4.out.below h) (by have := HQL.out; omega)).mono (by rintro e w'' ⟨rfl, h'⟩; exact ⟨rfl, h.trans (h'.mono h.size)⟩))
    have H17 : Hid (∀ w', Below w4.heap.size w4 w' → Calls Try.prog 17 #[.agg #[Value.int IntKind.i64 q.fst.x, Value.int IntKind.i64 q.fst.y, Value.int IntKind.i64 q.fst.dx, Value.int IntKind.i64 q.fst.dy, Value.int IntKind.i64 q.fst.step, Value.bool q.fst.down, Value.slice A3 q.fst.l.length c3]] w' fun e w'' => e = .returned (.string ⟨(textL q.1).toArray⟩) ∧ Below w4.heap.size w4 w'') := Lib.hid (fun w' h => (f17_any (s := q.1) (HSK4.out.keep (Fr.of_below h)) HQB.out (by have := HQL.out; omega)).mono (by rintro e w'' ⟨rfl, h'⟩; exact ⟨rfl, h.trans (h'.mono h.size)⟩))
    clear HT4 HSK4 HQB HQL hz
    refine wp_region_G (fun w' => w'.heap[g6]? = some (Obj.cells #[Value.int IntKind.i64 q.fst.x, Value.int IntKind.i64 q.fst.y, Value.int IntKind.i64 q.fst.dx, Value.int IntKind.i64 q.fst.dy, Value.int IntKind.i64 q.fst.step, Value.bool q.fst.down, Value.slice A3 q.fst.l.length c3] 28 (0, 0))) [] (by kernel_rfl) ?_
    refine wpG_range 0 5 20 (by kernel_rfl) rfl (by kernel_rfl) (by decide) (HS.out _ (Below.refl _ _).drew) (fun K hK => ?_)
    simp only [List.drop_succ_cons, List.drop_zero, List.take_succ_cons, List.take_zero]
    iterate 3 (refine wpPure_plain (v := ?_) rfl (fun y hy => ?_) ?_; rotate_left; (go_simp; rfl))
    iterate 2 (refine wpPure_want (v := ?_) (by rfl) (fun y hy => ?_) ?_; rotate_left; (obtain ⟨⟨y0, y1, y2, y3, y4, y5, y6⟩, _⟩ := cells7 hy; go_simp; rfl))
    refine wpPure_nil ?_
    go_simp
    refine hK _ ?_
    clear hK K
    refine wpG_one 5 19 rfl (by kernel_rfl) rfl ?_
    go_wp2_with (go_at_call 13; refine H13.out.mono ?_; rintro e w5 ⟨rfl, hB5⟩; have HB5 := Lib.hid hB5; clear hB5)
    refine Cont.mk ⟨fun _ => HS.out _ HB5.out, ?_⟩
    refine wpG_range 6 2 17 (by kernel_rfl) rfl (by kernel_rfl) (by decide) (HS.out _ HB5.out) (fun K hK => ?_)
    simp only [List.drop_succ_cons, List.drop_zero, List.take_succ_cons, List.take_zero]
    iterate 2 (refine wpPure_plain (v := ?_) rfl (fun y hy => ?_) ?_; rotate_left; (go_simp; rfl))
    refine wpPure_nil ?_
    go_simp
    refine hK _ ?_
    clear hK K
    refine wpG_range 8 3 14 (by kernel_rfl) rfl (by kernel_rfl) (by decide) (HS.out _ HB5.out) (fun K hK => ?_)
    simp only [List.drop_succ_cons, List.drop_zero, List.take_succ_cons, List.take_zero]
    iterate 3 (refine wpPure_want (v := ?_) (by rfl) (fun y hy => ?_) ?_; rotate_left; (go_simp; rfl))
    refine wpPure_nil ?_
    go_simp
    refine hK _ ?_
    clear hK K
    refine wpG_range 11 2 12 (by kernel_rfl) rfl (by kernel_rfl) (by decide) (HS.out _ HB5.out) (fun K hK => ?_)
    simp only [List.drop_succ_cons, List.drop_zero, List.take_succ_cons, List.take_zero]
    iterate 2 (refine wpPure_plain (v := ?_) rfl (fun y hy => ?_) ?_; rotate_left; (go_simp; rfl))
    refine wpPure_nil ?_
    go_simp
    refine hK _ ?_
    clear hK K
    refine wpG_range 13 3 9 (by kernel_rfl) rfl (by kernel_rfl) (by decide) (HS.out _ HB5.out) (fun K hK => ?_)
    simp only [List.drop_succ_cons, List.drop_zero, List.take_succ_cons, List.take_zero]
    iterate 3 (refine wpPure_want (v := ?_) (by rfl) (fun y hy => ?_) ?_; rotate_left; (go_simp; rfl))
    refine wpPure_nil ?_
    go_simp
    refine hK _ ?_
    clear hK K
    refine wpG_range 16 2 7 (by kernel_rfl) rfl (by kernel_rfl) (by decide) (HS.out _ HB5.out) (fun K hK => ?_)
    simp only [List.drop_succ_cons, List.drop_zero, List.take_succ_cons, List.take_zero]
    iterate 2 (refine wpPure_plain (v := ?_) rfl (fun y hy => ?_) ?_; rotate_left; (go_simp; rfl))
    refine wpPure_nil ?_
    go_simp
    refine hK _ ?_
    clear hK K
    refine wpG_range 18 1 6 (by kernel_rfl) rfl (by kernel_rfl) (by decide) (HS.out _ HB5.out) (fun K hK => ?_)
    simp only [List.drop_succ_cons, List.drop_zero, List.take_succ_cons, List.take_zero]
    iterate 1 (refine wpPure_want (v := ?_) (by rfl) (fun y hy => ?_) ?_; rotate_left; (go_simp; rfl))
    refine wpPure_nil ?_
    go_simp
    refine hK _ ?_
    clear hK K
    refine wpG_range 20 1 5 (by kernel_rfl) rfl (by kernel_rfl) (by decide) (HS.out _ HB5.out) (fun K hK => ?_)
    simp only [List.drop_succ_cons, List.drop_zero, List.take_succ_cons, List.take_zero]
    iterate 1 (refine wpPure_want (v := ?_) (by rfl) (fun y hy => ?_) ?_; rotate_left; (obtain ⟨⟨y0, y1, y2, y3, y4, y5, y6⟩, _⟩ := cells7 hy; go_simp; rfl))
    refine wpPure_nil ?_
    go_simp
    refine hK _ ?_
    clear hK K
    refine wpG_one 19 4 rfl (by kernel_rfl) rfl ?_
    go_wp2_with (go_at_call 16; refine (H16.out _ HB5.out).mono ?_; rintro e w6 ⟨rfl, hB6⟩; have HB6 := Lib.hid hB6; clear hB6)
    refine Cont.mk ⟨fun _ => HS.out _ HB6.out, ?_⟩
    refine wpG_one 21 3 rfl (by kernel_rfl) rfl ?_
    go_wp2_with (go_at_call 17; refine (H17.out _ HB6.out).mono ?_; rintro e w7 ⟨rfl, hB7⟩; have HB7 := Lib.hid hB7; clear hB7)
    refine Cont.mk ⟨fun _ => HS.out _ HB7.out, ?_⟩
    refine wpG_one 22 2 rfl (by kernel_rfl) rfl ?_
    go_wp2_with fail
    refine Cont.mk ⟨fun _ => HS.out _ HB7.out, ?_⟩
    refine wpG_one 23 1 rfl (by kernel_rfl) rfl ?_
    go_wp2_with fail
    refine Cont.mk ⟨fun _ => HS.out _ HB7.out, ?_⟩
    refine wpG_one 24 0 rfl (by kernel_rfl) rfl ?_
    go_wp2_with fail
    refine Cont.mk ⟨fun _ => HS.out _ HB7.out, ?_⟩
    refine wpG_done (by kernel_rfl) (NoPanic.normal ?_) _
    go_wp2_with fail
    go_ret
    exact ⟨rfl, hBw4.trans (HB7.out.mono hBw4.size)⟩
  · have hn' : ¬ (n : Int) ≤ 200 := by omega
    have H8 := Lib.hid (f8_any w)
    clear h
    go_enter Try.func4, Try.ntmps4
    go_wp2_with (go_at_call 8; refine H8.out.mono ?_; rintro e w1 ⟨rfl, hB1⟩; have HB1 := Lib.hid hB1; clear hB1)
    go_ret
    exact ⟨rfl, HB1.out⟩
end Go.Proofs.Ytkjfbjgcfkmhkaa
