import Derived.Test.YtengenceelmijaaPlayed
namespace Go.Proofs.Ytengenceelmijaa
open Go.RowKit
set_option linter.unusedVariables false

def ex (n : Int) : Ob := ⟨⟨#[120]⟩, 0, 0, 0, n, 0, false, []⟩
theorem aw1 : declare ⟨[[]], []⟩ (ex 1) = (0, ⟨[[{ ex 1 with lv := 0 }]], []⟩) := by rfl
theorem aw2 : declare ⟨[[{ ex 1 with lv := 0 }], []], []⟩ (ex 2) = (0, ⟨[[{ ex 1 with lv := 0 }], [{ ex 2 with lv := 1 }]], []⟩) := by
  have e : (([[{ ex 1 with lv := 0 }], []] : List (List Ob)).length : Int) - 1 = 1 := rfl
  rfl

theorem aw3 : findN [[{ ex 1 with lv := 0 }], [{ ex 2 with lv := 1 }]] ⟨#[120]⟩ 2 = some { ex 2 with lv := 1 } := by
  rw [findN, show ([[{ ex 1 with lv := 0 }], [{ ex 2 with lv := 1 }]] : List (List Ob))[1]?.getD [] = [{ ex 2 with lv := 1 }] from rfl, findIn]
  simp [findI, ex]
theorem aw4 : findN [[{ ex 1 with lv := 0 }]] ⟨#[120]⟩ 1 = some { ex 1 with lv := 0 } := by
  rw [findN, show ([[{ ex 1 with lv := 0 }]] : List (List Ob))[0]?.getD [] = [{ ex 1 with lv := 0 }] from rfl, findIn]
  simp [findI, ex]

theorem f8_hit {F : List Nat} {w : World} {p : Nat} {a : Abs} (s : ByteArray) (x : Ob) (h : Sc F w p a) (hx : findN a.opn s a.opn.length = some x) :
    Calls Try.prog 8 #[.pointer (some ⟨p, 0, none⟩), .string s] w fun e w' => Below w.heap.size w w' ∧ ∃ pv, PsR F w' pv x.ps ∧ e = .returned (.tuple #[obV x pv, .int .i64 0]) := by
  refine (f8_any s h).mono ?_
  rintro e w' ⟨hB, y, pv, hp, ⟨h1, rfl⟩ | ⟨h1, _⟩⟩
  · rw [hx] at h1; injection h1 with h1; subst h1; exact ⟨hB, pv, hp, rfl⟩
  · rw [hx] at h1; cases h1

set_option maxHeartbeats 2000000 in
set_option maxRecDepth 100000 in
theorem f6_any (w : World) : Calls Try.prog 6 #[] w fun e w' => e = .returned (.bool true) ∧ Below w.heap.size w w' := by
  go_enter Try.func6, Try.ntmps6
  go_wp2_with (go_at_call 20; refine (f20_any _).mono ?_; rintro e w1 ⟨p, F0, rfl, hf0, hs0⟩; have H0 := Lib.hid hf0; have HS0 := Lib.hid hs0; have HC := Lib.hid (f11_all (ex 1) (.slice none 0 0) hs0 (Sl.nil _ _ _)); clear hf0 hs0)
  refine HC.out.mono ?_
  rintro e w2 ⟨rfl, F1, hf1, hs1⟩
  rw [aw1] at hs1 ⊢
  have H1 := Lib.hid (H0.out.trans hf1)
  have HS1 := Lib.hid hs1
  clear hf1 hs1
  go_wp2_with fail
  refine (f10_do HS1.out).mono ?_
  rintro e w3 ⟨rfl, F2, hf2, hs2⟩
  have H2 := Lib.hid (H1.out.trans hf2)
  have HS2 : Hid (Sc F2 w3 p ⟨[[{ ex 1 with lv := 0 }], []], []⟩) := Lib.hid hs2
  clear hf2 hs2
  have HC2 := Lib.hid (f11_all (ex 2) (.slice none 0 0) HS2.out (Sl.nil _ _ _))
  go_wp2_with fail
  refine HC2.out.mono ?_
  rintro e w4 ⟨rfl, F3, hf3, hs3⟩
  rw [aw2] at hs3 ⊢
  have H3 := Lib.hid (H2.out.trans hf3)
  have HS3 := Lib.hid hs3
  clear hf3 hs3
  go_wp2_with fail
  refine (f8_hit ⟨#[120]⟩ { ex 2 with lv := 1 } HS3.out aw3).mono ?_
  rintro e w5 ⟨hB5, pv, hpv, rfl⟩
  obtain ⟨Ap, cp, rfl, _⟩ := ps_at hpv
  have H5 := Lib.hid (H3.out.trans (Fr.of_below hB5))
  have HS5 := Lib.hid (HS3.out.below hB5)
  clear hB5 hpv
  unfold obV ex
  go_wp2_with fail
  obtain ⟨W, hW⟩ : ∃ W, W = w5.alloc (.cells #[.string ⟨#[120]⟩, .int .i64 0, .int .i64 0, .int .i64 1, .int .i32 2, .int .i64 0, .bool false, .slice Ap 0 cp] 25) := ⟨_, rfl⟩
  rw [← hW]
  have hBW : Below w5.heap.size w5 W := by rw [hW]; exact (Below.refl _ _).alloc (Nat.le_refl _) _
  have hx2 : W.heap[w5.heap.size]? = some (.cells #[.string ⟨#[120]⟩, .int .i64 0, .int .i64 0, .int .i64 1, .int .i32 2, .int .i64 0, .bool false, .slice Ap 0 cp] 25) := by rw [hW]; exact heap_alloc_new w5 _
  have hl2 := (Array.getElem?_eq_some_iff.1 hx2).1
  have HX2 := Lib.hid hx2
  have H6 := Lib.hid (H5.out.trans (Fr.of_below hBW))
  have HS6 := Lib.hid (HS5.out.below hBW)
  have hn2 : w5.heap.size ∉ F3 := fun hm => Nat.lt_irrefl _ (HS5.out.lt _ hm)
  clear hW hx2 hBW
  obtain ⟨g2, hg2⟩ : ∃ g2, g2 = w5.heap.size := ⟨_, rfl⟩
  rw [← hg2] at HX2 hn2 hl2 ⊢
  clear hg2
  refine (f12_do HS6.out).mono ?_
  rintro e w7 ⟨rfl, F4, hf4, hs4⟩
  have H7 := Lib.hid (H6.out.trans hf4)
  have HS7 : Hid (Sc F4 w7 p ⟨[[{ ex 1 with lv := 0 }]], []⟩) := Lib.hid hs4
  have HX7 := Lib.hid ((hf4.block _ hl2 hn2).trans HX2.out)
  have hl7 := Nat.lt_of_lt_of_le hl2 hf4.size
  clear hf4 hs4
  go_wp2_with fail
  refine (f8_hit ⟨#[120]⟩ { ex 1 with lv := 0 } HS7.out aw4).mono ?_
  rintro e w8 ⟨hB8, qv, hqv, rfl⟩
  obtain ⟨Aq, cq, rfl, _⟩ := ps_at hqv
  obtain ⟨⟨c0, c1, c2, c3, c4, _⟩, _⟩ := cells8 ((hB8.block _ hl7).trans HX7.out)
  have hl8 := Nat.lt_of_lt_of_le hl7 hB8.size
  have H8 := Lib.hid (H7.out.trans (Fr.of_below hB8))
  clear hB8 hqv
  unfold obV ex
  go_wp2_with fail
  go_ret
  exact ⟨rfl, H8.out.below.alloc H8.out.size _⟩
end Go.Proofs.Ytengenceelmijaa
