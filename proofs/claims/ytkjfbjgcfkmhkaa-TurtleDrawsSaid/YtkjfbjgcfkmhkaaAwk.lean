import Derived.Test.YtkjfbjgcfkmhkaaRdr
import Derived.Test.YtkjfbjgcfkmhkaaRTxt
import Derived.Test.YtkjfbjgcfkmhkaaIs
namespace Go.Proofs.Ytkjfbjgcfkmhkaa
open Go.RowKit
set_option linter.unusedVariables false
set_option linter.unusedSimpArgs false

def wakeP : List (Int × Int) := [(1, 3), (2, 1), (1, 4)]
def wakeS : St := ⟨3, 4, 0, 1, 1, true, [⟨0, 0, 3, 0⟩, ⟨3, 0, 3, 4⟩]⟩
theorem wake_draw : draw st0 (prs (nums (evs wakeP))) = (wakeS, 3, 0) := by kernel_rfl
theorem wake_text : textL wakeS = [48, 32, 48, 32, 51, 32, 48, 10, 51, 32, 48, 32, 51, 32, 52, 10, 97, 116, 32, 51, 32, 52, 10] := by kernel_rfl

set_option maxHeartbeats 2000000 in
theorem f8_any (w : World) : Calls Try.prog 8 #[] w fun e w' => e = .returned (.bool true) ∧ Below w.heap.size w w' := by
  have H18 : Hid (∀ (w : World) (v : Value), PrR [] w v wakeP → Calls Try.prog 18 #[v] w fun e w' => ∃ v', e = .returned v' ∧ Below w.heap.size w w' ∧ EvR [] w' v' (evs wakeP)) := Lib.hid (fun w v h => f18_any h (by simp) (by decide))
  have H14 : Hid (∀ (w : World) (v : Value), EvR [] w v (evs wakeP) → Calls Try.prog 14 #[v] w fun e w' => ∃ p F', e = .returned (.tuple #[.pointer (some ⟨p, 0, none⟩), .int .i64 3, .int .i64 0]) ∧ Below w.heap.size w w' ∧ Tu F' w' p wakeS) := Lib.hid (fun w v h => (f14_any h (by decide)).mono (by
    rw [wake_draw]
    rintro e w' ⟨p, F', rfl, hB, hT, _⟩
    exact ⟨p, F', rfl, hB, hT⟩))
  have H16 : Hid (∀ (w : World) (p : Nat) (F : List Nat), Tu F w p wakeS → Calls Try.prog 16 #[.pointer (some ⟨p, 0, none⟩)] w fun e w' => e = .returned (.string ⟨#[48, 32, 48, 32, 51, 32, 48, 10, 51, 32, 48, 32, 51, 32, 52, 10, 97, 116, 32, 51, 32, 52, 10]⟩) ∧ Below w.heap.size w w') := Lib.hid (fun w p F h => by
    have := f16_any h (by decide)
    rw [wake_text] at this
    exact this)
  have HP : Hid (PrR [] (w.alloc (.cells #[.int .i32 1, .int .i32 3, .int .i32 2, .int .i32 1, .int .i32 1, .int .i32 4] 33)) (.slice (some ⟨w.heap.size, 0, none⟩) 3 3) wakeP) := Lib.hid (by
    refine ⟨by decide, _, 3, rfl, by decide, fun _ => ⟨w.heap.size, 0, rfl, ⟨by simp, by simp⟩, fun i x hi => ?_⟩⟩
    have hc := fun j => cell_of_row (w.alloc (.cells #[.int .i32 1, .int .i32 3, .int .i32 2, .int .i32 1, .int .i32 1, .int .i32 4] 33)) w.heap.size j _ _ (0, 0) (heap_alloc_new w _)
    match i, hi with
    | 0, hi => cases hi; exact ⟨(hc 0).trans rfl, (hc 1).trans rfl⟩
    | 1, hi => cases hi; exact ⟨(hc 2).trans rfl, (hc 3).trans rfl⟩
    | 2, hi => cases hi; exact ⟨(hc 4).trans rfl, (hc 5).trans rfl⟩
    | n + 3, hi => simp [wakeP] at hi)
  have hB0 := Lib.hid ((Below.refl w.heap.size w).alloc (Nat.le_refl _) (.cells #[.int .i32 1, .int .i32 3, .int .i32 2, .int .i32 1, .int .i32 1, .int .i32 4] 33))
  go_enter Try.func8, Try.ntmps8
  go_wp2_with (first
    | (go_at_call 18; refine (H18.out _ _ HP.out).mono ?_; rintro e w1 ⟨v1, rfl, hB1, hE1⟩; have HB1 := Lib.hid hB1; have HE1 := Lib.hid hE1; clear hB1 hE1)
    | (go_at_call 14; refine (H14.out _ _ HE1.out).mono ?_; rintro e w2 ⟨p, F, rfl, hB2, hT2⟩; have HB2 := Lib.hid hB2; have HT2 := Lib.hid hT2; clear hB2 hT2)
    | (go_at_call 16; refine (H16.out _ _ _ HT2.out).mono ?_; rintro e w3 ⟨rfl, hB3⟩; have HB3 := Lib.hid hB3; clear hB3))
  go_ret
  refine ⟨rfl, ?_⟩
  have h1 := hB0.out.trans (HB1.out.mono hB0.out.size)
  have h2 := h1.trans (HB2.out.mono h1.size)
  exact h2.trans (HB3.out.mono h2.size)
end Go.Proofs.Ytkjfbjgcfkmhkaa
