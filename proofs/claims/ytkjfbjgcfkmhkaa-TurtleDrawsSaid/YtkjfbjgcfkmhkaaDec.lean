/- Digits of numbers: plain lists of bytes; what word.digits, word.Text and the document's Text give. -/
import Derived.Test.YtkjfbjgcfkmhkaaRows
import Derived.WalkKit
import Derived.ProofKit
import Derived.Below
import Derived.Lib.Hide
import Derived.Deep.Draws
import Derived.Lib.SlBytesRow
import Derived.Laws.Rows
import Derived.WalkSpells
namespace Go.Proofs.Ytkjfbjgcfkmhkaa
open Go.RowKit
set_option linter.unusedVariables false

/-! ### Plain digits -/
def dig (d : Nat) : UInt8 := if d < 10 then UInt8.ofNat (48 + d) else UInt8.ofNat (87 + d)
/-- The k lowest digits of n in base b. -/
def dgs (b : Nat) : Nat → Nat → List UInt8
  | _, 0 => []
  | n, k + 1 => dgs b (n / b) k ++ [dig (n % b)]
theorem dgs_length (b : Nat) : ∀ n k, (dgs b n k).length = k
  | _, 0 => rfl
  | n, k + 1 => by simp [dgs, dgs_length b (n / b) k]
theorem dgs_succ (b n : Nat) : ∀ k, dgs b n (k + 1) = dig (n / b ^ k % b) :: dgs b n k
  | 0 => by simp [dgs]
  | k + 1 => by
    rw [dgs, dgs_succ b (n / b) k, dgs]
    rw [Nat.div_div_eq_div_mul, ← Nat.pow_succ']
    rfl
/-- Decimal digits. -/
def decL (n : Nat) : List UInt8 := if n < 10 then [UInt8.ofNat (48 + n)] else decL (n / 10) ++ [UInt8.ofNat (48 + n % 10)]
termination_by n
decreasing_by omega
theorem decL_lt {n : Nat} (h : n < 10) : decL n = [UInt8.ofNat (48 + n)] := by rw [decL, if_pos h]
theorem decL_ge {n : Nat} (h : ¬ n < 10) : decL n = decL (n / 10) ++ [UInt8.ofNat (48 + n % 10)] := by rw [decL, if_neg h]
theorem decL_pos (n : Nat) : 0 < (decL n).length := by
  by_cases h : n < 10
  · rw [decL_lt h]; simp
  · rw [decL_ge h]; simp
theorem decL_le : ∀ (k n : Nat), n < 10 ^ k → 0 < k → (decL n).length ≤ k
  | 0, n, _, h0 => by omega
  | k + 1, n, h, _ => by
    by_cases hn : n < 10
    · rw [decL_lt hn]; simp
    · rw [decL_ge hn]
      rcases Nat.eq_zero_or_pos k with h0 | h0
      · subst h0; simp at h; omega
      · have := decL_le k (n / 10) (by rw [Nat.pow_succ] at h; omega) h0
        simp; omega
theorem dgs_dec : ∀ (k n : Nat), n / 10 ^ (k + 1) = 0 → (k = 0 ∨ n / 10 ^ k ≠ 0) → dgs 10 n (k + 1) = decL n
  | 0, n, h, _ => by
    have hn : n < 10 := by rcases Nat.lt_or_ge n 10 with h1 | h1; exact h1; (have := Nat.div_pos h1 (by decide : 0 < 10); simp at h; omega)
    rw [decL_lt hn]; simp [dgs, dig, Nat.mod_eq_of_lt hn, hn]
  | k + 1, n, h, h1 => by
    have h1 : n / 10 ^ (k + 1) ≠ 0 := h1.resolve_left (by omega)
    have hn : ¬ n < 10 := fun hlt => h1 (Nat.div_eq_of_lt (Nat.lt_of_lt_of_le hlt (by rw [Nat.pow_succ]; have := Nat.pow_pos (n := k) (by decide : 0 < 10); omega)))
    rw [decL_ge hn, dgs]
    have e : ∀ j, n / 10 / 10 ^ j = n / 10 ^ (j + 1) := fun j => by rw [Nat.div_div_eq_div_mul, Nat.pow_succ']
    rw [dgs_dec k (n / 10) (by rw [e]; exact h) (by
      rcases Nat.eq_zero_or_pos k with h0 | h0
      · exact .inl h0
      · exact .inr (by rw [e]; exact h1))]
    have : n % 10 < 10 := Nat.mod_lt _ (by decide)
    simp [dig, this]
def txtL (z : Int) : List UInt8 := if z < 0 then 45 :: decL z.natAbs else decL z.natAbs
def txt (z : Int) : ByteArray := ⟨(txtL z).toArray⟩
def hexL (n : Nat) : List UInt8 := dgs 16 n 8
def hex (n : Nat) : ByteArray := ⟨(hexL n).toArray⟩
theorem str_eq {a b : ByteArray} (h : a.data.toList = b.data.toList) : a = b := ByteArray.ext (Array.toList_inj.1 h)
theorem str_size {l : List UInt8} : (⟨l.toArray⟩ : ByteArray).size = l.length := by simp [ByteArray.size]
theorem decL_bound {n : Nat} (h : n ≤ 9223372036854775808) : (decL n).length ≤ 19 := decL_le 19 n (by omega) (by decide)
theorem txtL_bound {z : Int} (h : -9223372036854775808 ≤ z) (h' : z ≤ 9223372036854775807) : (txtL z).length ≤ 20 := by
  unfold txtL
  have := decL_bound (n := z.natAbs) (by omega)
  split <;> simp <;> omega
theorem txt_size {z : Int} (h : -9223372036854775808 ≤ z) (h' : z ≤ 9223372036854775807) : (txt z).size ≤ 20 := by unfold txt; rw [str_size]; exact txtL_bound h h'
theorem hex_size (n : Nat) : (hex n).size = 8 := by unfold hex hexL; rw [str_size, dgs_length]

/-! ### The row of digits in memory -/
/-- 64 cells, the last of which are these digits. -/
def Tail (cs : Array Value) (a : Nat) (D : List UInt8) : Prop := cs.size = 64 ∧ D.length + a = 64 ∧ ∀ i d, D[i]? = some d → cs[a + i]? = some (.int .u8 (d.toNat : Int))
theorem Tail.push {cs : Array Value} {a : Nat} {D : List UInt8} (h : Tail cs (a + 1) D) (d : UInt8) (n : Int) (hd : (d.toNat : Int) = n) : Tail (cs.setIfInBounds a (.int .u8 n)) a (d :: D) := by
  obtain ⟨h1, h2, h3⟩ := h
  refine ⟨by simp [h1], by simp; omega, fun i e he => ?_⟩
  cases i with
  | zero =>
    simp at he; subst he
    rw [Nat.add_zero, Array.getElem?_setIfInBounds_self_of_lt (by omega), hd]
  | succ i =>
    rw [Array.getElem?_setIfInBounds_ne (by omega), show a + (i + 1) = a + 1 + i by omega]
    exact h3 i e (by simpa using he)
theorem Tail.bytes {w : World} {b a : Nat} {cs : Array Value} {t : TypeId} {D : List UInt8} (h : Tail cs a D) (hb : w.heap[b]? = some (.cells cs t (0, 0))) : Lib.Bytes w b a ⟨D.toArray⟩ := by
  intro i hi
  have hi' : i < D.length := by simpa [ByteArray.size] using hi
  rw [cell_of_row w b (a + i) cs t (0, 0) hb, h.2.2 i D[i] (List.getElem?_eq_getElem hi')]
  rfl

theorem dig_lt {d : Nat} (h : d < 10) : ((dig d).toNat : Int) = 48 + d := by
  unfold dig; rw [if_pos h]; simp [UInt8.toNat_ofNat]; omega
theorem dig_ge {d : Nat} (h : ¬ d < 10) (h' : d < 16) : ((dig d).toNat : Int) = 87 + d := by
  unfold dig; rw [if_neg h]; simp [UInt8.toNat_ofNat]; omega

/-- What word.digits gives. -/
def DigPost (b n least : Nat) (w : World) (e : Ending) (w' : World) : Prop :=
  ∃ K, e = .returned (.string ⟨(dgs b n K).toArray⟩) ∧ Below w.heap.size w w' ∧ n / b ^ K = 0 ∧ least ≤ K ∧ (K = least ∨ n / b ^ (K - 1) ≠ 0)

theorem few_digits {b n j : Nat} (hb : 10 ≤ b) (hn : n < 18446744073709551616) (h : 0 < n / b ^ j) : j < 20 := by
  rcases Nat.lt_or_ge j 20 with h1 | h1
  · exact h1
  · have h2 : 10 ^ 20 ≤ b ^ j := Nat.le_trans (Nat.pow_le_pow_left hb 20) (Nat.pow_le_pow_right (by omega) h1)
    rw [Nat.div_eq_of_lt (by omega)] at h
    omega

set_option maxHeartbeats 1000000 in
theorem digits10 (n : Nat) (w : World) (hn : n < 18446744073709551616) :
    Calls Try.prog 39 #[.int .u64 n, .int .u64 10, .int .i64 1] w (DigPost 10 n 1 w) := by
  go_enter Try.func39, Try.ntmps39
  go_wp2_with fail
  obtain ⟨W, hW⟩ : ∃ W, W = w.alloc (.cells (Array.replicate 64 (.int .u8 0)) 93) := ⟨_, rfl⟩
  obtain ⟨B, hB⟩ : ∃ B, B = w.heap.size := ⟨_, rfl⟩
  have hBl : Below B w W := by rw [hW, hB]; exact (Below.refl _ _).alloc (Nat.le_refl _) _
  have hx : W.heap[B]? = some (.cells (Array.replicate 64 (.int .u8 0)) 93 (0, 0)) := by rw [hW, hB]; exact heap_alloc_new w _
  rw [show (Array.replicate 64 (Value.int .u8 0)) = #[Value.int .u8 0, Value.int .u8 0, Value.int .u8 0, Value.int .u8 0, Value.int .u8 0, Value.int .u8 0, Value.int .u8 0, Value.int .u8 0, Value.int .u8 0, Value.int .u8 0, Value.int .u8 0, Value.int .u8 0, Value.int .u8 0, Value.int .u8 0, Value.int .u8 0, Value.int .u8 0, Value.int .u8 0, Value.int .u8 0, Value.int .u8 0, Value.int .u8 0, Value.int .u8 0, Value.int .u8 0, Value.int .u8 0, Value.int .u8 0, Value.int .u8 0, Value.int .u8 0, Value.int .u8 0, Value.int .u8 0, Value.int .u8 0, Value.int .u8 0, Value.int .u8 0, Value.int .u8 0, Value.int .u8 0, Value.int .u8 0, Value.int .u8 0, Value.int .u8 0, Value.int .u8 0, Value.int .u8 0, Value.int .u8 0, Value.int .u8 0, Value.int .u8 0, Value.int .u8 0, Value.int .u8 0, Value.int .u8 0, Value.int .u8 0, Value.int .u8 0, Value.int .u8 0, Value.int .u8 0, Value.int .u8 0, Value.int .u8 0, Value.int .u8 0, Value.int .u8 0, Value.int .u8 0, Value.int .u8 0, Value.int .u8 0, Value.int .u8 0, Value.int .u8 0, Value.int .u8 0, Value.int .u8 0, Value.int .u8 0, Value.int .u8 0, Value.int .u8 0, Value.int .u8 0, Value.int .u8 0] from rfl] at hW hx
  rw [← hW, ← hB]
  have HB := Lib.hid hBl
  have HX := Lib.hid hx
  have HE := Lib.hid hB
  clear hBl hx hW hB
  go_loopw [0, 8, 9] (fun m at_ d wr => ∃ (j a q : Nat) (cs : Array Value), j + a = 64 ∧ m = .int .u64 q ∧ at_ = .int .i64 a ∧ Hid (q = n / 10 ^ j) ∧ Hid (Below B w wr) ∧ Hid (wr.heap[B]? = some (.cells cs 93 (0, 0))) ∧ Hid (Tail cs a (dgs 10 n j)) ∧ Hid (j ≤ 1 ∨ n / 10 ^ (j - 1) ≠ 0)) (fun _ i _ _ => (intOf i).toNat)
  case atStart => exact ⟨0, 64, n, _, rfl, rfl, rfl, Lib.hid (by simp), HB, HX, Lib.hid ⟨by simp, rfl, fun i d h => by simp [dgs] at h⟩, Lib.hid (.inl (by omega))⟩
  case round =>
    obtain ⟨j, a, q, cs, hja, rfl, rfl, hq, hbl, hcs, htl, hlo⟩ := hrel
    have hcells : ∀ i, i < 64 → wr.cell? ⟨B, i, none⟩ = cs[i]? := fun i hi => cell_of_row wr B i cs 93 (0, 0) hcs.out
    have hfz : ∀ i, wr.frozen? ⟨B, i, none⟩ = false := fun i => frozen_of_row wr B i cs 93 hcs.out
    have hq64 : q < 18446744073709551616 := by rw [hq.out]; exact Nat.lt_of_le_of_lt (Nat.div_le_self _ _) hn
    have go : ∀ (v : Int) (a' : Nat), a = a' + 1 → ((dig (q % 10)).toNat : Int) = v → j < 64 → (0 < q ∨ j < 1) →
        ∃ cs', j + 1 + a' = 64 ∧ Hid (q / 10 = n / 10 ^ (j + 1)) ∧ Hid (Below B w (wr.setCell ⟨B, a', none⟩ (.int .u8 v))) ∧ Hid ((wr.setCell ⟨B, a', none⟩ (.int .u8 v)).heap[B]? = some (.cells cs' 93 (0, 0))) ∧ Hid (Tail cs' a' (dgs 10 n (j + 1))) ∧ Hid (j + 1 ≤ 1 ∨ n / 10 ^ (j + 1 - 1) ≠ 0) := by
      intro v a' ha hv hj hcont
      subst ha
      refine ⟨cs.setIfInBounds a' (.int .u8 v), by omega, Lib.hid (by rw [hq.out, Nat.div_div_eq_div_mul, Nat.pow_succ]), Lib.hid (hbl.out.setCell (p := ⟨B, a', none⟩) (Nat.le_refl _) _), Lib.hid (heap_setCell_same wr B a' cs 93 _ hcs.out), Lib.hid ?_, Lib.hid ?_⟩
      · rw [dgs_succ, ← hq.out]
        exact htl.out.push _ _ hv
      · rcases hcont with h | h
        · right; rw [Nat.add_sub_cancel, ← hq.out]; omega
        · left; omega
    have GO := Lib.hid go
    have HC := Lib.hid hcells
    clear go hcells
    by_cases hpos : 0 < q
    · have hj20 : j < 20 := few_digits (b := 10) (by omega) hn (by rw [← hq.out]; exact hpos)
      obtain ⟨a', rfl⟩ : ∃ a', a = a' + 1 := ⟨a - 1, by omega⟩
      have hf := hfz a'
      obtain ⟨u, hu⟩ : ∃ u, wr.cell? ⟨B, a', none⟩ = some u := ⟨_, (HC.out a' (by omega)).trans (Array.getElem?_eq_getElem (by have := htl.out.1; omega))⟩
      clear hfz
      have hd0 : q % 10 < 10 := Nat.mod_lt _ (by decide)
      have hdc : ((a' : Int) + 1) - 1 = a' := by omega
      have hqp : (0 : Int) < q := by omega
      have hlen : a' < 64 := by omega
      by_cases hd10 : q % 10 < 10
      · have hd10i : (q : Int) % 10 < 10 := by omega
        have hd10n : (0 : Int) ≤ (q : Int) % 10 := by omega
        go_wp2
        obtain ⟨cs', g1, g2, g3, g4, g5, g6⟩ := GO.out (48 + ((q % 10 : Nat) : Int)) a' rfl (dig_lt hd10) (by omega) (.inl hpos)
        go_roundw
        case rel => exact ⟨j + 1, a', q / 10, cs', g1, by go_num, by go_num, g2, g3, g4, g5, g6⟩
        case measure => simp [intOf]
      · have hd10i : ¬ (q : Int) % 10 < 10 := by omega
        have hd10n : (0 : Int) ≤ (q : Int) % 10 := by omega
        have hd16 : (q : Int) % 10 < 16 := by omega
        first
        | (exfalso; omega)
        | (go_wp2
           obtain ⟨cs', g1, g2, g3, g4, g5, g6⟩ := GO.out (87 + ((q % 10 : Nat) : Int)) a' rfl (dig_ge hd10 (by omega)) (by omega) (.inl hpos)
           have e87 : (97 : Int) + ((q : Int) % 10) - 10 = 87 + ((q % 10 : Nat) : Int) := by push_cast; omega
           go_roundw
           case rel => exact ⟨j + 1, a', q / 10, cs', g1, by go_num, by go_num, g2, by rw [e87]; exact g3, by rw [e87]; exact g4, g5, g6⟩
           case measure => simp [intOf])
    · obtain rfl : q = 0 := by omega
      by_cases hj : j < 1
      · obtain ⟨a', rfl⟩ : ∃ a', a = a' + 1 := ⟨a - 1, by omega⟩
        have hf := hfz a'
        obtain ⟨u, hu⟩ : ∃ u, wr.cell? ⟨B, a', none⟩ = some u := ⟨_, (HC.out a' (by omega)).trans (Array.getElem?_eq_getElem (by have := htl.out.1; omega))⟩
        clear hfz
        have hdc : ((a' : Int) + 1) - 1 = a' := by omega
        have hlen : a' < 64 := by omega
        have t1 : (64 - 1 : Int) < (a' : Int) + 1 := by omega
        have t2 : (64 - 1 : Int) ≤ (a' : Int) := by omega
        go_wp2
        obtain ⟨cs', g1, g2, g3, g4, g5, g6⟩ := GO.out 48 a' rfl (dig_lt (by decide)) (by omega) (.inr hj)
        go_roundw
        case rel => exact ⟨j + 1, a', 0 / 10, cs', g1, by go_num, by go_num, g2, g3, g4, g5, g6⟩
        case measure => simp [intOf]
      · have t1 : ¬ (64 - 1 : Int) < (a : Int) := by omega
        have hcv := fun cap : Nat => Lib.run_convert_whole (P := Try.prog) wr 74 5 9 Try.underlying74 Try.underlying5 Try.underlying9 B a _ (htl.out.bytes hcs.out) cap
        rw [show (⟨(dgs 10 n j).toArray⟩ : ByteArray).size = 64 - a by rw [str_size, dgs_length]; omega] at hcv
        have ha : a ≤ 64 := by omega
        have hj20 : (a : Int) ≤ 64 := by omega
        go_wp2
        go_ret
        refine ⟨j, rfl, by rw [← HE.out]; exact hbl.out, hq.out.symm, by omega, ?_⟩
        rcases hlo.out with h | h
        · left; omega
        · exact .inr h
set_option maxHeartbeats 1000000 in
theorem digits16 (n : Nat) (w : World) (hn : n < 18446744073709551616) :
    Calls Try.prog 39 #[.int .u64 n, .int .u64 16, .int .i64 8] w (DigPost 16 n 8 w) := by
  go_enter Try.func39, Try.ntmps39
  go_wp2_with fail
  obtain ⟨W, hW⟩ : ∃ W, W = w.alloc (.cells (Array.replicate 64 (.int .u8 0)) 93) := ⟨_, rfl⟩
  obtain ⟨B, hB⟩ : ∃ B, B = w.heap.size := ⟨_, rfl⟩
  have hBl : Below B w W := by rw [hW, hB]; exact (Below.refl _ _).alloc (Nat.le_refl _) _
  have hx : W.heap[B]? = some (.cells (Array.replicate 64 (.int .u8 0)) 93 (0, 0)) := by rw [hW, hB]; exact heap_alloc_new w _
  rw [show (Array.replicate 64 (Value.int .u8 0)) = #[Value.int .u8 0, Value.int .u8 0, Value.int .u8 0, Value.int .u8 0, Value.int .u8 0, Value.int .u8 0, Value.int .u8 0, Value.int .u8 0, Value.int .u8 0, Value.int .u8 0, Value.int .u8 0, Value.int .u8 0, Value.int .u8 0, Value.int .u8 0, Value.int .u8 0, Value.int .u8 0, Value.int .u8 0, Value.int .u8 0, Value.int .u8 0, Value.int .u8 0, Value.int .u8 0, Value.int .u8 0, Value.int .u8 0, Value.int .u8 0, Value.int .u8 0, Value.int .u8 0, Value.int .u8 0, Value.int .u8 0, Value.int .u8 0, Value.int .u8 0, Value.int .u8 0, Value.int .u8 0, Value.int .u8 0, Value.int .u8 0, Value.int .u8 0, Value.int .u8 0, Value.int .u8 0, Value.int .u8 0, Value.int .u8 0, Value.int .u8 0, Value.int .u8 0, Value.int .u8 0, Value.int .u8 0, Value.int .u8 0, Value.int .u8 0, Value.int .u8 0, Value.int .u8 0, Value.int .u8 0, Value.int .u8 0, Value.int .u8 0, Value.int .u8 0, Value.int .u8 0, Value.int .u8 0, Value.int .u8 0, Value.int .u8 0, Value.int .u8 0, Value.int .u8 0, Value.int .u8 0, Value.int .u8 0, Value.int .u8 0, Value.int .u8 0, Value.int .u8 0, Value.int .u8 0, Value.int .u8 0] from rfl] at hW hx
  rw [← hW, ← hB]
  have HB := Lib.hid hBl
  have HX := Lib.hid hx
  have HE := Lib.hid hB
  clear hBl hx hW hB
  go_loopw [0, 8, 9] (fun m at_ d wr => ∃ (j a q : Nat) (cs : Array Value), j + a = 64 ∧ m = .int .u64 q ∧ at_ = .int .i64 a ∧ Hid (q = n / 16 ^ j) ∧ Hid (Below B w wr) ∧ Hid (wr.heap[B]? = some (.cells cs 93 (0, 0))) ∧ Hid (Tail cs a (dgs 16 n j)) ∧ Hid (j ≤ 8 ∨ n / 16 ^ (j - 1) ≠ 0)) (fun _ i _ _ => (intOf i).toNat)
  case atStart => exact ⟨0, 64, n, _, rfl, rfl, rfl, Lib.hid (by simp), HB, HX, Lib.hid ⟨by simp, rfl, fun i d h => by simp [dgs] at h⟩, Lib.hid (.inl (by omega))⟩
  case round =>
    obtain ⟨j, a, q, cs, hja, rfl, rfl, hq, hbl, hcs, htl, hlo⟩ := hrel
    have hcells : ∀ i, i < 64 → wr.cell? ⟨B, i, none⟩ = cs[i]? := fun i hi => cell_of_row wr B i cs 93 (0, 0) hcs.out
    have hfz : ∀ i, wr.frozen? ⟨B, i, none⟩ = false := fun i => frozen_of_row wr B i cs 93 hcs.out
    have hq64 : q < 18446744073709551616 := by rw [hq.out]; exact Nat.lt_of_le_of_lt (Nat.div_le_self _ _) hn
    have go : ∀ (v : Int) (a' : Nat), a = a' + 1 → ((dig (q % 16)).toNat : Int) = v → j < 64 → (0 < q ∨ j < 8) →
        ∃ cs', j + 1 + a' = 64 ∧ Hid (q / 16 = n / 16 ^ (j + 1)) ∧ Hid (Below B w (wr.setCell ⟨B, a', none⟩ (.int .u8 v))) ∧ Hid ((wr.setCell ⟨B, a', none⟩ (.int .u8 v)).heap[B]? = some (.cells cs' 93 (0, 0))) ∧ Hid (Tail cs' a' (dgs 16 n (j + 1))) ∧ Hid (j + 1 ≤ 8 ∨ n / 16 ^ (j + 1 - 1) ≠ 0) := by
      intro v a' ha hv hj hcont
      subst ha
      refine ⟨cs.setIfInBounds a' (.int .u8 v), by omega, Lib.hid (by rw [hq.out, Nat.div_div_eq_div_mul, Nat.pow_succ]), Lib.hid (hbl.out.setCell (p := ⟨B, a', none⟩) (Nat.le_refl _) _), Lib.hid (heap_setCell_same wr B a' cs 93 _ hcs.out), Lib.hid ?_, Lib.hid ?_⟩
      · rw [dgs_succ, ← hq.out]
        exact htl.out.push _ _ hv
      · rcases hcont with h | h
        · right; rw [Nat.add_sub_cancel, ← hq.out]; omega
        · left; omega
    have GO := Lib.hid go
    have HC := Lib.hid hcells
    clear go hcells
    by_cases hpos : 0 < q
    · have hj20 : j < 20 := few_digits (b := 16) (by omega) hn (by rw [← hq.out]; exact hpos)
      obtain ⟨a', rfl⟩ : ∃ a', a = a' + 1 := ⟨a - 1, by omega⟩
      have hf := hfz a'
      obtain ⟨u, hu⟩ : ∃ u, wr.cell? ⟨B, a', none⟩ = some u := ⟨_, (HC.out a' (by omega)).trans (Array.getElem?_eq_getElem (by have := htl.out.1; omega))⟩
      clear hfz
      have hd0 : q % 16 < 16 := Nat.mod_lt _ (by decide)
      have hdc : ((a' : Int) + 1) - 1 = a' := by omega
      have hqp : (0 : Int) < q := by omega
      have hlen : a' < 64 := by omega
      by_cases hd10 : q % 16 < 10
      · have hd10i : (q : Int) % 16 < 10 := by omega
        have hd10n : (0 : Int) ≤ (q : Int) % 16 := by omega
        go_wp2
        obtain ⟨cs', g1, g2, g3, g4, g5, g6⟩ := GO.out (48 + ((q % 16 : Nat) : Int)) a' rfl (dig_lt hd10) (by omega) (.inl hpos)
        go_roundw
        case rel => exact ⟨j + 1, a', q / 16, cs', g1, by go_num, by go_num, g2, g3, g4, g5, g6⟩
        case measure => simp [intOf]
      · have hd10i : ¬ (q : Int) % 16 < 10 := by omega
        have hd10n : (0 : Int) ≤ (q : Int) % 16 := by omega
        have hd16 : (q : Int) % 16 < 16 := by omega
        first
        | (exfalso; omega)
        | (go_wp2
           obtain ⟨cs', g1, g2, g3, g4, g5, g6⟩ := GO.out (87 + ((q % 16 : Nat) : Int)) a' rfl (dig_ge hd10 (by omega)) (by omega) (.inl hpos)
           have e87 : (97 : Int) + ((q : Int) % 16) - 10 = 87 + ((q % 16 : Nat) : Int) := by push_cast; omega
           go_roundw
           case rel => exact ⟨j + 1, a', q / 16, cs', g1, by go_num, by go_num, g2, by rw [e87]; exact g3, by rw [e87]; exact g4, g5, g6⟩
           case measure => simp [intOf])
    · obtain rfl : q = 0 := by omega
      by_cases hj : j < 8
      · obtain ⟨a', rfl⟩ : ∃ a', a = a' + 1 := ⟨a - 1, by omega⟩
        have hf := hfz a'
        obtain ⟨u, hu⟩ : ∃ u, wr.cell? ⟨B, a', none⟩ = some u := ⟨_, (HC.out a' (by omega)).trans (Array.getElem?_eq_getElem (by have := htl.out.1; omega))⟩
        clear hfz
        have hdc : ((a' : Int) + 1) - 1 = a' := by omega
        have hlen : a' < 64 := by omega
        have t1 : (64 - 8 : Int) < (a' : Int) + 1 := by omega
        have t2 : (64 - 8 : Int) ≤ (a' : Int) := by omega
        go_wp2
        obtain ⟨cs', g1, g2, g3, g4, g5, g6⟩ := GO.out 48 a' rfl (dig_lt (by decide)) (by omega) (.inr hj)
        go_roundw
        case rel => exact ⟨j + 1, a', 0 / 16, cs', g1, by go_num, by go_num, g2, g3, g4, g5, g6⟩
        case measure => simp [intOf]
      · have t1 : ¬ (64 - 8 : Int) < (a : Int) := by omega
        have hcv := fun cap : Nat => Lib.run_convert_whole (P := Try.prog) wr 74 5 9 Try.underlying74 Try.underlying5 Try.underlying9 B a _ (htl.out.bytes hcs.out) cap
        rw [show (⟨(dgs 16 n j).toArray⟩ : ByteArray).size = 64 - a by rw [str_size, dgs_length]; omega] at hcv
        have ha : a ≤ 64 := by omega
        have hj20 : (a : Int) ≤ 64 := by omega
        go_wp2
        go_ret
        refine ⟨j, rfl, by rw [← HE.out]; exact hbl.out, hq.out.symm, by omega, ?_⟩
        rcases hlo.out with h | h
        · left; omega
        · exact .inr h

/-- Ten's digits are the decimal ones. -/
theorem DigPost.dec {n : Nat} {w w' : World} {e : Ending} (h : DigPost 10 n 1 w e w') : e = .returned (.string ⟨(decL n).toArray⟩) ∧ Below w.heap.size w w' := by
  obtain ⟨K, rfl, hB, h0, h1, h2⟩ := h
  obtain ⟨k, rfl⟩ : ∃ k, K = k + 1 := ⟨K - 1, by omega⟩
  refine ⟨?_, hB⟩
  rw [dgs_dec k n h0 (by rcases h2 with h2 | h2; exact .inl (by omega); exact .inr (by simpa using h2))]
theorem DigPost.hex {n : Nat} {w w' : World} {e : Ending} (hn : n < 4294967296) (h : DigPost 16 n 8 w e w') : e = .returned (.string (hex n)) ∧ Below w.heap.size w w' := by
  obtain ⟨K, rfl, hB, h0, h1, h2⟩ := h
  have h8 : K = 8 := by
    rcases h2 with rfl | h2
    · rfl
    · have h3 : K - 1 < 8 := by
        rcases Nat.lt_or_ge (K - 1) 8 with h | h
        · exact h
        · have : 16 ^ 8 ≤ 16 ^ (K - 1) := Nat.pow_le_pow_right (by decide) h
          exact absurd (Nat.div_eq_of_lt (Nat.lt_of_lt_of_le hn this)) h2
      omega
  subst h8
  exact ⟨rfl, hB⟩

theorem text_any (z : Int) (w : World) (h1 : -9223372036854775808 ≤ z) (h2 : z ≤ 9223372036854775807) :
    Calls Try.prog 37 #[.int .i64 z] w fun e w' => e = .returned (.string (txt z)) ∧ Below w.heap.size w w' := by
  by_cases hz : z < 0
  · obtain ⟨n, rfl⟩ : ∃ n : Nat, z = -(n : Int) := ⟨(-z).toNat, by omega⟩
    have e1 : txt (-(n : Int)) = ⟨#[45]⟩ ++ ⟨(decL n).toArray⟩ := by
      apply str_eq
      unfold txt txtL
      rw [if_pos hz, Int.natAbs_neg, Int.natAbs_natCast]
      simp
    have HE := Lib.hid e1
    clear e1
    have hdl := decL_bound (n := n) (by omega)
    by_cases hmin : n = 9223372036854775808
    · have e2 : IntKind.u64.wrap (wrap64 (n : Int)) = (n : Int) := by rw [hmin]; decide +kernel
      have hc : Calls Try.prog 39 #[.int .u64 (IntKind.u64.wrap (wrap64 (n : Int))), .int .u64 10, .int .i64 1] w fun e w' => e = .returned (.string ⟨(decL n).toArray⟩) ∧ Below w.heap.size w w' := by
        rw [e2]; exact (digits10 n w (by omega)).mono fun _ _ => DigPost.dec
      have hpos : 0 < n := by omega
      clear e2 hmin h1 h2 hz
      go_enter Try.func37, Try.ntmps37
      go_wp2_with (go_at_call 39; refine hc.mono ?_; rintro e w1 ⟨rfl, hb⟩)
      go_ret
      exact ⟨by rw [HE.out]; rfl, hb⟩
    · have hc : Calls Try.prog 39 #[.int .u64 n, .int .u64 10, .int .i64 1] w fun e w' => e = .returned (.string ⟨(decL n).toArray⟩) ∧ Below w.heap.size w w' := (digits10 n w (by omega)).mono fun _ _ => DigPost.dec
      have hn : (n : Int) ≤ 9223372036854775807 := by omega
      have hn0 : 0 < n := by omega
      go_enter Try.func37, Try.ntmps37
      go_wp2_with (go_at_call 39; refine hc.mono ?_; rintro e w1 ⟨rfl, hb⟩)
      go_ret
      exact ⟨by rw [HE.out]; rfl, hb⟩
  · obtain ⟨n, rfl⟩ : ∃ n : Nat, z = n := ⟨z.toNat, by omega⟩
    have e1 : txt (n : Int) = ⟨(decL n).toArray⟩ := by
      unfold txt txtL
      rw [if_neg hz, Int.natAbs_natCast]
    have HE := Lib.hid e1
    clear e1
    have hc : Calls Try.prog 39 #[.int .u64 n, .int .u64 10, .int .i64 1] w fun e w' => e = .returned (.string ⟨(decL n).toArray⟩) ∧ Below w.heap.size w w' := (digits10 n w (by omega)).mono fun _ _ => DigPost.dec
    go_enter Try.func37, Try.ntmps37
    go_wp2_with (go_at_call 39; refine hc.mono ?_; rintro e w1 ⟨rfl, hb⟩)
    go_ret
    exact ⟨by rw [HE.out]; rfl, hb⟩

/-! ### The document's Text -/
theorem byte_cell (w : World) (c : Nat) (hc : c < 256) : (convert 74 9 (.slice (some ⟨w.heap.size, 0, none⟩) 1 1)).run Try.prog (w.alloc (.cells #[.int .u8 (c : Int)] 5)) = .ok (.string ⟨#[UInt8.ofNat c]⟩) (w.alloc (.cells #[.int .u8 (c : Int)] 5)) := by
  have hb : Lib.Bytes (w.alloc (.cells #[.int .u8 (c : Int)] 5)) w.heap.size 0 ⟨#[UInt8.ofNat c]⟩ := fun i hi => by
    obtain rfl : i = 0 := by have : i < 1 := hi; omega
    rw [cell_of_row _ w.heap.size 0 #[.int .u8 (c : Int)] 5 (0, 0) (heap_alloc_new w _)]
    show some (Value.int .u8 (c : Int)) = some (.int .u8 ((UInt8.ofNat c).toNat : Int))
    rw [UInt8.toNat_ofNat_of_lt' hc]
  exact Lib.run_convert_whole (P := Try.prog) _ 74 5 9 Try.underlying74 Try.underlying5 Try.underlying9 w.heap.size 0 ⟨#[UInt8.ofNat c]⟩ hb 1

theorem cat_one (k : Nat) (acc : List UInt8) : (⟨#[48 + UInt8.ofNat k]⟩ : ByteArray) ++ ⟨acc.toArray⟩ = ⟨(UInt8.ofNat (48 + k) :: acc).toArray⟩ := by
  apply str_eq
  rw [UInt8.ofNat_add]
  simp
theorem cat_neg (l : List UInt8) : (⟨#[45]⟩ : ByteArray) ++ ⟨l.toArray⟩ = ⟨(45 :: l).toArray⟩ := by
  apply str_eq
  simp
theorem hid_len {n : Nat} {l : List UInt8} (h : decL n = l) : (⟨l.toArray⟩ : ByteArray) = ⟨(decL n).toArray⟩ := by rw [h]

set_option maxHeartbeats 800000 in
theorem rtext_any (z : Int) (w : World) (h1 : -9223372036854775808 ≤ z) (h2 : z ≤ 9223372036854775807) :
    Calls Try.prog 31 #[.int .i64 z] w fun e w' => e = .returned (.string (txt z)) ∧ Below w.heap.size w w' := by
  have hlen : ∀ (q : Nat) (acc : List UInt8), decL z.natAbs = decL q ++ acc → acc.length ≤ 18 := fun q acc h => by
    have h1 := decL_bound (n := z.natAbs) (by omega)
    have h2 := decL_pos q
    rw [h, List.length_append] at h1
    omega
  have HL := Lib.hid hlen
  clear hlen
  by_cases hz : z < 0
  · obtain ⟨n, rfl⟩ : ∃ n : Nat, z = -(n : Int) := ⟨(-z).toNat, by omega⟩
    have e1 : txt (-(n : Int)) = ⟨#[45]⟩ ++ ⟨(decL n).toArray⟩ := by
      apply str_eq
      unfold txt txtL
      rw [if_pos hz, Int.natAbs_neg, Int.natAbs_natCast]
      simp
    have HE := Lib.hid e1
    clear e1
    have hpos : 0 < n := by omega
    go_enter Try.func31, Try.ntmps31
    go_wp2_with fail
    go_loopw [3, 4, 5] (fun s m d wr => ∃ (q : Nat) (acc : List UInt8), m = .int .i64 (-(q : Int)) ∧ s = .string ⟨acc.toArray⟩ ∧ Hid (decL n = decL q ++ acc) ∧ 0 < q ∧ q ≤ n ∧ Hid (Below w.heap.size w wr)) (fun _ m _ _ => (- intOf m).toNat)
    case atStart => exact ⟨n, [], rfl, rfl, Lib.hid (by simp), hpos, Nat.le_refl _, Lib.hid (Below.refl _ _)⟩
    case round =>
      obtain ⟨q, acc, rfl, rfl, hq, hq0, hqn, hbl⟩ := hrel
      have hacc : acc.length ≤ 18 := HL.out q acc (by rw [Int.natAbs_neg, Int.natAbs_natCast]; exact hq.out)
      have b0 : (0 : Int) ≤ (q : Int) % 10 := by omega
      have b1 : (q : Int) % 10 < 10 := by omega
      have hcv := byte_cell wr (48 + q % 10) (by omega)
      push_cast at hcv
      have hdlq : q / 10 ≠ 0 → decL q = decL (q / 10) ++ [UInt8.ofNat (48 + q % 10)] := fun h => decL_ge (by omega)
      have hdl0 : q / 10 = 0 → decL q = [UInt8.ofNat (48 + q % 10)] := fun h => by rw [decL_lt (by omega), Nat.mod_eq_of_lt (by omega)]
      have HQ := Lib.hid hdlq
      have H0 := Lib.hid hdl0
      clear hdlq hdl0
      have hdlt := Nat.mod_lt q (show 0 < 10 by decide)
      have hlast := Nat.eq_zero_or_pos (q / 10)
      by_cases hd : 0 < q % 10
      · have hd1 : (0 : Int) < (q : Int) % 10 := by omega
        rcases hlast with hlast | hlast
        · have l1 : (q : Int) / 10 = 0 := by omega
          go_wp2
          go_ret
          refine ⟨?_, hbl.out.alloc hbl.out.size _⟩
          rw [HE.out, hq.out, H0.out hlast]
          exact congrArg (fun s => Ending.returned (Value.string (⟨#[45]⟩ ++ s))) (cat_one _ _)
        · have l1 : ¬ (q : Int) / 10 = 0 := by omega
          go_wp2
          go_roundw
          case rel => exact ⟨q / 10, UInt8.ofNat (48 + q % 10) :: acc, by go_num, by rw [cat_one], Lib.hid (by rw [hq.out, HQ.out (by omega)]; simp), hlast, by omega, Lib.hid (hbl.out.alloc hbl.out.size _)⟩
          case measure => simp [intOf]; omega
      · have hd0 : q % 10 = 0 := by omega
        have hd1 : (q : Int) % 10 = 0 := by omega
        have hlast : 0 < q / 10 := by omega
        have l1 : ¬ (q : Int) / 10 = 0 := by omega
        clear hcv
        have hcv : (convert 74 9 (.slice (some ⟨wr.heap.size, 0, none⟩) 1 1)).run Try.prog (wr.alloc (.cells #[.int .u8 48] 5)) = .ok (.string ⟨#[48]⟩) (wr.alloc (.cells #[.int .u8 48] 5)) := byte_cell wr 48 (by decide)
        have e48 : (⟨#[48]⟩ : ByteArray) ++ ⟨acc.toArray⟩ = ⟨(UInt8.ofNat (48 + q % 10) :: acc).toArray⟩ := by rw [hd0]; apply str_eq; simp
        have E48 := Lib.hid e48
        clear e48
        go_wp2
        go_roundw
        case rel => exact ⟨q / 10, UInt8.ofNat (48 + q % 10) :: acc, by go_num, by rw [← E48.out], Lib.hid (by rw [hq.out, HQ.out (by omega)]; simp), hlast, by omega, Lib.hid (hbl.out.alloc hbl.out.size _)⟩
        case measure => simp [intOf]; omega
  · obtain ⟨n, rfl⟩ : ∃ n : Nat, z = n := ⟨z.toNat, by omega⟩
    have e1 : txt (n : Int) = ⟨(decL n).toArray⟩ := by
      unfold txt txtL
      rw [if_neg hz, Int.natAbs_natCast]
    have HE := Lib.hid e1
    clear e1
    go_enter Try.func31, Try.ntmps31
    go_wp2_with fail
    go_loopw [3, 4, 5] (fun s m d wr => ∃ (q : Nat) (acc : List UInt8), m = .int .i64 q ∧ s = .string ⟨acc.toArray⟩ ∧ True ∧ Hid (decL n = decL q ++ acc) ∧ q ≤ n ∧ Hid (Below w.heap.size w wr)) (fun _ m _ _ => (intOf m).toNat)
    case atStart => exact ⟨n, [], rfl, rfl, trivial, Lib.hid (by simp), Nat.le_refl _, Lib.hid (Below.refl _ _)⟩
    case round =>
      obtain ⟨q, acc, rfl, rfl, _, hq, hqn, hbl⟩ := hrel
      have hcv := byte_cell wr (48 + q % 10) (by omega)
      have b0 : (0 : Int) ≤ (q : Int) % 10 := by omega
      have b1 : (q : Int) % 10 < 10 := by omega
      have b2 : ¬ (q : Int) % 10 < 0 := by omega
      push_cast at hcv
      have hacc : acc.length ≤ 18 := HL.out q acc (by rw [Int.natAbs_natCast]; exact hq.out)
      have hdlq : q / 10 ≠ 0 → decL q = decL (q / 10) ++ [UInt8.ofNat (48 + q % 10)] := fun h => decL_ge (by omega)
      have hdl0 : q / 10 = 0 → decL q = [UInt8.ofNat (48 + q % 10)] := fun h => by rw [decL_lt (by omega), Nat.mod_eq_of_lt (by omega)]
      have HQ := Lib.hid hdlq
      have H0 := Lib.hid hdl0
      clear hdlq hdl0
      have hz2 : ¬ (n : Int) < 0 := by omega
      by_cases hlast : q / 10 = 0
      · have l1 : (q : Int) / 10 = 0 := by omega
        go_wp2
        go_ret
        refine ⟨?_, hbl.out.alloc hbl.out.size _⟩
        rw [HE.out, hq.out, H0.out hlast]
        exact congrArg (fun s => Ending.returned (Value.string s)) (cat_one _ _)
      · have l1 : ¬ (q : Int) / 10 = 0 := by omega
        go_wp2
        go_roundw
        case rel => exact ⟨q / 10, UInt8.ofNat (48 + q % 10) :: acc, by go_num, by rw [cat_one], trivial, Lib.hid (by rw [hq.out, HQ.out (by omega)]; simp), by omega, Lib.hid (hbl.out.alloc hbl.out.size _)⟩
        case measure => simp [intOf]; omega
end Go.Proofs.Ytkjfbjgcfkmhkaa
