/- Words of a float that stand for whole numbers: sums, differences, products, comparisons and conversions are those of the numbers, as long as all are at most 2^53. Nothing here names a Go function. -/
import Derived.Test.YtkjfbjgcfkmhkaaRows
import Derived.WalkKit
import Derived.Laws.FloatArith
import Derived.Laws.ComplexArith
namespace Go.Proofs.Ytkjfbjgcfkmhkaa
open Ieee
set_option linter.unusedVariables false

/-- 'm * 2 ^ e' is the whole number N. -/
def Is (m : Nat) (e : Int) (N : Nat) : Prop := m * 2 ^ e.toNat = N * 2 ^ (-e).toNat

/-- A word that stands for a whole number. -/
def FI (b : Nat) (n : Int) : Prop := b < 18446744073709551616 ∧ ∃ s m e, double.read b = .number s m e ∧ Is m e n.natAbs ∧ (n < 0 → s = true) ∧ (0 < n → s = false)

theorem p2 (k : Nat) : 0 < 2 ^ k := Nat.pow_pos (by decide)

theorem Is.shift {m : Nat} {e : Int} {N k : Nat} (h : Is m e N) {f : Int} (hf : f + k = e) : Is (m * 2 ^ k) f N := by
  unfold Is at *
  rcases Int.le_total 0 f with h0 | h0
  · have e1 : (-f).toNat = 0 := by omega
    have e2 : (-e).toNat = 0 := by omega
    have e3 : e.toNat = k + f.toNat := by omega
    rw [e1]; rw [e2, e3, Nat.pow_add] at h
    rw [← h, Nat.mul_assoc]
  · have e1 : f.toNat = 0 := by omega
    rw [e1, Nat.pow_zero, Nat.mul_one]
    rcases Int.le_total 0 e with h1 | h1
    · have e2 : (-e).toNat = 0 := by omega
      have e3 : k = e.toNat + (-f).toNat := by omega
      rw [e2, Nat.pow_zero, Nat.mul_one] at h
      rw [e3, Nat.pow_add, ← Nat.mul_assoc, h]
    · have e2 : e.toNat = 0 := by omega
      have e3 : (-f).toNat = (-e).toNat + k := by omega
      rw [e2, Nat.pow_zero, Nat.mul_one] at h
      rw [e3, Nat.pow_add, ← Nat.mul_assoc, h]
theorem Is.zero {m : Nat} {e : Int} (h : Is m e 0) : m = 0 := by
  unfold Is at h
  rw [Nat.zero_mul] at h
  rcases Nat.mul_eq_zero.1 h with h | h
  · exact h
  · have := p2 e.toNat; omega
theorem Is.pos {m : Nat} {e : Int} {N : Nat} (h : Is m e N) (hN : 0 < N) : 0 < m := by
  unfold Is at h
  rcases Nat.eq_zero_or_pos m with rfl | h0
  · rw [Nat.zero_mul] at h
    have := Nat.mul_pos hN (p2 (-e).toNat)
    omega
  · exact h0
theorem Is.mul {m n : Nat} {i j : Int} {X Y : Nat} (h : Is m i X) (k : Is n j Y) : Is (m * n) (i + j) (X * Y) := by
  unfold Is at *
  have e1 : i.toNat + j.toNat + (-(i + j)).toNat = (-i).toNat + (-j).toNat + (i + j).toNat := by omega
  have hp := p2 (i.toNat + j.toNat + (-(i + j)).toNat)
  have h1 : m * n * 2 ^ (i + j).toNat * 2 ^ (i.toNat + j.toNat) = (m * 2 ^ i.toNat) * (n * 2 ^ j.toNat) * 2 ^ (i + j).toNat := by
    rw [Nat.pow_add 2 i.toNat]; ac_rfl
  have h2 : X * Y * 2 ^ (-(i + j)).toNat * 2 ^ (i.toNat + j.toNat) = (X * 2 ^ (-i).toNat) * (Y * 2 ^ (-j).toNat) * 2 ^ (i + j).toNat := by
    rw [Nat.mul_assoc (X * Y), ← Nat.pow_add, show (-(i + j)).toNat + (i.toNat + j.toNat) = (-i).toNat + (-j).toNat + (i + j).toNat by omega, Nat.pow_add, Nat.pow_add]; ac_rfl
  rw [h, k] at h1
  exact Nat.eq_of_mul_eq_mul_right (p2 (i.toNat + j.toNat)) (h1.trans h2.symm)

theorem cut_zero (way : Toward) (neg : Bool) (n : Nat) : way.cut neg n 0 = n := by
  unfold Toward.cut
  cases way <;> simp [Nat.mod_one]
theorem cut_exact (way : Toward) (neg : Bool) (X d : Nat) (hX : 0 < X) : way.cut neg (X * 2 ^ d) d = X := by
  unfold Toward.cut
  have hlog : d ≤ (X * 2 ^ d).log2 := by
    rw [Nat.le_log2 (by have := Nat.mul_pos hX (p2 d); omega)]
    exact Nat.le_mul_of_pos_left _ hX
  have hmin : min d ((X * 2 ^ d).log2 + 2) = d := Nat.min_eq_left (by omega)
  simp only [hmin, Nat.one_shiftLeft, Nat.mul_div_cancel _ (p2 d), Nat.mul_mod_left]
  have := p2 d
  cases way <;> simp <;> omega

theorem log2_mul_pow (X d : Nat) (hX : 0 < X) : (X * 2 ^ d).log2 = X.log2 + d := by
  have h0 : X * 2 ^ d ≠ 0 := by have := Nat.mul_pos hX (p2 d); omega
  rw [Nat.log2_eq_iff h0]
  have h1 := Nat.log2_self_le (n := X) (by omega)
  have h2 := Nat.lt_log2_self (n := X)
  constructor
  · rw [Nat.pow_add]; exact Nat.mul_le_mul_right _ h1
  · rw [show X.log2 + d + 1 = X.log2 + 1 + d by omega, Nat.pow_add]; exact Nat.mul_lt_mul_of_pos_right h2 (p2 d)

theorem word_read (neg : Bool) (kept : Nat) (last : Int) (h1 : 4503599627370496 ≤ kept) (h2 : kept < 9007199254740992) (h3 : -52 ≤ last) (h4 : last ≤ 1) :
    double.read (double.word neg (min ((last - double.leastPlace).toNat * double.binade + kept) double.infRung)) = .number neg kept last := by
  have b : double.binade = 4503599627370496 := rfl
  have l : double.leastPlace = -1074 := rfl
  have i : double.infRung = 9218868437227405312 := rfl
  have s : double.signWeight = 9223372036854775808 := rfl
  obtain ⟨L, hL⟩ : ∃ L : Nat, (L : Int) = last + 1074 := ⟨(last + 1074).toNat, by omega⟩
  have e1 : (last - double.leastPlace).toNat = L := by rw [l]; omega
  rw [e1, b, i]
  have e2 : min (L * 4503599627370496 + kept) 9218868437227405312 = L * 4503599627370496 + kept := Nat.min_eq_left (by omega)
  rw [e2]
  unfold Format.read Format.word
  rw [b, l, i, s]
  cases neg
  · simp only [Bool.false_eq_true, if_false]
    have a1 : (L * 4503599627370496 + kept) / 9223372036854775808 % 2 = 0 := by omega
    have a2 : (L * 4503599627370496 + kept) % 9223372036854775808 = L * 4503599627370496 + kept := by omega
    rw [a1, a2, if_neg (by omega), if_pos (by omega)]
    congr 1
    · omega
    · have : (L * 4503599627370496 + kept) / 4503599627370496 = L + 1 := by omega
      rw [this]; omega
  · simp only [if_true]
    have a1 : (9223372036854775808 + (L * 4503599627370496 + kept)) / 9223372036854775808 % 2 = 1 := by omega
    have a2 : (9223372036854775808 + (L * 4503599627370496 + kept)) % 9223372036854775808 = L * 4503599627370496 + kept := by omega
    rw [a1, a2, if_neg (by omega), if_pos (by omega)]
    congr 1
    · omega
    · have : (L * 4503599627370496 + kept) / 4503599627370496 = L + 1 := by omega
      rw [this]; omega

theorem zero_read (neg : Bool) : double.read (double.word neg 0) = .number neg 0 double.leastPlace := by cases neg <;> rfl

/-- What is written is read again. -/
theorem nearest_read {neg : Bool} {m : Nat} {e : Int} {N : Nat} (h : Is m e N) (hN : N ≤ 9007199254740992) : ∃ m' e', double.read (double.nearest neg m e) = .number neg m' e' ∧ Is m' e' N := by
  unfold Format.nearest
  rcases Nat.eq_zero_or_pos N with rfl | hpos
  · have := h.zero
    subst this
    rw [if_pos rfl, zero_read]
    exact ⟨0, _, rfl, by unfold Is; simp⟩
  · have hm := h.pos hpos
    rw [if_neg (by omega)]
    -- the place of the highest digit
    have hlog : e + m.log2 = (N.log2 : Int) := by
      unfold Is at h
      rcases Int.le_total 0 e with h0 | h0
      · rw [show (-e).toNat = 0 by omega, Nat.pow_zero, Nat.mul_one] at h
        have := log2_mul_pow m e.toNat hm
        rw [h] at this
        omega
      · rw [show e.toNat = 0 by omega, Nat.pow_zero, Nat.mul_one] at h
        have := log2_mul_pow N (-e).toNat hpos
        rw [← h] at this
        omega
    have hL : N.log2 ≤ 53 := by
      have h1 := Nat.log2_self_le (n := N) (by omega)
      rcases Nat.lt_or_ge 53 N.log2 with h2 | h2
      · have : 2 ^ 54 ≤ 2 ^ N.log2 := Nat.pow_le_pow_right (by decide) h2
        omega
      · exact h2
    obtain ⟨L, hLe⟩ : ∃ L, L = N.log2 := ⟨_, rfl⟩
    rw [← hLe] at hlog hL
    have hlast : max (e + m.log2 - (double.fractionBits : Nat)) double.leastPlace = (L : Int) - 52 := by
      rw [show (double.fractionBits : Nat) = 52 from rfl, show double.leastPlace = -1074 from rfl, hlog]
      omega
    simp only [hlast]
    -- what is kept
    obtain ⟨kept, hk⟩ : ∃ kept, kept = Toward.even.cut neg (m <<< (e - ((L : Int) - 52)).toNat) (((L : Int) - 52) - e).toNat := ⟨_, rfl⟩
    rw [← hk]
    have hlo := Nat.log2_self_le (n := N) (by omega)
    have hhi := Nat.lt_log2_self (n := N)
    rw [← hLe] at hlo hhi
    have hkept : Is kept ((L : Int) - 52) N := by
      rw [Nat.shiftLeft_eq] at hk
      rcases Int.le_total ((L : Int) - 52) e with h0 | h0
      · rw [show (((L : Int) - 52) - e).toNat = 0 by omega, cut_zero] at hk
        rw [hk]
        exact h.shift (by omega)
      · rw [show (e - ((L : Int) - 52)).toNat = 0 by omega, Nat.pow_zero, Nat.mul_one] at hk
        -- the number that is kept, found first
        obtain ⟨K, hK⟩ : ∃ K, Is K ((L : Int) - 52) N := by
          unfold Is
          rcases Nat.lt_or_ge 52 L with h1 | h1
          · have h53 : L = 53 := by omega
            subst h53
            have : N = 9007199254740992 := by have : 2 ^ 53 ≤ N := hlo; omega
            subst this
            exact ⟨4503599627370496, by decide⟩
          · exact ⟨N * 2 ^ (-((L : Int) - 52)).toNat, by rw [show ((L : Int) - 52).toNat = 0 by omega, Nat.pow_zero, Nat.mul_one]⟩
        have hK' : K * 2 ^ (((L : Int) - 52) - e).toNat = m := by
          have h1 := hK.shift (k := (((L : Int) - 52) - e).toNat) (f := e) (by omega)
          unfold Is at h h1
          exact Nat.eq_of_mul_eq_mul_right (p2 e.toNat) (h1.trans h.symm)
        rw [← hK', cut_exact _ _ _ _ (hK.pos hpos)] at hk
        rw [hk]; exact hK
    have hk1 : 4503599627370496 ≤ kept ∧ kept < 9007199254740992 := by
      unfold Is at hkept
      rcases Nat.lt_or_ge 52 L with h1 | h1
      · have h53 : L = 53 := by omega
        subst h53
        have : N = 9007199254740992 := by have : 2 ^ 53 ≤ N := hlo; omega
        subst this
        simp at hkept
        omega
      · rw [show ((L : Int) - 52).toNat = 0 by omega, Nat.pow_zero, Nat.mul_one, show (-((L : Int) - 52)).toNat = 52 - L by omega] at hkept
        have a := Nat.mul_le_mul_right (2 ^ (52 - L)) hlo
        have c := Nat.mul_lt_mul_of_pos_right hhi (p2 (52 - L))
        rw [← Nat.pow_add] at a c
        rw [show L + (52 - L) = 52 by omega] at a
        rw [show L + 1 + (52 - L) = 53 by omega] at c
        omega
    exact ⟨kept, _, word_read neg kept _ hk1.1 hk1.2 (by omega) (by omega), hkept⟩

theorem double_lt (d : Datum) : double.write d < 18446744073709551616 := double.write_lt d

/-- A datum that is a whole number. -/
def DI (d : Datum) (n : Int) : Prop := ∃ s m e, d = .number s m e ∧ Is m e n.natAbs ∧ (n < 0 → s = true) ∧ (0 < n → s = false)
theorem FI.datum {b : Nat} {n : Int} (h : FI b n) : DI (double.read b) n := h.2
theorem DI.write {d : Datum} {n : Int} (h : DI d n) (hn : n.natAbs ≤ 9007199254740992) : FI (double.write d) n := by
  obtain ⟨s, m, e, rfl, h1, h2, h3⟩ := h
  refine ⟨double_lt _, ?_⟩
  obtain ⟨m', e', h4, h5⟩ := nearest_read (neg := s) h1 hn
  exact ⟨s, m', e', h4, h5, h2, h3⟩
theorem FI_int (n : Int) (hn : n.natAbs ≤ 9007199254740992) : FI (floatOfInt .f64 n) n :=
  DI.write (d := .number (n < 0) n.natAbs 0) ⟨_, _, _, rfl, rfl, fun h => by simpa using h, fun h => by simp; omega⟩ hn

/-- The scaled value. -/
theorem DI.scaled {s : Bool} {m : Nat} {e : Int} {n : Int} (h1 : Is m e n.natAbs) (h2 : n < 0 → s = true) (h3 : 0 < n → s = false) {f : Int} (hf : f ≤ e) :
    signed s m (e - f).toNat * 2 ^ f.toNat = n * 2 ^ (-f).toNat := by
  have hs := h1.shift (k := (e - f).toNat) (f := f) (by omega)
  unfold Is at hs
  unfold signed
  rw [Nat.shiftLeft_eq]
  have hz : ((m * 2 ^ (e - f).toNat : Nat) : Int) * 2 ^ f.toNat = (n.natAbs : Int) * 2 ^ (-f).toNat := by exact_mod_cast hs
  rcases Int.lt_trichotomy n 0 with h | h | h
  · rw [h2 h, if_pos rfl, Int.neg_mul, hz, ← Int.neg_mul, show -(n.natAbs : Int) = n by omega]
  · subst h
    have := h1.zero
    subst this
    simp
  · rw [h3 h, if_neg (by simp), hz, show (n.natAbs : Int) = n by omega]
theorem p2i (k : Nat) : (0 : Int) < 2 ^ k := Int.pow_pos (by decide)
theorem DI.sum {d d' : Datum} {x y : Int} (h : DI d x) (k : DI d' y) : ∃ r, d.sum d' = some r ∧ DI r (x + y) := by
  obtain ⟨s, m, i, rfl, h1, h2, h3⟩ := h
  obtain ⟨t, n, j, rfl, k1, k2, k3⟩ := k
  refine ⟨_, rfl, _, _, _, rfl, ?_, ?_, ?_⟩
  all_goals
    have a := DI.scaled h1 h2 h3 (f := min i j) (by omega)
    have b := DI.scaled k1 k2 k3 (f := min i j) (by omega)
    obtain ⟨T, hT⟩ : ∃ T : Int, T = signed s m (i - min i j).toNat + signed t n (j - min i j).toNat := ⟨_, rfl⟩
    have c : T * 2 ^ (min i j).toNat = (x + y) * 2 ^ (-(min i j)).toNat := by rw [hT, Int.add_mul, a, b, Int.add_mul]
    have q1 := p2i (min i j).toNat
    have q2 := p2i (-(min i j)).toNat
  · rw [← hT]
    unfold Is
    have := congrArg Int.natAbs c
    rw [Int.natAbs_mul, Int.natAbs_mul, Int.natAbs_pow, Int.natAbs_pow] at this
    exact this
  · intro hneg
    rw [← hT]
    have : T < 0 := by
      rcases Int.lt_or_le T 0 with h | h
      · exact h
      · have e1 := Int.mul_nonneg h (Int.le_of_lt q1)
        have e2 := Int.mul_neg_of_neg_of_pos hneg q2
        omega
    rw [if_neg (by omega)]; simpa using this
  · intro hp
    rw [← hT]
    have : 0 < T := by
      rcases Int.lt_or_le 0 T with h | h
      · exact h
      · have e1 := Int.mul_nonpos_of_nonpos_of_nonneg h (Int.le_of_lt q1)
        have e2 := Int.mul_pos hp q2
        omega
    rw [if_neg (by omega)]; simp; omega
theorem DI.opposite {d : Datum} {x : Int} (h : DI d x) : DI d.opposite (-x) := by
  obtain ⟨s, m, i, rfl, h1, h2, h3⟩ := h
  exact ⟨!s, m, i, rfl, by rw [Int.natAbs_neg]; exact h1, fun h => by rw [h3 (by omega)]; rfl, fun h => by rw [h2 (by omega)]; rfl⟩
theorem DI.product {d d' : Datum} {x y : Int} (h : DI d x) (k : DI d' y) : ∃ r, d.product d' = some r ∧ DI r (x * y) := by
  obtain ⟨s, m, i, rfl, h1, h2, h3⟩ := h
  obtain ⟨t, n, j, rfl, k1, k2, k3⟩ := k
  refine ⟨_, rfl, _, _, _, rfl, by rw [Int.natAbs_mul]; exact h1.mul k1, ?_, ?_⟩
  · intro hneg
    rcases Int.lt_trichotomy x 0 with hx | hx | hx
    · rcases Int.lt_trichotomy y 0 with hy | hy | hy
      · have := Int.mul_pos_of_neg_of_neg hx hy; omega
      · subst hy; simp at hneg
      · rw [h2 hx, k3 hy]; rfl
    · subst hx; simp at hneg
    · rcases Int.lt_trichotomy y 0 with hy | hy | hy
      · rw [h3 hx, k2 hy]; rfl
      · subst hy; simp at hneg
      · have := Int.mul_pos hx hy; omega
  · intro hpos
    rcases Int.lt_trichotomy x 0 with hx | hx | hx
    · rcases Int.lt_trichotomy y 0 with hy | hy | hy
      · rw [h2 hx, k2 hy]; rfl
      · subst hy; simp at hpos
      · have := Int.mul_neg_of_neg_of_pos hx hy; omega
    · subst hx; simp at hpos
    · rcases Int.lt_trichotomy y 0 with hy | hy | hy
      · have := Int.mul_neg_of_pos_of_neg hx hy; omega
      · subst hy; simp at hpos
      · rw [h3 hx, k3 hy]; rfl
theorem DI.order {d d' : Datum} {x y : Int} (h : DI d x) (k : DI d' y) : d.order d' = some (compare x y) := by
  obtain ⟨s, m, i, rfl, h1, h2, h3⟩ := h
  obtain ⟨t, n, j, rfl, k1, k2, k3⟩ := k
  have a := DI.scaled h1 h2 h3 (f := min i j) (by omega)
  have b := DI.scaled k1 k2 k3 (f := min i j) (by omega)
  show some (compare (signed s m (i - min i j).toNat) (signed t n (j - min i j).toNat)) = _
  have q1 := p2i (min i j).toNat
  have q2 := p2i (-(min i j)).toNat
  obtain ⟨U, hU⟩ : ∃ U, U = signed s m (i - min i j).toNat := ⟨_, rfl⟩
  obtain ⟨V, hV⟩ : ∃ V, V = signed t n (j - min i j).toNat := ⟨_, rfl⟩
  rw [← hU] at a ⊢
  rw [← hV] at b ⊢
  congr 1
  have key : ∀ {u v x y : Int}, u * 2 ^ (min i j).toNat = x * 2 ^ (-(min i j)).toNat → v * 2 ^ (min i j).toNat = y * 2 ^ (-(min i j)).toNat → x < y → u < v := by
    intro u v x y e1 e2 hxy
    have := Int.mul_lt_mul_of_pos_right hxy q2
    rw [← e1, ← e2] at this
    exact Int.lt_of_mul_lt_mul_right this (Int.le_of_lt q1)
  rcases Int.lt_trichotomy x y with hh | hh | hh
  · rw [Int.compare_eq_lt.2 hh, Int.compare_eq_lt.2 (key a b hh)]
  · subst hh
    have : U = V := Int.eq_of_mul_eq_mul_right (by omega) (a.trans b.symm)
    rw [this, Int.compare_eq_eq.2 rfl, Int.compare_eq_eq.2 rfl]
  · rw [Int.compare_eq_gt.2 hh, Int.compare_eq_gt.2 (key b a hh)]
theorem DI.toInt {d : Datum} {x : Int} (h : DI d x) : d.toInt .zero = some x := by
  obtain ⟨s, m, i, rfl, h1, h2, h3⟩ := h
  have hc : Toward.zero.cut s (m <<< i.toNat) (-i).toNat = x.natAbs := by
    rw [Nat.shiftLeft_eq]
    have := h1
    unfold Is at this
    rw [this]
    rcases Nat.eq_zero_or_pos x.natAbs with h0 | h0
    · rw [h0, Nat.zero_mul]
      unfold Toward.cut
      simp
    · exact cut_exact _ _ _ _ h0
  show some (signed s (Toward.zero.cut s (m <<< i.toNat) (-i).toNat) 0) = _
  rw [hc]
  unfold signed
  congr 1
  rcases Int.lt_trichotomy x 0 with hx | hx | hx
  · rw [h2 hx, if_pos rfl, Nat.shiftLeft_zero]; omega
  · subst hx; simp
  · rw [h3 hx, if_neg (by simp), Nat.shiftLeft_zero]; omega

theorem FI.add {a b : Nat} {x y : Int} (h : FI a x) (k : FI b y) (hb : (x + y).natAbs ≤ 9007199254740992) : ∃ r, floatBits .add .f64 a b = some r ∧ FI r (x + y) := by
  obtain ⟨r, h1, h2⟩ := h.datum.sum k.datum
  exact ⟨double.write r, by show ((double.read a).sum (double.read b)).map double.write = _; rw [h1]; rfl, h2.write hb⟩
theorem FI.sub {a b : Nat} {x y : Int} (h : FI a x) (k : FI b y) (hb : (x - y).natAbs ≤ 9007199254740992) : ∃ r, floatBits .sub .f64 a b = some r ∧ FI r (x - y) := by
  obtain ⟨r, h1, h2⟩ := h.datum.sum k.datum.opposite
  exact ⟨double.write r, by show ((double.read a).sum (double.read b).opposite).map double.write = _; rw [h1]; rfl, by rw [Int.sub_eq_add_neg] at hb ⊢; exact h2.write hb⟩
theorem FI.mul {a b : Nat} {x y : Int} (h : FI a x) (k : FI b y) (hb : (x * y).natAbs ≤ 9007199254740992) : ∃ r, floatBits .mul .f64 a b = some r ∧ FI r (x * y) := by
  obtain ⟨r, h1, h2⟩ := h.datum.product k.datum
  exact ⟨double.write r, by show ((double.read a).product (double.read b)).map double.write = _; rw [h1]; rfl, h2.write hb⟩
theorem FI.order {a b : Nat} {x y : Int} (h : FI a x) (k : FI b y) : FloatKind.f64.format.order a b = some (compare x y) := h.datum.order k.datum
theorem FI.toInt {a : Nat} {x : Int} (h : FI a x) (h1 : -9223372036854775808 ≤ x) (h2 : x ≤ 9223372036854775807) : floatToIntVal .f64 a .i64 = some x := by
  unfold floatToIntVal
  rw [show (FloatKind.f64.decode a).toInt .zero = some x from h.datum.toInt]
  simp only
  rw [if_pos]
  simp [IntKind.min, IntKind.max, IntKind.signed, IntKind.bits]
  omega
theorem FI.neg {a : Nat} {x : Int} (h : FI a x) : FI (Op.negFloat .f64 a) (-x) := by
  obtain ⟨h0, s, m, e, h1, h2, h3, h4⟩ := h
  have hm : (a ^^^ 2 ^ 63) % 2 ^ 63 = a % 2 ^ 63 := by rw [Nat.xor_mod_two_pow]; simp
  have hd : (a ^^^ 2 ^ 63) / 2 ^ 63 = (a / 2 ^ 63) ^^^ 1 := by
    have := Nat.shiftRight_xor_distrib (a := a) (b := 2 ^ 63) (i := 63)
    rw [Nat.shiftRight_eq_div_pow, Nat.shiftRight_eq_div_pow, Nat.shiftRight_eq_div_pow] at this
    simpa using this
  have hq : a / 2 ^ 63 = 0 ∨ a / 2 ^ 63 = 1 := by omega
  have hr : double.read (a ^^^ 2 ^ 63) = (double.read a).opposite := by
    unfold Format.read
    rw [show double.signWeight = 2 ^ 63 from rfl, hm, hd]
    rcases hq with hq | hq <;> rw [hq] <;> (simp only []; split; rfl; split; rfl; split <;> rfl)
  refine ⟨?_, !s, m, e, ?_, by rw [Int.natAbs_neg]; exact h2, fun h => by rw [h4 (by omega)]; rfl, fun h => by rw [h3 (by omega)]; rfl⟩
  · show a ^^^ 2 ^ 63 < 2 ^ 64
    exact Nat.xor_lt_two_pow h0 (by decide)
  · show double.read (a ^^^ 2 ^ 63) = _
    rw [hr, h1]; rfl
theorem FI.wf {a : Nat} {x : Int} (h : FI a x) : (Lit.float .f64 a).wf = true := wf_of_lt .f64 a h.1
end Go.Proofs.Ytkjfbjgcfkmhkaa
