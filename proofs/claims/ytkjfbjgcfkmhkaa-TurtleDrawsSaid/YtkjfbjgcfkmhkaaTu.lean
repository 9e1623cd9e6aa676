/- The turtle: what it is, what a pair of numbers does, how it lies in memory. -/
import Derived.Test.YtkjfbjgcfkmhkaaMem0
import Derived.Test.YtkjfbjgcfkmhkaaLib
import Derived.Test.YtkjfbjgcfkmhkaaReg
import Derived.Test.YtkjfbjgcfkmhkaaFlt
import Derived.Test.YtkjfbjgcfkmhkaaDec
namespace Go.Proofs.Ytkjfbjgcfkmhkaa
open Go.RowKit
set_option linter.unusedVariables false

structure Sk where
  x : Int
  y : Int
  u : Int
  v : Int
structure St where
  x : Int
  y : Int
  dx : Int
  dy : Int
  step : Int
  down : Bool
  l : List Sk

def most : Int := 1099511627776
def farB (n : Int) : Bool := decide (1099511627776 < n) || decide (n < -1099511627776)
def st0 : St := ⟨0, 0, 1, 0, 1, true, []⟩
def moveT (s : St) (x y : Int) : St × Int :=
  if farB x || farB y then (s, 90)
  else ({ s with x := x, y := y, l := if s.down && (decide (x ≠ s.x) || decide (y ≠ s.y)) then s.l ++ [⟨s.x, s.y, x, y⟩] else s.l }, 0)
def turn (s : St) : St := { s with dx := -s.dy, dy := s.dx }
def turnN (s : St) : Nat → St
  | 0 => s
  | k + 1 => turn (turnN s k)
def doT (s : St) (what much : Int) : St × Int :=
  if what < 1 ∨ 5 < what then (s, 110)
  else if much < -1000000 ∨ 1000000 < much then (s, 90)
  else if what = 1 then moveT s (s.x + s.dx * much * s.step) (s.y + s.dy * much * s.step)
  else if what = 2 then (turnN s (much % 4).toNat, 0)
  else if what = 3 then ({ s with down := decide (much ≠ 0) }, 0)
  else if what = 4 then ({ (moveT s 0 0).1 with dx := 1, dy := 0 }, 0)
  else ({ s with step := much }, 0)

/-- Within its limits. -/
structure Bd (s : St) : Prop where
  x : -1099511627776 ≤ s.x ∧ s.x ≤ 1099511627776
  y : -1099511627776 ≤ s.y ∧ s.y ≤ 1099511627776
  step : -1000000 ≤ s.step ∧ s.step ≤ 1000000
  look : (s.dx = 1 ∧ s.dy = 0) ∨ (s.dx = 0 ∧ s.dy = 1) ∨ (s.dx = -1 ∧ s.dy = 0) ∨ (s.dx = 0 ∧ s.dy = -1)
  l : ∀ k ∈ s.l, (-1099511627776 ≤ k.x ∧ k.x ≤ 1099511627776) ∧ (-1099511627776 ≤ k.y ∧ k.y ≤ 1099511627776) ∧ (-1099511627776 ≤ k.u ∧ k.u ≤ 1099511627776) ∧ (-1099511627776 ≤ k.v ∧ k.v ≤ 1099511627776)
theorem Bd.st0 : Bd st0 := ⟨by decide, by decide, by decide, .inl ⟨rfl, rfl⟩, fun k h => by simp [Ytkjfbjgcfkmhkaa.st0] at h⟩
theorem farB_iff {n : Int} : farB n = false ↔ -1099511627776 ≤ n ∧ n ≤ 1099511627776 := by
  unfold farB; simp; omega
theorem Bd.move {s : St} (h : Bd s) (x y : Int) : Bd (moveT s x y).1 := by
  unfold moveT
  cases hf : farB x || farB y with
  | true => rw [if_pos rfl]; exact h
  | false =>
    rw [if_neg (by simp)]
    rw [Bool.or_eq_false_iff, farB_iff, farB_iff] at hf
    refine ⟨hf.1, hf.2, h.step, h.look, fun k hk => ?_⟩
    simp only at hk
    split at hk
    · rcases List.mem_append.1 hk with hk | hk
      · exact h.l k hk
      · simp at hk; subst hk; exact ⟨h.x, h.y, hf.1, hf.2⟩
    · exact h.l k hk
theorem Bd.turn {s : St} (h : Bd s) : Bd (turn s) := by
  refine ⟨h.x, h.y, h.step, ?_, h.l⟩
  unfold Ytkjfbjgcfkmhkaa.turn
  have := h.look
  simp only
  omega
theorem Bd.turnN {s : St} (h : Bd s) : ∀ k, Bd (turnN s k)
  | 0 => h
  | k + 1 => (Bd.turnN h k).turn
theorem Bd.doT {s : St} (h : Bd s) (what much : Int) : Bd (doT s what much).1 := by
  unfold Ytkjfbjgcfkmhkaa.doT
  split
  · exact h
  split
  · exact h
  split
  · exact h.move _ _
  split
  · exact h.turnN _
  split
  · exact ⟨h.x, h.y, h.step, h.look, h.l⟩
  split
  · have := h.move 0 0
    exact ⟨this.x, this.y, this.step, .inl ⟨rfl, rfl⟩, this.l⟩
  · exact ⟨h.x, h.y, by simp only; omega, h.look, h.l⟩
theorem moveT_len (s : St) (x y : Int) : (moveT s x y).1.l.length ≤ s.l.length + 1 := by
  unfold moveT
  split
  · simp
  · simp only; split <;> simp
theorem turnN_l (s : St) : ∀ k, (turnN s k).l = s.l
  | 0 => rfl
  | k + 1 => turnN_l s k
theorem doT_len (s : St) (what much : Int) : (doT s what much).1.l.length ≤ s.l.length + 1 := by
  unfold Ytkjfbjgcfkmhkaa.doT
  split
  · simp
  split
  · simp
  split
  · exact moveT_len _ _ _
  split
  · rw [turnN_l]; omega
  split
  · simp
  split
  · exact moveT_len s 0 0
  · simp

/-! ### In memory -/
/-- A complex word. -/
abbrev cpx (a b : Nat) : Value := .complex .f64 a b
def CI (v : Value) (x y : Int) : Prop := ∃ a b, v = cpx a b ∧ FI a x ∧ FI b y
def SC (cs : List Value) (l : List Sk) : Prop := ∀ i k, l[i]? = some k → ∃ u v, cs[i * 2]? = some u ∧ cs[i * 2 + 1]? = some v ∧ CI u k.x k.y ∧ CI v k.u k.v
structure TuV (F : List Nat) (w : World) (p : Nat) (s : St) (a b c d e : Nat) (sv : Value) (cs : List Value) : Prop where
  blk : w.heap[p]? = some (.cells #[cpx a b, cpx c d, .float .f64 e, .bool s.down, sv] 51 (0, 0))
  fa : FI a s.x
  fb : FI b s.y
  fc : FI c s.dx
  fd : FI d s.dy
  fe : FI e s.step
  ow : w.ownsRow 0 68 2 sv s.l.length cs
  sc : SC cs s.l
  ft : F = p :: sv.ownBlock.toList
  np : sv.ownBlock ≠ some p
  bd : Bd s
def Tu (F : List Nat) (w : World) (p : Nat) (s : St) : Prop := ∃ a b c d e sv cs, TuV F w p s a b c d e sv cs
def ESk (w : World) (b o : Nat) (k : Sk) : Prop := cel w b o (.int .i64 k.x) ∧ cel w b (o + 1) (.int .i64 k.y) ∧ cel w b (o + 2) (.int .i64 k.u) ∧ cel w b (o + 3) (.int .i64 k.v)
def SkR (F : List Nat) (w : World) (v : Value) (l : List Sk) : Prop := Sl (Good F w) 4 (ESk w) v l
def refV (s : St) (lv : Value) : Value := .agg #[.int .i64 s.x, .int .i64 s.y, .int .i64 s.dx, .int .i64 s.dy, .int .i64 s.step, .bool s.down, lv]
theorem SkR.keep {F F' : List Nat} {w w' : World} {v : Value} {l : List Sk} (h : SkR F w v l) (hf : Fr F w F' w') : SkR F' w' v l :=
  Sl.imp h (fun _ => hf.good) fun _ _ _ hb he => ⟨he.1.keep hf hb, he.2.1.keep hf hb, he.2.2.1.keep hf hb, he.2.2.2.keep hf hb⟩
theorem TuV.plt {F : List Nat} {w : World} {p : Nat} {s : St} {a b c d e : Nat} {sv : Value} {cs : List Value} (h : TuV F w p s a b c d e sv cs) : p < w.heap.size := (Array.getElem?_eq_some_iff.1 h.blk).1
theorem TuV.lt {F : List Nat} {w : World} {p : Nat} {s : St} {a b c d e : Nat} {sv : Value} {cs : List Value} (h : TuV F w p s a b c d e sv cs) : ∀ q ∈ F, q < w.heap.size := fun q hq => by
  rw [h.ft] at hq
  rcases List.mem_cons.1 hq with rfl | hq
  · exact h.plt
  · exact ownsRow_lt h.ow (by simpa using hq)
theorem TuV.below {F : List Nat} {w w' : World} {p : Nat} {s : St} {a b c d e : Nat} {sv : Value} {cs : List Value} (h : TuV F w p s a b c d e sv cs) (hB : Below w.heap.size w w') : TuV F w' p s a b c d e sv cs :=
  ⟨(hB.block _ h.plt).trans h.blk, h.fa, h.fb, h.fc, h.fd, h.fe, ownsRow_same h.ow fun b hb => hB.block b (ownsRow_lt h.ow hb), h.sc, h.ft, h.np, h.bd⟩
theorem Tu.below {F : List Nat} {w w' : World} {p : Nat} {s : St} (h : Tu F w p s) (hB : Below w.heap.size w w') : Tu F w' p s := by
  obtain ⟨a, b, c, d, e, sv, cs, h⟩ := h
  exact ⟨a, b, c, d, e, sv, cs, h.below hB⟩
theorem Tu.lt {F : List Nat} {w : World} {p : Nat} {s : St} (h : Tu F w p s) : ∀ q ∈ F, q < w.heap.size := by
  obtain ⟨a, b, c, d, e, sv, cs, h⟩ := h
  exact h.lt
theorem cells5 {w : World} {g : Nat} {t : TypeId} {c0 c1 c2 c3 c4 : Value} (hg : w.heap[g]? = some (.cells #[c0, c1, c2, c3, c4] t (0, 0))) :
    (cel w g 0 c0 ∧ cel w g 1 c1 ∧ cel w g 2 c2 ∧ cel w g 3 c3 ∧ cel w g 4 c4) ∧ ∀ i, w.frozen? ⟨g, i, none⟩ = false := by
  refine ⟨⟨?_, ?_, ?_, ?_, ?_⟩, fun i => frozen_of_row w g i _ _ hg⟩ <;> (rw [cel, cell_of_row w g _ _ _ _ hg]; rfl)
theorem cells7 {w : World} {g : Nat} {t : TypeId} {c0 c1 c2 c3 c4 c5 c6 : Value} (hg : w.heap[g]? = some (.cells #[c0, c1, c2, c3, c4, c5, c6] t (0, 0))) :
    (cel w g 0 c0 ∧ cel w g 1 c1 ∧ cel w g 2 c2 ∧ cel w g 3 c3 ∧ cel w g 4 c4 ∧ cel w g 5 c5 ∧ cel w g 6 c6) ∧ ∀ i, w.frozen? ⟨g, i, none⟩ = false := by
  refine ⟨⟨?_, ?_, ?_, ?_, ?_, ?_, ?_⟩, fun i => frozen_of_row w g i _ _ hg⟩ <;> (rw [cel, cell_of_row w g _ _ _ _ hg]; rfl)

/-! ### Words of the program's numbers -/
theorem FI_zero : FI 0 0 := ⟨by decide, false, 0, -1074, by decide, by unfold Is; rw [Nat.zero_mul, Int.natAbs_zero, Nat.zero_mul], by decide, by decide⟩
theorem FI_one : FI 4607182418800017408 1 := ⟨by decide, false, 4503599627370496, -52, by decide, by unfold Is; decide, by decide, by decide⟩
theorem FI_most : FI 4787326403894837248 1099511627776 := ⟨by decide, false, 4503599627370496, -12, by decide, by unfold Is; decide, by decide, by decide⟩
theorem max_float {P : Program} {a b : Nat} {x y : Int} (h : FI a x) (k : FI b y) : ∃ m, FI m (max x y) ∧ ∀ (ts : Array TypeId) (t : TypeId) (w : World), (Builtin.max_ ts t #[.float .f64 a, .float .f64 b]).run P w = .ok (.float .f64 m) w := by
  have ho := h.order k
  rcases Int.lt_trichotomy x y with hh | hh | hh
  · refine ⟨b, by rw [Int.max_eq_right (by omega)]; exact k, fun ts t w => ?_⟩
    rw [Int.compare_eq_lt.2 hh] at ho
    simp [Builtin.max_, Builtin.max2, ho]
  · subst hh
    rw [Int.compare_eq_eq.2 rfl] at ho
    refine ⟨if (FloatKind.f64.decode a).neg then b else a, by rw [Int.max_self]; split; exact k; exact h, fun ts t w => ?_⟩
    simp [Builtin.max_, Builtin.max2, ho]
  · refine ⟨a, by rw [Int.max_eq_left (by omega)]; exact h, fun ts t w => ?_⟩
    rw [Int.compare_eq_gt.2 hh] at ho
    simp [Builtin.max_, Builtin.max2, ho]
theorem min_float {P : Program} {a b : Nat} {x y : Int} (h : FI a x) (k : FI b y) : ∃ m, FI m (min x y) ∧ ∀ (ts : Array TypeId) (t : TypeId) (w : World), (Builtin.min_ ts t #[.float .f64 a, .float .f64 b]).run P w = .ok (.float .f64 m) w := by
  have ho := h.order k
  rcases Int.lt_trichotomy x y with hh | hh | hh
  · refine ⟨a, by rw [Int.min_eq_left (by omega)]; exact h, fun ts t w => ?_⟩
    rw [Int.compare_eq_lt.2 hh] at ho
    simp [Builtin.min_, Builtin.min2, ho]
  · subst hh
    rw [Int.compare_eq_eq.2 rfl] at ho
    refine ⟨if (FloatKind.f64.decode a).neg then a else b, by rw [Int.min_self]; split; exact h; exact k, fun ts t w => ?_⟩
    simp [Builtin.min_, Builtin.min2, ho]
  · refine ⟨b, by rw [Int.min_eq_right (by omega)]; exact k, fun ts t w => ?_⟩
    rw [Int.compare_eq_gt.2 hh] at ho
    simp [Builtin.min_, Builtin.min2, ho]
theorem FI.gt {a b : Nat} {x y : Int} (h : FI a x) (k : FI b y) : (FloatKind.f64.format.order a b == some .gt) = decide (y < x) := by
  rw [h.order k]
  rcases Int.lt_trichotomy x y with hh | hh | hh
  · rw [Int.compare_eq_lt.2 hh, decide_eq_false (by omega)]; rfl
  · rw [Int.compare_eq_eq.2 hh, decide_eq_false (by omega)]; rfl
  · rw [Int.compare_eq_gt.2 hh, decide_eq_true hh]; rfl
theorem FI.eq {a b : Nat} {x y : Int} (h : FI a x) (k : FI b y) : (FloatKind.f64.format.order a b == some .eq) = decide (x = y) := by
  rw [h.order k]
  rcases Int.lt_trichotomy x y with hh | hh | hh
  · rw [Int.compare_eq_lt.2 hh, decide_eq_false (by omega)]; rfl
  · rw [Int.compare_eq_eq.2 hh, decide_eq_true hh]; rfl
  · rw [Int.compare_eq_gt.2 hh, decide_eq_false (by omega)]; rfl
end Go.Proofs.Ytkjfbjgcfkmhkaa
