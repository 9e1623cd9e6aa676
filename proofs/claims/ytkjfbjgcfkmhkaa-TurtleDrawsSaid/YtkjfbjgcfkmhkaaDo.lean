import Derived.Test.YtkjfbjgcfkmhkaaPrg
import Derived.StillTailTactics
namespace Go.Proofs.Ytkjfbjgcfkmhkaa
open Go.RowKit
set_option linter.unusedVariables false

theorem TuV.put {F : List Nat} {w : World} {p : Nat} {s s' : St} {a b c d e a' b' c' d' e' : Nat} {sv : Value} {cs : List Value} (h : TuV F w p s a b c d e sv cs) (i : Nat) (v : Value)
    (hc : (#[cpx a b, cpx c d, .float .f64 e, .bool s.down, sv] : Array Value).setIfInBounds i v = #[cpx a' b', cpx c' d', .float .f64 e', .bool s'.down, sv])
    (ha : FI a' s'.x) (hb : FI b' s'.y) (hcc : FI c' s'.dx) (hd : FI d' s'.dy) (he : FI e' s'.step) (hl : s'.l = s.l) (hbd : Bd s') :
    Fr F w F (w.setCell ⟨p, i, none⟩ v) ∧ TuV F (w.setCell ⟨p, i, none⟩ v) p s' a' b' c' d' e' sv cs := by
  have hk : ∀ q, q ≠ p → (w.setCell ⟨p, i, none⟩ v).heap[q]? = w.heap[q]? := fun q hq => Below.heap_setCell _ _ _ _ (fun e => hq e)
  refine ⟨⟨rfl, rfl, rfl, by simp, fun q hq hn => hk q (fun e => hn (by rw [h.ft, e]; simp)), fun q hq => .inl hq⟩, ?_⟩
  refine ⟨?_, ha, hb, hcc, hd, he, by rw [hl]; exact ownsRow_same h.ow fun q hq => hk q (fun e => h.np (e ▸ hq)), by rw [hl]; exact h.sc, h.ft, h.np, hbd⟩
  rw [heap_setCell_same w p i _ 51 v h.blk, hc]

theorem cmul_FI {a b c d : Nat} {x y u v : Int} (ha : FI a x) (hb : FI b y) (hc : FI c u) (hd : FI d v) (h1 : (x * u).natAbs ≤ 9007199254740992) (h2 : (y * v).natAbs ≤ 9007199254740992) (h3 : (x * u - y * v).natAbs ≤ 9007199254740992)
    (h4 : (x * v).natAbs ≤ 9007199254740992) (h5 : (y * u).natAbs ≤ 9007199254740992) (h6 : (x * v + y * u).natAbs ≤ 9007199254740992) : ∃ re im, cMulBits a b c d = some (re, im) ∧ FI re (x * u - y * v) ∧ FI im (x * v + y * u) := by
  obtain ⟨ac, e1, f1⟩ := ha.mul hc h1
  obtain ⟨bd, e2, f2⟩ := hb.mul hd h2
  obtain ⟨re, e3, f3⟩ := f1.sub f2 h3
  obtain ⟨ad, e4, f4⟩ := ha.mul hd h4
  obtain ⟨bc, e5, f5⟩ := hb.mul hc h5
  obtain ⟨im, e6, f6⟩ := f4.add f5 h6
  refine ⟨re, im, ?_, f3, f6⟩
  unfold cMulBits
  simp only [e1, e2, e3, e4, e5, e6, Option.bind_some]
theorem cadd_FI {a b c d : Nat} {x y u v : Int} (ha : FI a x) (hb : FI b y) (hc : FI c u) (hd : FI d v) (h1 : (x + u).natAbs ≤ 9007199254740992) (h2 : (y + v).natAbs ≤ 9007199254740992) :
    ∃ re im, cSumBits .add .f64 a b c d = some (re, im) ∧ FI re (x + u) ∧ FI im (y + v) := by
  obtain ⟨re, e1, f1⟩ := ha.add hc h1
  obtain ⟨im, e2, f2⟩ := hb.add hd h2
  refine ⟨re, im, ?_, f1, f2⟩
  unfold cSumBits
  simp only [e1, e2, Option.bind_some]
/-- A quarter to the left. -/
theorem turn_FI {c d : Nat} {x y : Int} (hc : FI c x) (hd : FI d y) (h : (x = 1 ∧ y = 0) ∨ (x = 0 ∧ y = 1) ∨ (x = -1 ∧ y = 0) ∨ (x = 0 ∧ y = -1)) :
    ∃ re im, cMulBits c d 0 4607182418800017408 = some (re, im) ∧ FI re (-y) ∧ FI im x := by
  obtain ⟨re, im, h1, h2, h3⟩ := cmul_FI hc hd FI_zero FI_one (by omega) (by omega) (by omega) (by omega) (by omega) (by omega)
  refine ⟨re, im, h1, ?_, ?_⟩
  · rw [show -y = x * 0 - y * 1 by omega]; exact h2
  · rw [show x = x * 1 + y * 0 by omega]; exact h3
theorem go_FI {a b c d e : Nat} {s : St} {m : Int} (h : Bd s) (ha : FI a s.x) (hb : FI b s.y) (hc : FI c s.dx) (hd : FI d s.dy) (he : FI e s.step) (h0 : -1000000 ≤ m) (h1 : m ≤ 1000000) :
    ∃ k re im u v, floatBits .mul .f64 (floatOfInt .f64 m) e = some k ∧ cMulBits c d k 0 = some (re, im) ∧ cSumBits .add .f64 a b re im = some (u, v) ∧ FI u (s.x + s.dx * m * s.step) ∧ FI v (s.y + s.dy * m * s.step) := by
  have hms : -1000000000000 ≤ m * s.step ∧ m * s.step ≤ 1000000000000 := by
    have h2 := h.step
    have a1 : (m * s.step).natAbs ≤ 1000000 * 1000000 := by rw [Int.natAbs_mul]; exact Nat.mul_le_mul (by omega) (by omega)
    omega
  obtain ⟨k, e1, f1⟩ := (FI_int m (by omega)).mul he (by omega)
  have hlk := h.look
  have p1 : s.dx * (m * s.step) = 0 ∨ s.dx * (m * s.step) = m * s.step ∨ s.dx * (m * s.step) = -(m * s.step) := by
    rcases hlk with h | h | h | h <;> rw [h.1] <;> simp
  have p2 : s.dy * (m * s.step) = 0 ∨ s.dy * (m * s.step) = m * s.step ∨ s.dy * (m * s.step) = -(m * s.step) := by
    rcases hlk with h | h | h | h <;> rw [h.2] <;> simp
  obtain ⟨re, im, e2, f2, f3⟩ := cmul_FI hc hd f1 FI_zero (by omega) (by omega) (by omega) (by omega) (by omega) (by omega)
  have q1 : s.dx * (m * s.step) - s.dy * 0 = s.dx * m * s.step := by rw [Int.mul_assoc]; omega
  have q2 : s.dx * 0 + s.dy * (m * s.step) = s.dy * m * s.step := by rw [Int.mul_assoc]; omega
  have hx := h.x
  have hy := h.y
  rw [q1] at f2
  rw [q2] at f3
  rw [← Int.mul_assoc] at p1 p2
  obtain ⟨u, v, e3, f4, f5⟩ := cadd_FI ha hb f2 f3 (by omega) (by omega)
  exact ⟨k, re, im, u, v, e1, e2, e3, f4, f5⟩


def DoPost (F : List Nat) (w : World) (p : Nat) (q : St × Int) (e : Ending) (w' : World) : Prop := e = .returned (.int .i64 q.2) ∧ ∃ F', Fr F w F' w' ∧ Tu F' w' p q.1

set_option maxHeartbeats 1000000 in
theorem f12_go {F : List Nat} {w : World} {p : Nat} {s : St} (much : Int) (h : Tu F w p s) (hl : s.l.length ≤ 1000000) (h0 : -1000000 ≤ much) (h1 : much ≤ 1000000) :
    Calls Try.prog 12 #[.pointer (some ⟨p, 0, none⟩), .int .i32 1, .int .i32 much] w (DoPost F w p (moveT s (s.x + s.dx * much * s.step) (s.y + s.dy * much * s.step))) := by
  have hT := h
  obtain ⟨a, b, c, d, e, sv, cs, h⟩ := h
  obtain ⟨⟨c0, c1, c2, c3, c4⟩, cf⟩ := cells5 h.blk
  obtain ⟨k, re, im, u, v, e1, e2, e3, f4, f5⟩ := go_FI h.bd h.fa h.fb h.fc h.fd h.fe h0 h1
  have x1 := fun (t : TypeId) (w : World) => run_float_arith (P := Try.prog) w .mul t .f64 _ _ _ e1
  have x2 := fun (t : TypeId) (w : World) => run_complex_mul (P := Try.prog) w t _ _ _ _ _ _ e2
  have x3 := fun (t : TypeId) (w : World) => run_complex_sum (P := Try.prog) w .add (.inl rfl) t .f64 _ _ _ _ _ _ e3
  have HC := Lib.hid (f27_any (hT.below (w' := w.drew) (Below.refl _ _).drew) hl f4 f5)
  clear e1 e2 e3 h c3 c4 cf
  go_enter Try.func12, Try.ntmps12
  go_wp2_with fail
  go_still_tail 19, (by kernel_rfl)
  change wpList _ _ _ _ _ w.drew
  obtain ⟨w2, hw2⟩ : ∃ w2, w2 = w.drew := ⟨_, rfl⟩
  rw [← hw2] at HC ⊢
  have HW := Lib.hid hw2
  clear hw2
  go_wp2_with (go_at_call 27; refine HC.out.mono ?_; rintro e w' ⟨rfl, F', hf, ht⟩)
  go_ret
  refine ⟨rfl, F', ?_, ht⟩
  rw [HW.out] at hf
  exact ⟨hf.os, hf.tape, hf.output, hf.size, hf.block, hf.sub⟩


set_option maxHeartbeats 1000000 in
theorem f12_turn {F : List Nat} {w : World} {p : Nat} {s : St} (much : Int) (h : Tu F w p s) (h0 : -1000000 ≤ much) (h1 : much ≤ 1000000) :
    Calls Try.prog 12 #[.pointer (some ⟨p, 0, none⟩), .int .i32 2, .int .i32 much] w (DoPost F w p (turnN s (much % 4).toNat, 0)) := by
  have hst := st_cpx
  obtain ⟨k, hk⟩ : ∃ k : Nat, (k : Int) = much % 4 := ⟨(much % 4).toNat, by omega⟩
  have hkn : (much % 4).toNat = k := by omega
  rw [hkn]
  have hk4 : k < 4 := by omega
  have hh : ∀ r : Int, r = (k : Int) → Hid (Tu F w p s) → Calls Try.prog 12 #[.pointer (some ⟨p, 0, none⟩), .int .i32 2, .int .i32 much] w (DoPost F w p (turnN s k, 0)) := by
    intro r hr HT
    have HH := Lib.hid hk
    rcases Int.lt_or_le much 0 with hneg | hpos
    · obtain ⟨n, rfl⟩ : ∃ n : Nat, much = -(n : Int) := ⟨(-much).toNat, by omega⟩
      have e1 : (-((n : Int) % 4) + 4) % 4 = (k : Int) := by omega
      have b1 : (0 : Int) ≤ (n : Int) % 4 := by omega
      have b2 : (n : Int) % 4 < 4 := by omega
      have b3 : (0 : Int) ≤ -((n : Int) % 4) + 4 := by omega
      clear hk hkn h hr
      go_enter Try.func12, Try.ntmps12
      go_wp2_with fail
      go_loopw [54] (fun i wr => ∃ j : Nat, j ≤ k ∧ i = .int .i32 j ∧ Hid (Fr F w F wr ∧ Tu F wr p (turnN s j))) (fun i _ => k - (intOf i).toNat)
      case atStart => exact ⟨0, Nat.zero_le _, rfl, Lib.hid ⟨Fr.refl _ _, HT.out⟩⟩
      case round =>
        obtain ⟨j, hj, rfl, hR⟩ := hrel
        by_cases hlt : j < k
        · obtain ⟨a, b, c, d, e, sv, cs, h⟩ := hR.out.2
          obtain ⟨⟨c0, c1, c2, c3, c4⟩, cf⟩ := cells5 h.blk
          have f1 := cf 1
          obtain ⟨re, im, x1, g1, g2⟩ := turn_FI h.fc h.fd h.bd.look
          have x2 := fun (t : TypeId) (w : World) => run_complex_mul (P := Try.prog) w t _ _ _ _ _ _ x1
          have fin := h.put (s' := turnN s (j + 1)) 1 (cpx re im) rfl h.fa h.fb g1 g2 h.fe rfl h.bd.turn
          have FIN := Lib.hid fin
          clear c0 c2 c3 c4 cf x1 g1 g2 fin h
          go_wp2
          go_roundw
          case rel => exact ⟨j + 1, by omega, by go_num, Lib.hid ⟨hR.out.1.trans FIN.out.1, _, _, _, _, _, _, _, FIN.out.2⟩⟩
          case measure => simp [intOf]; omega
        · obtain rfl : j = k := by omega
          go_wp2
          go_ret
          exact ⟨rfl, F, hR.out⟩
    · obtain ⟨n, rfl⟩ : ∃ n : Nat, much = (n : Int) := ⟨much.toNat, by omega⟩
      have e1 : ((n : Int) % 4 + 4) % 4 = (k : Int) := by omega
      have b1 : (0 : Int) ≤ (n : Int) % 4 := by omega
      have b2 : (n : Int) % 4 < 4 := by omega
      clear hk hkn h hr
      go_enter Try.func12, Try.ntmps12
      go_wp2_with fail
      go_loopw [54] (fun i wr => ∃ j : Nat, j ≤ k ∧ i = .int .i32 j ∧ Hid (Fr F w F wr ∧ Tu F wr p (turnN s j))) (fun i _ => k - (intOf i).toNat)
      case atStart => exact ⟨0, Nat.zero_le _, rfl, Lib.hid ⟨Fr.refl _ _, HT.out⟩⟩
      case round =>
        obtain ⟨j, hj, rfl, hR⟩ := hrel
        by_cases hlt : j < k
        · obtain ⟨a, b, c, d, e, sv, cs, h⟩ := hR.out.2
          obtain ⟨⟨c0, c1, c2, c3, c4⟩, cf⟩ := cells5 h.blk
          have f1 := cf 1
          obtain ⟨re, im, x1, g1, g2⟩ := turn_FI h.fc h.fd h.bd.look
          have x2 := fun (t : TypeId) (w : World) => run_complex_mul (P := Try.prog) w t _ _ _ _ _ _ x1
          have fin := h.put (s' := turnN s (j + 1)) 1 (cpx re im) rfl h.fa h.fb g1 g2 h.fe rfl h.bd.turn
          have FIN := Lib.hid fin
          clear c0 c2 c3 c4 cf x1 g1 g2 fin h
          go_wp2
          go_roundw
          case rel => exact ⟨j + 1, by omega, by go_num, Lib.hid ⟨hR.out.1.trans FIN.out.1, _, _, _, _, _, _, _, FIN.out.2⟩⟩
          case measure => simp [intOf]; omega
        · obtain rfl : j = k := by omega
          go_wp2
          go_ret
          exact ⟨rfl, F, hR.out⟩
  exact hh _ rfl (Lib.hid h)

theorem f12_pen {F : List Nat} {w : World} {p : Nat} {s : St} (much : Int) (h : Tu F w p s) (h0 : -1000000 ≤ much) (h1 : much ≤ 1000000) :
    Calls Try.prog 12 #[.pointer (some ⟨p, 0, none⟩), .int .i32 3, .int .i32 much] w (DoPost F w p ({ s with down := decide (much ≠ 0) }, 0)) := by
  obtain ⟨a, b, c, d, e, sv, cs, h⟩ := h
  obtain ⟨⟨c0, c1, c2, c3, c4⟩, cf⟩ := cells5 h.blk
  have f3 := cf 3
  have fin := h.put (s' := { s with down := decide (much ≠ 0) }) 3 (.bool (decide (much ≠ 0))) rfl h.fa h.fb h.fc h.fd h.fe rfl ⟨h.bd.x, h.bd.y, h.bd.step, h.bd.look, h.bd.l⟩
  have FIN := Lib.hid fin
  clear c0 c1 c2 c4 cf fin h
  by_cases hz : much = 0
  · subst hz
    go_enter Try.func12, Try.ntmps12
    go_wp2
    go_ret
    exact ⟨rfl, F, FIN.out.1, _, _, _, _, _, _, _, FIN.out.2⟩
  · have hd : decide (much ≠ 0) = true := by simpa using hz
    rw [hd] at FIN ⊢
    have hz2 : (much == 0) = false := by simpa using hz
    have hz3 : (much != 0) = true := by simpa using hz
    go_enter Try.func12, Try.ntmps12
    go_wp2
    go_ret
    exact ⟨rfl, F, FIN.out.1, _, _, _, _, _, _, _, FIN.out.2⟩
theorem home_ok (s : St) : (moveT s 0 0).2 = 0 := by unfold moveT; rw [if_neg (by decide)]
theorem f12_home {F : List Nat} {w : World} {p : Nat} {s : St} (much : Int) (h : Tu F w p s) (hl : s.l.length ≤ 1000000) (h0 : -1000000 ≤ much) (h1 : much ≤ 1000000) :
    Calls Try.prog 12 #[.pointer (some ⟨p, 0, none⟩), .int .i32 4, .int .i32 much] w (DoPost F w p ({ (moveT s 0 0).1 with dx := 1, dy := 0 }, 0)) := by
  have hst := st_cpx
  have HC := Lib.hid (f27_any h hl FI_zero FI_zero)
  rw [home_ok] at HC
  go_enter Try.func12, Try.ntmps12
  go_wp2_with fail
  refine HC.out.mono ?_
  rintro e w' ⟨rfl, F', hf, ht⟩
  obtain ⟨a, b, c, d, e, sv, cs, h⟩ := ht
  obtain ⟨⟨c0, c1, c2, c3, c4⟩, cf⟩ := cells5 h.blk
  have f1 := cf 1
  have fin := h.put (s' := { (moveT s 0 0).1 with dx := 1, dy := 0 }) 1 (cpx 4607182418800017408 0) rfl h.fa h.fb FI_one FI_zero h.fe rfl ⟨h.bd.x, h.bd.y, h.bd.step, .inl ⟨rfl, rfl⟩, h.bd.l⟩
  have FIN := Lib.hid fin
  have HF := Lib.hid hf
  clear c0 c2 c3 c4 cf fin h hf
  go_wp2
  go_ret
  exact ⟨rfl, F', HF.out.trans FIN.out.1, _, _, _, _, _, _, _, FIN.out.2⟩
theorem f12_scale {F : List Nat} {w : World} {p : Nat} {s : St} (much : Int) (h : Tu F w p s) (h0 : -1000000 ≤ much) (h1 : much ≤ 1000000) :
    Calls Try.prog 12 #[.pointer (some ⟨p, 0, none⟩), .int .i32 5, .int .i32 much] w (DoPost F w p ({ s with step := much }, 0)) := by
  have hst := st_flt
  obtain ⟨a, b, c, d, e, sv, cs, h⟩ := h
  obtain ⟨⟨c0, c1, c2, c3, c4⟩, cf⟩ := cells5 h.blk
  have f2 := cf 2
  have fin := h.put (s' := { s with step := much }) 2 (.float .f64 (floatOfInt .f64 much)) rfl h.fa h.fb h.fc h.fd (FI_int much (by omega)) rfl ⟨h.bd.x, h.bd.y, ⟨h0, h1⟩, h.bd.look, h.bd.l⟩
  have FIN := Lib.hid fin
  clear c0 c1 c3 c4 cf fin h
  go_enter Try.func12, Try.ntmps12
  go_wp2
  go_ret
  exact ⟨rfl, F, FIN.out.1, _, _, _, _, _, _, _, FIN.out.2⟩
theorem f12_any {F : List Nat} {w : World} {p : Nat} {s : St} (what much : Int) (h : Tu F w p s) (hl : s.l.length ≤ 1000000) :
    Calls Try.prog 12 #[.pointer (some ⟨p, 0, none⟩), .int .i32 what, .int .i32 much] w (DoPost F w p (doT s what much)) := by
  unfold doT
  by_cases hw : what < 1 ∨ 5 < what
  · rw [if_pos hw]
    have hout : Calls Try.prog 12 #[.pointer (some ⟨p, 0, none⟩), .int .i32 what, .int .i32 much] w fun e w' => e = .returned (.int .i64 110) ∧ w = w' := by
      clear h hl
      rcases hw with hw | hw
      · go_enter Try.func12, Try.ntmps12
        go_wp2
        go_ret
        exact ⟨rfl, rfl⟩
      · have hw2 : ¬ what < 1 := by omega
        go_enter Try.func12, Try.ntmps12
        go_wp2
        go_ret
        exact ⟨rfl, rfl⟩
    refine hout.mono ?_
    rintro e w' ⟨rfl, rfl⟩
    exact ⟨rfl, F, Fr.refl _ _, h⟩
  rw [if_neg hw]
  by_cases hm : much < -1000000 ∨ 1000000 < much
  · rw [if_pos hm]
    have hout : Calls Try.prog 12 #[.pointer (some ⟨p, 0, none⟩), .int .i32 what, .int .i32 much] w fun e w' => e = .returned (.int .i64 90) ∧ w = w' := by
      clear h hl
      have hw1 : ¬ what < 1 := by omega
      have hw2 : ¬ 5 < what := by omega
      clear hw
      rcases hm with hm | hm
      · go_enter Try.func12, Try.ntmps12
        go_wp2
        go_ret
        exact ⟨rfl, rfl⟩
      · have hm2 : ¬ much < -1000000 := by omega
        go_enter Try.func12, Try.ntmps12
        go_wp2
        go_ret
        exact ⟨rfl, rfl⟩
    refine hout.mono ?_
    rintro e w' ⟨rfl, rfl⟩
    exact ⟨rfl, F, Fr.refl _ _, h⟩
  rw [if_neg hm]
  by_cases e1 : what = 1
  · subst e1
    rw [if_pos rfl]
    exact f12_go much h hl (by omega) (by omega)
  rw [if_neg e1]
  by_cases e2 : what = 2
  · subst e2
    rw [if_pos rfl]
    exact f12_turn much h (by omega) (by omega)
  rw [if_neg e2]
  by_cases e3 : what = 3
  · subst e3
    rw [if_pos rfl]
    exact f12_pen much h (by omega) (by omega)
  rw [if_neg e3]
  by_cases e4 : what = 4
  · subst e4
    rw [if_pos rfl]
    exact f12_home much h hl (by omega) (by omega)
  rw [if_neg e4]
  obtain rfl : what = 5 := by omega
  exact f12_scale much h (by omega) (by omega)
end Go.Proofs.Ytkjfbjgcfkmhkaa
