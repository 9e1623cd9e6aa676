import Derived.Test.YtengenceelmijaaFinds
import Derived.Deep.QuietTactic
namespace Go.Proofs.Ytengenceelmijaa
open Go.RowKit
set_option linter.unusedVariables false

/-- What stands while scopes are opened and closed. -/
structure Nst (w wr : World) (gx g10 : Nat) (F : List Nat) (p : Nat) (b : Abs) (cx c10 : Array Value) : Prop where
  fr : Fr [] w F wr
  sc : Sc F wr p b
  bx : wr.heap[gx]? = some (.cells cx 25 (0, 0))
  b10 : wr.heap[g10]? = some (.cells c10 25 (0, 0))
  nx : gx ∉ F
  n10 : g10 ∉ F
section
variable {w wr wr' : World} {gx g10 p : Nat} {F F' : List Nat} {b b' : Abs} {cx c10 : Array Value}
theorem Nst.lx (h : Nst w wr gx g10 F p b cx c10) : gx < wr.heap.size := (Array.getElem?_eq_some_iff.1 h.bx).1
theorem Nst.l10 (h : Nst w wr gx g10 F p b cx c10) : g10 < wr.heap.size := (Array.getElem?_eq_some_iff.1 h.b10).1
theorem Nst.step (h : Nst w wr gx g10 F p b cx c10) (hf : Fr F wr F' wr') (hs : Sc F' wr' p b') : Nst w wr' gx g10 F' p b' cx c10 := by
  have hlx := h.lx
  have hl10 := h.l10
  refine ⟨h.fr.trans hf, hs, (hf.block _ hlx h.nx).trans h.bx, (hf.block _ hl10 h.n10).trans h.b10, fun hm => ?_, fun hm => ?_⟩
  · rcases hf.sub _ hm with h1 | h1
    · exact h.nx h1
    · omega
  · rcases hf.sub _ hm with h1 | h1
    · exact h.n10 h1
    · omega
theorem Nst.below (h : Nst w wr gx g10 F p b cx c10) (hB : Below wr.heap.size wr wr') : Nst w wr' gx g10 F p b cx c10 := h.step (Fr.of_below hB) (h.sc.below hB)
end

def deep (a : Abs) (k : Nat) : Abs := ⟨a.opn ++ List.replicate k [], a.mds⟩
theorem deep_open {a : Abs} {k n : Nat} (hn : a.opn.length = n + 1) (h : n + k < 64) : openA (deep a k) = (0, deep a (k + 1)) := by
  unfold openA deep
  rw [if_neg (by simp; omega)]
  simp [List.replicate_succ', List.append_assoc]
theorem deep_full {a : Abs} {k n : Nat} (hn : a.opn.length = n + 1) (h : 64 ≤ n + k) : openA (deep a k) = (240, deep a k) := by
  unfold openA deep
  rw [if_pos (by simp; omega)]
def mine (n k : Nat) (x : Ob) : Ob := { x with lv := (n : Int) + k }
def withX (a : Abs) (n k : Nat) (x : Ob) : List (List Ob) := a.opn ++ List.replicate (k - 1) [] ++ [[mine n k x]]
theorem deep_top {a : Abs} {k : Nat} (hk : 0 < k) : top (deep a k) = [] := by
  unfold top deep
  simp only [List.length_append, List.length_replicate]
  rw [List.getElem?_append_right (by omega), List.getElem?_replicate, if_pos (by omega)]; rfl
theorem deep_declare {a : Abs} {k n : Nat} (x : Ob) (hn : a.opn.length = n + 1) (hk : 0 < k) (hb : badName x.nm = false) : declare (deep a k) x = (0, ⟨withX a n k x, a.mds⟩) := by
  unfold declare
  rw [hb, if_neg (by simp), deep_top hk]
  rw [if_neg (by simp [findI]), if_neg (by simp)]
  congr 2
  unfold deep withX mine
  obtain ⟨m, rfl⟩ : ∃ m, k = m + 1 := ⟨k - 1, by omega⟩
  simp only [List.length_append, List.length_replicate, hn, Nat.add_sub_cancel, List.nil_append]
  rw [List.replicate_succ', ← List.append_assoc, List.set_append_right _ _ (by simp; omega)]
  rw [show n + 1 + (m + 1) - 1 - (a.opn ++ List.replicate m ([] : List Ob)).length = 0 by simp; omega]
  rw [List.set_cons_zero]
  congr 5
  push_cast; omega
theorem withX_len {a : Abs} {k n : Nat} (x : Ob) (hn : a.opn.length = n + 1) (hk : 0 < k) : (withX a n k x).length = n + 1 + k := by
  unfold withX; simp; omega
theorem withX_find {a : Abs} {k n : Nat} (x : Ob) (hn : a.opn.length = n + 1) (hk : 0 < k) : findN (withX a n k x) x.nm (withX a n k x).length = some (mine n k x) := by
  rw [withX_len x hn hk, show n + 1 + k = (n + k) + 1 by omega, findN]
  have : (withX a n k x)[n + k]? = some [mine n k x] := by
    unfold withX
    rw [List.getElem?_append_right (by simp; omega), show n + k - (a.opn ++ List.replicate (k - 1) ([] : List Ob)).length = 0 by simp; omega]; rfl
  rw [this, Option.getD_some, findIn]
  have : findI ([mine n k x].map Ob.nm) x.nm = some 0 := by simp [findI, mine]
  rw [this]; rfl
theorem withX_back {a : Abs} {k n : Nat} (x : Ob) (hn : a.opn.length = n + 1) : (withX a n k x).take (n + 1) = a.opn := by
  unfold withX
  rw [List.append_assoc, List.take_append_of_le_length (by omega), List.take_of_length_le (by omega)]
theorem shut_one {l : List (List Ob)} {m : List (List Ob)} {n k j : Nat} (hl : l.length = n + 1 + k) (hj : j < k) : closeA ⟨l.take (n + 1 + k - j), m⟩ = (0, ⟨l.take (n + 1 + k - (j + 1)), m⟩) := by
  unfold closeA
  rw [if_neg (by simp; omega)]
  congr 2
  rw [List.dropLast_eq_take, List.take_take, List.length_take]
  congr 1
  omega

theorem f9_same {F : List Nat} {w : World} {p : Nat} {a : Abs} {k : Nat} (h : Sc F w p a) (hk : a.opn.length = k + 1) :
    Calls Try.prog 9 #[.pointer (some ⟨p, 0, none⟩)] w fun e w' => e = .returned (.int .i64 (k : Int)) ∧ w = w' := by
  refine (f9_any h).mono ?_
  rintro e w' ⟨rfl, rfl⟩
  rw [hk]
  exact ⟨by simp, rfl⟩

theorem f9_cast {F : List Nat} {w : World} {p : Nat} {a : Abs} {n k : Nat} (h : Sc F w p a) (hk : a.opn.length = n + k + 1) :
    Calls Try.prog 9 #[.pointer (some ⟨p, 0, none⟩)] w fun e w' => e = .returned (.int .i64 ((n : Int) + k)) ∧ w = w' := f9_same h hk

theorem notBad {s : ByteArray} (h : badName s = false) : s.toList.isEmpty = false ∧ ¬ s.size = 0 ∧ s.size ≤ 32 := by
  unfold badName at h
  rw [Bool.or_eq_false_iff] at h
  obtain ⟨h1, h2⟩ := h
  have h1 : ¬ s.size = 0 := by simpa only [beq_eq_false_iff_ne] using h1
  exact ⟨by rw [isEmpty_size]; exact decide_eq_false h1, h1, by have := of_decide_eq_false h2; omega⟩

set_option maxHeartbeats 4000000 in
set_option maxRecDepth 100000 in
theorem f3_any {w : World} {v pv : Value} {script : List OpD} (x : Ob) (more : Nat) (hm : more ≤ 255) (h : OpR [] w v script) (hx : PsR [] w pv x.ps) :
    Calls Try.prog 3 #[v, obV x pv, .int .u8 more] w fun e w' => e = .returned (.bool true) ∧ Below w.heap.size w w' := by
  obtain ⟨S0, cS, rfl, hcS, hlS, _⟩ := op_at h
  obtain ⟨Ap, cp, rfl, _⟩ := ps_at hx
  have HO := Lib.hid h
  have HP := Lib.hid hx
  clear h hx
  unfold obV
  obtain ⟨cx, hcx⟩ : ∃ cx : Array Value, cx = #[.string x.nm, .int .i64 x.kd, .int .i64 x.ty, .int .i64 x.lv, .int .i32 x.n, .int .i64 x.md, .bool x.out, .slice Ap x.ps.length cp] := ⟨_, rfl⟩
  obtain ⟨w0, hw0⟩ : ∃ w0, w0 = w.alloc (.cells #[.string x.nm, .int .i64 x.kd, .int .i64 x.ty, .int .i64 x.lv, .int .i32 x.n, .int .i64 x.md, .bool x.out, .slice Ap x.ps.length cp] 25) := ⟨_, rfl⟩
  obtain ⟨gx, hgx⟩ : ∃ g, g = w.heap.size := ⟨_, rfl⟩
  have hB0 : Below w.heap.size w w0 := by rw [hw0]; exact (Below.refl _ _).alloc (Nat.le_refl _) _
  have hx0 : w0.heap[gx]? = some (.cells cx 25 (0, 0)) := by rw [hw0, hgx, hcx]; exact heap_alloc_new w _
  have HB0 := Lib.hid hB0
  have HX0 := Lib.hid hx0
  have HW0 := Lib.hid hw0
  have HGX := Lib.hid hgx
  have HCX := Lib.hid hcx
  clear hB0 hx0 hw0 hgx hcx
  go_enter Try.func3, Try.ntmps3
  go_wp2_with fail
  rw [← HW0.out, ← HGX.out]
  refine (f6_any _).mono ?_
  rintro e w1 ⟨rfl, hB1⟩
  have l0 : gx < w0.heap.size := (Array.getElem?_eq_some_iff.1 HX0.out).1
  have l1 := Nat.lt_of_lt_of_le l0 hB1.size
  have H1 := Lib.hid (HB0.out.trans (hB1.mono HB0.out.size))
  have HX1 := Lib.hid ((hB1.block _ l0).trans HX0.out)
  have HC7 := Lib.hid (f7_any (HO.out.keep (Fr.of_below H1.out)))
  clear hB1
  go_wp2_with fail
  refine HC7.out.mono ?_
  rintro e w2 ⟨F, p, a, r, v', rfl, hf2, hs2, hr2, hrel, hrl⟩
  obtain ⟨_, _, rfl, hla, hma⟩ := hr2
  obtain ⟨A, c, rfl, _⟩ := ob_at hla
  obtain ⟨B, d, rfl, _⟩ := obs_shape hma
  obtain ⟨n, hn⟩ : ∃ n, a.opn.length = n + 1 := ⟨a.opn.length - 1, by have := hrel.pos; omega⟩
  have hn64 : n ≤ 64 := by have := hrel.le; omega
  obtain ⟨wq, hwq⟩ : ∃ wq, wq = w2.alloc (.cells #[.slice A r.l.length c, .int .i64 r.lv, .slice B r.mods.length d] 31) := ⟨_, rfl⟩
  have hBq : Below w2.heap.size w2 wq := by rw [hwq]; exact (Below.refl _ _).alloc (Nat.le_refl _) _
  obtain ⟨g8, hg8⟩ : ∃ g8, g8 = w2.heap.size := ⟨_, rfl⟩
  have hxF : gx ∉ F := fun hm => by
    rcases hf2.sub _ hm with h1 | h1
    · cases h1
    · omega
  have hX2 := (hf2.block _ l1 (by simp)).trans HX1.out
  have lx2 := Nat.lt_of_lt_of_le l1 hf2.size
  have HXq := Lib.hid ((hBq.block _ lx2).trans hX2)
  have cx0 : w2.cell? ⟨gx, 0, none⟩ = some (.string x.nm) := by
    rw [HCX.out] at hX2; exact (cells8 hX2).1.1
  have HWQ := Lib.hid hwq
  have HG := Lib.hid hg8
  have HS := Lib.hid (hs2.below hBq)
  have HN := Lib.hid hn
  have HFQ : Hid (Fr [] w F wq) := Lib.hid (((Fr.of_below H1.out).trans hf2).trans (Fr.of_below hBq))
  have lxq := Nat.lt_of_lt_of_le lx2 hBq.size
  clear hwq hg8 hs2 hf2 hrel hla hma hBq hn hX2
  go_wp2_with fail
  rw [← HWQ.out, ← HG.out]
  refine (f8_res x.nm HS.out).mono ?_
  rintro e w3 ⟨pv3, hB3, hp3, rfl⟩
  clear cx0
  obtain ⟨y, hy⟩ : ∃ y, y = (findN a.opn x.nm a.opn.length).getD noOb := ⟨_, rfl⟩
  obtain ⟨k, hk⟩ : ∃ k, k = resC (findN a.opn x.nm a.opn.length) := ⟨_, rfl⟩
  have HY := Lib.hid hy
  have HKy := Lib.hid hk
  clear hy hk
  rw [← HY.out] at hp3
  obtain ⟨A3, c3, rfl, _⟩ := ps_at hp3
  rw [← HY.out, ← HKy.out]
  unfold obV
  obtain ⟨c10, hc10⟩ : ∃ c10 : Array Value, c10 = #[.string y.nm, .int .i64 y.kd, .int .i64 y.ty, .int .i64 y.lv, .int .i32 y.n, .int .i64 y.md, .bool y.out, .slice A3 y.ps.length c3] := ⟨_, rfl⟩
  obtain ⟨q3, hq3⟩ : ∃ q, q = w3.alloc (.cells #[.string y.nm, .int .i64 y.kd, .int .i64 y.ty, .int .i64 y.lv, .int .i32 y.n, .int .i64 y.md, .bool y.out, .slice A3 y.ps.length c3] 25) := ⟨_, rfl⟩
  obtain ⟨g10, hg10⟩ : ∃ b, b = w3.heap.size := ⟨_, rfl⟩
  have hBq3 : Below w3.heap.size w3 q3 := by rw [hq3]; exact (Below.refl _ _).alloc (Nat.le_refl _) _
  have hx10 : q3.heap[g10]? = some (.cells c10 25 (0, 0)) := by rw [hq3, hg10, hc10]; exact heap_alloc_new w3 _
  have BB3 := hB3.trans (hBq3.mono hB3.size)
  have hNst : Nst w q3 gx g10 F p a cx c10 := ⟨HFQ.out.trans (Fr.of_below BB3), HS.out.below BB3, (BB3.block _ lxq).trans HXq.out, hx10, hxF, fun hm => by
    have := HS.out.lt _ hm; have := hB3.size; omega⟩
  have HQ3 := Lib.hid hq3
  have HG10 := Lib.hid hg10
  have HC10 := Lib.hid hc10
  have HNst := Lib.hid hNst
  clear hq3 hg10 hc10 hx10 hBq3 hB3 hp3 BB3 hNst
  go_wp2_with fail
  rw [← HQ3.out, ← HG10.out]
  refine (f9_same HNst.out.sc HN.out).mono ?_
  rintro e w' ⟨rfl, rfl⟩
  go_wp2_with fail
  have HA := Lib.hid (show deep a 0 = a by unfold deep; simp)
  go_loopw [13, 14] (fun i f wr => ∃ (j : Nat) (F' : List Nat), j ≤ more ∧ i = .int .i64 j ∧ Nst w wr gx g10 F' p (deep a (min j (64 - n))) cx c10) (fun i _ _ => more - (intOf i).toNat)
  case atStart => exact ⟨0, F, Nat.zero_le _, rfl, by rw [Nat.zero_min, HA.out]; exact HNst.out⟩
  case round =>
    obtain ⟨j, F', hj, rfl, hst⟩ := hrel
    have HST := Lib.hid hst
    clear hst
    by_cases hlt : j < more
    · by_cases hfull : n + j < 64
      · have hc : Calls Try.prog 10 #[.pointer (some ⟨p, 0, none⟩)] wr fun e w' => e = .returned (.int .i64 0) ∧ ∃ F2, Nst w w' gx g10 F2 p (deep a (min (j + 1) (64 - n))) cx c10 := by
          refine (f10_do HST.out.sc).mono ?_
          rintro e w' ⟨rfl, F2, h1, h2⟩
          rw [Nat.min_eq_left (by omega), deep_open HN.out hfull] at h2 ⊢
          exact ⟨rfl, F2, by rw [Nat.min_eq_left (by omega)]; exact HST.out.step h1 h2⟩
        have HC := Lib.hid hc
        clear hc
        have d1 : (n : Int) + j < 64 := by omega
        go_wp2_with (go_at_call 10; refine HC.out.mono ?_; rintro e w' ⟨rfl, F2, hs2⟩; have HS2 := Lib.hid hs2; clear hs2)
        go_roundw
        case rel => exact ⟨j + 1, F2, by omega, by go_num, HS2.out⟩
        case measure => simp [intOf]; omega
      · have hc : Calls Try.prog 10 #[.pointer (some ⟨p, 0, none⟩)] wr fun e w' => e = .returned (.int .i64 240) ∧ ∃ F2, Nst w w' gx g10 F2 p (deep a (min (j + 1) (64 - n))) cx c10 := by
          refine (f10_do HST.out.sc).mono ?_
          rintro e w' ⟨rfl, F2, h1, h2⟩
          rw [Nat.min_eq_right (by omega), deep_full HN.out (by omega)] at h2 ⊢
          exact ⟨rfl, F2, by rw [Nat.min_eq_right (by omega)]; exact HST.out.step h1 h2⟩
        have HC := Lib.hid hc
        clear hc
        have d1 : ¬ (n : Int) + j < 64 := by omega
        go_wp2_with (go_at_call 10; refine HC.out.mono ?_; rintro e w' ⟨rfl, F2, hs2⟩; have HS2 := Lib.hid hs2; clear hs2)
        go_roundw
        case rel => exact ⟨j + 1, F2, by omega, by go_num, HS2.out⟩
        case measure => simp [intOf]; omega
    · obtain ⟨k, hk⟩ : ∃ k, k = min j (64 - n) := ⟨_, rfl⟩
      have HK := Lib.hid hk
      clear hk
      have HSK : Hid (Nst w wr gx g10 F' p (deep a k) cx c10) := Lib.hid (by rw [HK.out]; exact HST.out)
      have hlen : (deep a k).opn.length = n + k + 1 := by
        have := HN.out
        unfold deep; simp; omega
      have HC9 := Lib.hid (f9_same HSK.out.sc hlen)
      clear hlen
      have hk64 : n + k ≤ 64 := by have := HK.out; omega
      by_cases hk0 : k = 0
      · subst hk0
        go_wp2_with (go_at_call 9; refine HC9.out.mono ?_; rintro e w' ⟨rfl, rfl⟩)
        go_ret
        exact ⟨rfl, HSK.out.fr.below⟩
      · have hk1 : 0 < k := by omega
        have d0 : ¬ ((n + k : Nat) : Int) = n := by omega
        clear hk0
        obtain ⟨⟨x0, x1, x2, x3, x4, x5, x6, x7⟩, _⟩ := cells8 (HCX.out ▸ HSK.out.bx)
        obtain ⟨bn, hbn⟩ : ∃ b, b = badName x.nm := ⟨_, rfl⟩
        cases bn with
        | true =>
          have HBN := Lib.hid hbn
          clear hbn
          have HC11 := Lib.hid (f11_bad x (.slice Ap x.ps.length cp) HSK.out.sc HBN.out.symm)
          by_cases hz : x.nm.size = 0
          · have hz' : x.nm.toList.isEmpty = true := by rw [isEmpty_size]; simpa using hz
            go_wp2_with (go_at_call 9; refine HC9.out.mono ?_; rintro e w' ⟨rfl, rfl⟩)
            refine HC11.out.mono ?_
            rintro e w5 ⟨rfl, hB5⟩
            obtain ⟨⟨z0, _⟩, _⟩ := cells8 (HCX.out ▸ (HSK.out.below hB5).bx)
            have HB5 := Lib.hid hB5
            clear hB5
            go_wp2_with fail
            go_ret
            exact ⟨rfl, (HSK.out.below HB5.out).fr.below⟩
          · have hz' : x.nm.toList.isEmpty = false := by rw [isEmpty_size]; simpa using hz
            have hb : 32 < x.nm.size := by simpa [badName, hz] using HBN.out.symm
            go_wp2_with (go_at_call 9; refine HC9.out.mono ?_; rintro e w' ⟨rfl, rfl⟩)
            refine HC11.out.mono ?_
            rintro e w5 ⟨rfl, hB5⟩
            obtain ⟨⟨z0, _⟩, _⟩ := cells8 (HCX.out ▸ (HSK.out.below hB5).bx)
            have HB5 := Lib.hid hB5
            clear hB5
            go_wp2_with fail
            go_ret
            exact ⟨rfl, (HSK.out.below HB5.out).fr.below⟩
        | false =>
          obtain ⟨hz', hz, hb⟩ := notBad hbn.symm
          have HC11 : Hid (Calls Try.prog 11 #[.pointer (some ⟨p, 0, none⟩), .agg #[.string x.nm, .int .i64 x.kd, .int .i64 x.ty, .int .i64 x.lv, .int .i32 x.n, .int .i64 x.md, .bool x.out, .slice Ap x.ps.length cp]] wr fun e w' => e = .returned (.int .i64 0) ∧ ∃ F2, Nst w w' gx g10 F2 p ⟨withX a n k x, a.mds⟩ cx c10) := Lib.hid (by
            refine (f11_all x (.slice Ap x.ps.length cp) HSK.out.sc (HP.out.keep HSK.out.fr)).mono ?_
            rintro e w' ⟨rfl, F2, h1, h2⟩
            rw [deep_declare x HN.out hk1 hbn.symm] at h2 ⊢
            exact ⟨rfl, F2, HSK.out.step h1 h2⟩)
          clear hbn
          go_wp2_with (go_at_call 9; refine HC9.out.mono ?_; rintro e w' ⟨rfl, rfl⟩)
          refine HC11.out.mono ?_
          rintro e w5 ⟨rfl, F5, hs5⟩
          have HS5 := Lib.hid hs5
          obtain ⟨⟨z0, _⟩, _⟩ := cells8 (HCX.out ▸ hs5.bx)
          clear hs5
          go_wp2_with fail
          have hfind := withX_find x HN.out hk1
          have hwl := withX_len x HN.out hk1
          have HWL := Lib.hid hwl
          have HC8 := Lib.hid (f8_hit x.nm (mine n k x) HS5.out.sc hfind)
          clear hfind hwl
          refine HC8.out.mono ?_
          rintro e w6 ⟨hB6, pv6, hp6, rfl⟩
          obtain ⟨A6, c6, rfl, _⟩ := ps_at hp6
          unfold obV mine
          obtain ⟨q6, hq6⟩ : ∃ q, q = w6.alloc (.cells #[.string x.nm, .int .i64 x.kd, .int .i64 x.ty, .int .i64 ((n : Int) + k), .int .i32 x.n, .int .i64 x.md, .bool x.out, .slice A6 x.ps.length c6] 25) := ⟨_, rfl⟩
          obtain ⟨g16, hg16⟩ : ∃ b, b = w6.heap.size := ⟨_, rfl⟩
          have hBq6 : Below w6.heap.size w6 q6 := by rw [hq6]; exact (Below.refl _ _).alloc (Nat.le_refl _) _
          have hx16 : q6.heap[g16]? = some (.cells #[.string x.nm, .int .i64 x.kd, .int .i64 x.ty, .int .i64 ((n : Int) + k), .int .i32 x.n, .int .i64 x.md, .bool x.out, .slice A6 x.ps.length c6] 25 (0, 0)) := by rw [hq6, hg16]; exact heap_alloc_new w6 _
          have HS6 := Lib.hid (HS5.out.below (hB6.trans (hBq6.mono hB6.size)))
          have l16 := (Array.getElem?_eq_some_iff.1 hx16).1
          obtain ⟨⟨y0, y1, y2, y3, y4, _⟩, _⟩ := cells8 hx16
          obtain ⟨⟨u0, u1, u2, u3, u4, _⟩, _⟩ := cells8 (HCX.out ▸ HS6.out.bx)
          have lx6 := HS6.out.lx
          have HQ6 := Lib.hid hq6
          have HG16 := Lib.hid hg16
          clear hq6 hg16 hx16 hBq6 hB6 hp6 x0 x1 x2 x3 x4 x5 x6 x7 z0
          have HC9b := Lib.hid (fun m => f9_cast (n := n) (k := k) (HS6.out.below (wr' := q6.drewN m) ⟨rfl, rfl, rfl, Nat.le_refl _, fun _ _ => rfl⟩).sc (by rw [HWL.out]; omega))
          go_wp2_with fail
          rw [← HQ6.out, ← HG16.out]
          go_quiet ((go_at_call 9; exact Calls.quiet_of_same ((HC9b.out _).mono fun e w' h => ⟨h.1, h.2.symm⟩)))
          go_wp2_with fail
          clear y0 y1 y2 y3 y4 u0 u1 u2 u3 u4 lx6 l16
          go_loopw [18] (fun i wr => ∃ (m : Nat) (F' : List Nat), m ≤ k ∧ i = .int .i64 m ∧ Nst w wr gx g10 F' p ⟨(withX a n k x).take (n + 1 + k - m), a.mds⟩ cx c10) (fun i _ => 70 - (intOf i).toNat)
          case atStart => exact ⟨0, F5, Nat.zero_le _, rfl, by rw [Nat.sub_zero, List.take_of_length_le (by rw [HWL.out]; omega)]; exact HS6.out.below ⟨rfl, rfl, rfl, Nat.le_refl _, fun _ _ => rfl⟩⟩
          case round =>
            obtain ⟨m, F', hmk, rfl, hst⟩ := hrel
            have HST2 := Lib.hid hst
            clear hst
            have hlen : ((withX a n k x).take (n + 1 + k - m)).length = n + (k - m) + 1 := by rw [List.length_take, HWL.out]; omega
            have HC9c := Lib.hid (f9_same HST2.out.sc hlen)
            clear hlen
            have d70 : (m : Int) < 70 := by omega
            by_cases hmlt : m < k
            · have d1 : (n : Int) < ((n + (k - m) : Nat) : Int) := by omega
              have hc12 : Calls Try.prog 12 #[.pointer (some ⟨p, 0, none⟩)] wr fun e w' => e = .returned (.int .i64 0) ∧ ∃ F2, Nst w w' gx g10 F2 p ⟨(withX a n k x).take (n + 1 + k - (m + 1)), a.mds⟩ cx c10 := by
                refine (f12_do HST2.out.sc).mono ?_
                rintro e w' ⟨rfl, F2, h1, h2⟩
                rw [shut_one HWL.out hmlt] at h2 ⊢
                exact ⟨rfl, F2, HST2.out.step h1 h2⟩
              have HC12 := Lib.hid hc12
              clear hc12
              obtain ⟨lev, hlev⟩ : ∃ lev : Int, lev = ((n + (k - m) : Nat) : Int) := ⟨_, rfl⟩
              rw [← hlev] at d1 HC9c
              clear hlev
              go_wp2_with (first | (go_at_call 9; refine HC9c.out.mono ?_; rintro e w' ⟨rfl, rfl⟩) | (go_at_call 12; refine HC12.out.mono ?_; rintro e w' ⟨rfl, F2, hs2⟩; have HS2 := Lib.hid hs2; clear hs2))
              go_roundw
              case rel => exact ⟨m + 1, F2, by omega, by go_num, HS2.out⟩
              case measure => simp [intOf]; omega
            · obtain rfl : m = k := by omega
              have HC9d : Hid (Calls Try.prog 9 #[.pointer (some ⟨p, 0, none⟩)] wr fun e w' => e = .returned (.int .i64 (n : Int)) ∧ wr = w') := Lib.hid (by have := HC9c.out; rw [Nat.sub_self] at this; exact this)
              have hb : (withX a n m x).take (n + 1 + m - m) = a.opn := by rw [Nat.add_sub_cancel]; exact withX_back x HN.out
              have HS7 : Hid (Nst w wr gx g10 F' p ⟨a.opn, a.mds⟩ cx c10) := Lib.hid (by have := HST2.out; rw [hb] at this; exact this)
              clear hb
              have HC8b := Lib.hid (f8_res x.nm HS7.out.sc)
              obtain ⟨⟨z0, _⟩, _⟩ := cells8 (HCX.out ▸ HS7.out.bx)
              go_wp2_with (go_at_call 9; refine HC9d.out.mono ?_; rintro e w' ⟨rfl, rfl⟩)
              refine HC8b.out.mono ?_
              rintro e w8 ⟨pv8, hB8, hp8, rfl⟩
              rw [← HY.out] at hp8
              obtain ⟨A8, c8, rfl, _⟩ := ps_at hp8
              rw [← HY.out, ← HKy.out]
              unfold obV
              obtain ⟨⟨v0, v1, v2, v3, v4, _⟩, _⟩ := cells8 (HC10.out ▸ (HS7.out.below hB8).b10)
              have l10 := (HS7.out.below hB8).l10
              have HB8 := Lib.hid hB8
              clear hB8 z0 hp8
              go_wp2_with fail
              go_ret
              exact ⟨rfl, ((HS7.out.below HB8.out).fr.below).alloc ((HS7.out.below HB8.out).fr.below).size _⟩
end Go.Proofs.Ytengenceelmijaa
