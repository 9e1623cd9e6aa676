import Derived.Test.YtkjfbjgcfkmhkaaRDo
namespace Go.Proofs.Ytkjfbjgcfkmhkaa
open Go.RowKit
set_option linter.unusedVariables false
set_option linter.unusedSimpArgs false

theorem f24_val (x y : Int) (w : World) : Calls Try.prog 24 #[.int .i64 x, .int .i64 y] w fun e w' => e = .returned (cpx (floatOfInt .f64 x) (floatOfInt .f64 y)) ∧ w' = w := by
  go_enter Try.func24, Try.ntmps24
  go_wp2
  go_ret
  exact ⟨rfl, rfl⟩
theorem feq {a : Nat} {x : Int} (h : FI a x) (hx : x.natAbs ≤ 9007199254740992) : (FloatKind.f64.format.order a (floatOfInt .f64 x) == some .eq) = true := by
  rw [h.eq (FI_int x hx)]; simp
theorem fne {a : Nat} {x : Int} (h : FI a x) (hx : x.natAbs ≤ 9007199254740992) : (FloatKind.f64.format.order a (floatOfInt .f64 x) != some .eq) = false := by
  unfold bne; rw [feq h hx]; rfl

set_option maxHeartbeats 1000000 in
set_option maxRecDepth 100000 in
theorem f13_any {F F0 : List Nat} {w : World} {p : Nat} {s : St} {lv : Value} (h : Tu F w p s) (hr : SkR F0 w lv s.l) : Calls Try.prog 13 #[.pointer (some ⟨p, 0, none⟩), refV s lv] w fun e w' => e = .returned (.bool true) ∧ Below w.heap.size w w' := by
  obtain ⟨a, b, c, d, e, sv, cs, h⟩ := h
  obtain ⟨A, k, rfl, hk, hl, hA⟩ := sk_at hr
  obtain ⟨B, m, rfl, hm, hB⟩ := own_cells h.ow
  have hbx := h.bd.x
  have hby := h.bd.y
  have hbs := h.bd.step
  have hbl := h.bd.look
  have q0 := feq h.fa (by omega)
  have q1 := feq h.fb (by omega)
  have q2 := feq h.fc (by omega)
  have q3 := feq h.fd (by omega)
  have q4 := fne h.fe (by omega)
  have hplt := h.plt
  obtain ⟨⟨c0, c1, c2, c3, c4⟩, _⟩ := cells5 h.blk
  have HH := Lib.hid h
  have HA := Lib.hid hA
  have HB := Lib.hid hB
  clear hbx hby hbs hbl h hA hB hr
  unfold refV
  go_enter Try.func13, Try.ntmps13
  go_wp2_with fail
  go_quiet ((go_at_call 24; exact Calls.quiet_of_same (f24_val _ _ _)))
  go_wp2_with fail
  go_loopw [5] (fun i wr => ∃ j : Nat, j ≤ s.l.length ∧ i = .int .i64 j ∧ Below w.heap.size w wr ∧ wr.heap[w.heap.size]? = some (.cells #[.int .i64 s.x, .int .i64 s.y, .int .i64 s.dx, .int .i64 s.dy, .int .i64 s.step, .bool s.down, .slice A s.l.length k] 28 (0, 0))) (fun i _ => s.l.length - (intOf i).toNat)
  case atStart => exact ⟨0, Nat.zero_le _, rfl, ⟨rfl, rfl, rfl, by simp, fun b hb => Below.heap_alloc w _ b hb⟩, heap_alloc_new w _⟩
  case round =>
    obtain ⟨j, hj, rfl, hBl, hX⟩ := hrel
    obtain ⟨⟨x0, x1, x2, x3, x4, x5, x6⟩, _⟩ := cells7 hX
    have k4 := (hBl.cell (p := ⟨p, 4, none⟩) hplt).trans c4
    have hlx : w.heap.size < wr.heap.size := (Array.getElem?_eq_some_iff.1 hX).1
    have HX := Lib.hid hX
    by_cases hlt : j < s.l.length
    · obtain ⟨z, hz⟩ : ∃ z, s.l[j]? = some z := ⟨_, List.getElem?_eq_getElem hlt⟩
      obtain ⟨u, v, hu, hv, ⟨ua, ub, rfl, fa, fb⟩, va, vb, rfl, fc, fd⟩ := HH.out.sc j z hz
      obtain ⟨g, rfl, _, hg, hcell⟩ := HB.out (by omega)
      obtain ⟨b2, o2, rfl, hgd, e0, e1, e2, e3⟩ := HA.out j z hz
      have s0 := (hBl.cell (p := ⟨g, j * 2, none⟩) hg).trans (hcell _ _ hu)
      have s1 := (hBl.cell (p := ⟨g, j * 2 + 1, none⟩) hg).trans (hcell _ _ hv)
      have t0 := (hBl.cell (p := ⟨b2, o2 + j * 4, none⟩) hgd.1).trans e0
      have t1 := (hBl.cell (p := ⟨b2, o2 + j * 4 + 1, none⟩) hgd.1).trans e1
      have t2 := (hBl.cell (p := ⟨b2, o2 + j * 4 + 2, none⟩) hgd.1).trans e2
      have t3 := (hBl.cell (p := ⟨b2, o2 + j * 4 + 3, none⟩) hgd.1).trans e3
      have hbz := HH.out.bd.l z (List.mem_of_getElem? hz)
      have r0 := feq fa (by omega)
      have r1 := feq fb (by omega)
      have r2 := feq fc (by omega)
      have r3 := feq fd (by omega)
      have HBl := Lib.hid hBl
      clear hu hv hcell hgd e0 e1 e2 e3 hbz fa fb fc fd hz hBl hX hg
      go_wp2_with fail
      go_quiet ((go_at_call 24; exact Calls.quiet_of_same (f24_val _ _ _)))
      go_wp2_with fail
      go_roundw
      case rel => exact ⟨j + 1, by omega, by go_num, ⟨HBl.out.os, HBl.out.tape, HBl.out.output, HBl.out.size, HBl.out.block⟩, HX.out⟩
      case measure => simp [intOf]; omega
    · go_wp2_with fail
      go_ret
      exact ⟨rfl, hBl⟩
end Go.Proofs.Ytkjfbjgcfkmhkaa
