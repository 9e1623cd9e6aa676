import Derived.Test.YtkjfbjgcfkmhkaaTxt
namespace Go.Proofs.Ytkjfbjgcfkmhkaa
open Go.RowKit
set_option linter.unusedVariables false
set_option linter.unusedSimpArgs false

theorem cat_list (a b : ByteArray) : (a ++ b).data.toList = a.data.toList ++ b.data.toList := by rw [ByteArray.data_append, Array.toList_append]
theorem line_cat2 (A0 : ByteArray) (k : Sk) : (A0 ++ txt k.x ++ ⟨#[32]⟩ ++ txt k.y ++ ⟨#[32]⟩ ++ txt k.u ++ ⟨#[32]⟩ ++ txt k.v ++ ⟨#[10]⟩ : ByteArray) = ⟨(A0.data.toList ++ lineL k).toArray⟩ := by
  apply str_eq
  unfold lineL plcL
  simp only [cat_list, txt_list, List.append_assoc]
  rfl
theorem at_cat2 (A0 : ByteArray) (x y : Int) : (A0 ++ ⟨#[97, 116, 32]⟩ ++ txt x ++ ⟨#[32]⟩ ++ txt y ++ ⟨#[10]⟩ : ByteArray) = ⟨(A0.data.toList ++ (97 :: 116 :: 32 :: (plcL x y ++ [10]))).toArray⟩ := by
  apply str_eq
  unfold plcL
  simp only [cat_list, txt_list, List.append_assoc]
  rfl
theorem tx40 {x : Int} (h : In40 x) : (txt x).size ≤ 20 := by unfold In40 at h; exact txt_size (by omega) (by omega)
theorem rt40 {x : Int} (h : In40 x) (w : World) : Calls Try.prog 31 #[.int .i64 x] w fun e w' => e = .returned (.string (txt x)) ∧ Below w.heap.size w w' := by unfold In40 at h; exact rtext_any x w (by omega) (by omega)

set_option maxHeartbeats 4000000 in
theorem f17_any {F : List Nat} {w : World} {s : St} {lv : Value} (h : SkR F w lv s.l) (hbd : Bd s) (hl : s.l.length ≤ 1000000) : Calls Try.prog 17 #[refV s lv] w fun e w' => e = .returned (.string ⟨(textL s).toArray⟩) ∧ Below w.heap.size w w' := by
  obtain ⟨A, c, rfl, hc, _, hA⟩ := sk_at h
  have HA := Lib.hid hA
  have HBk := Lib.hid hbd.bk
  have HBD := Lib.hid hbd
  obtain ⟨W, hW⟩ : ∃ W, W = w.alloc (.cells #[.int .i64 s.x, .int .i64 s.y, .int .i64 s.dx, .int .i64 s.dy, .int .i64 s.step, .bool s.down, .slice A s.l.length c] 28) := ⟨_, rfl⟩
  obtain ⟨g, hg⟩ : ∃ g, g = w.heap.size := ⟨_, rfl⟩
  have hBW : Below g w W := by rw [hW, hg]; exact (Below.refl _ _).alloc (Nat.le_refl _) _
  have hX : W.heap[g]? = some (.cells #[.int .i64 s.x, .int .i64 s.y, .int .i64 s.dx, .int .i64 s.dy, .int .i64 s.step, .bool s.down, .slice A s.l.length c] 28 (0, 0)) := by rw [hW, hg]; exact heap_alloc_new w _
  have HW := Lib.hid hW
  have HG := Lib.hid hg
  have HBW := Lib.hid hBW
  have HX := Lib.hid hX
  clear hA hbd hW hg hBW hX h
  unfold refV
  go_enter Try.func17, Try.ntmps17
  go_wp2_with fail
  rw [← HW.out, ← HG.out]
  go_loopw [3, 4] (fun a i wr => ∃ (j : Nat) (A0 : ByteArray), j ≤ s.l.length ∧ i = .int .i64 j ∧ a = .string A0 ∧ Hid (A0 = ⟨((s.l.take j).flatMap lineL).toArray⟩) ∧ Hid (Below g w wr) ∧ Hid (wr.heap[g]? = some (.cells #[.int .i64 s.x, .int .i64 s.y, .int .i64 s.dx, .int .i64 s.dy, .int .i64 s.step, .bool s.down, .slice A s.l.length c] 28 (0, 0)))) (fun _ i _ => s.l.length - (intOf i).toNat)
  case atStart => exact ⟨0, _, Nat.zero_le _, rfl, rfl, Lib.hid rfl, HBW, HX⟩
  case round =>
    obtain ⟨j, A0, hj, rfl, rfl, hA0, hBl, hX⟩ := hrel
    obtain ⟨⟨x0, x1, x2, x3, x4, x5, x6⟩, _⟩ := cells7 hX.out
    have hgl : g < wr.heap.size := (Array.getElem?_eq_some_iff.1 hX.out).1
    have hlen := lines_len (l := s.l.take j) fun k hk => HBk.out k (List.mem_of_mem_take hk)
    rw [List.length_take, Nat.min_eq_left hj] at hlen
    have hAs : A0.size ≤ j * 84 := by rw [hA0.out, str_size]; exact hlen
    clear hlen
    by_cases hlt : j < s.l.length
    · obtain ⟨z, hz⟩ : ∃ z, s.l[j]? = some z := ⟨_, List.getElem?_eq_getElem hlt⟩
      obtain ⟨b2, o2, rfl, hgd, e0, e1, e2, e3⟩ := HA.out j z hz
      have hgd1 : b2 < g := by rw [HG.out]; exact hgd.1
      have t0 := (hBl.out.cell (p := ⟨b2, o2 + j * 4, none⟩) hgd1).trans e0
      have t1 := (hBl.out.cell (p := ⟨b2, o2 + j * 4 + 1, none⟩) hgd1).trans e1
      have t2 := (hBl.out.cell (p := ⟨b2, o2 + j * 4 + 2, none⟩) hgd1).trans e2
      have t3 := (hBl.out.cell (p := ⟨b2, o2 + j * 4 + 3, none⟩) hgd1).trans e3
      have hbz := HBk.out z (List.mem_of_getElem? hz)
      have T1 := Lib.hid (rt40 hbz.1)
      have T2 := Lib.hid (rt40 hbz.2.1)
      have T3 := Lib.hid (rt40 hbz.2.2.1)
      have T4 := Lib.hid (rt40 hbz.2.2.2)
      have p1 := tx40 hbz.1
      have p2 := tx40 hbz.2.1
      have p3 := tx40 hbz.2.2.1
      have p4 := tx40 hbz.2.2.2
      have HZ := Lib.hid (lines_succ hz)
      have HLC := Lib.hid (line_cat2 A0 z)
      obtain ⟨b5, hb5⟩ : ∃ b5, b5 = wr.heap.size := ⟨_, rfl⟩
      obtain ⟨V, hV⟩ : ∃ V, V = wr.alloc (.cells #[.int .i64 z.x, .int .i64 z.y, .int .i64 z.u, .int .i64 z.v] 70) := ⟨_, rfl⟩
      have hBV : Below wr.heap.size wr V := by rw [hV]; exact (Below.refl _ _).alloc (Nat.le_refl _) _
      have hvb : V.heap[b5]? = some (.cells #[.int .i64 z.x, .int .i64 z.y, .int .i64 z.u, .int .i64 z.v] 70 (0, 0)) := by rw [hV, hb5]; exact heap_alloc_new wr _
      have v0 : V.cell? ⟨b5, 0, none⟩ = some (.int .i64 z.x) := by rw [cell_of_row V b5 0 _ _ _ hvb]; rfl
      have v1 : V.cell? ⟨b5, 1, none⟩ = some (.int .i64 z.y) := by rw [cell_of_row V b5 1 _ _ _ hvb]; rfl
      have v2 : V.cell? ⟨b5, 2, none⟩ = some (.int .i64 z.u) := by rw [cell_of_row V b5 2 _ _ _ hvb]; rfl
      have v3 : V.cell? ⟨b5, 3, none⟩ = some (.int .i64 z.v) := by rw [cell_of_row V b5 3 _ _ _ hvb]; rfl
      have l5 : b5 < V.heap.size := (Array.getElem?_eq_some_iff.1 hvb).1
      have HV := Lib.hid hV
      have HB5 := Lib.hid hb5
      have HLV := Lib.hid (hBl.out.trans (hBV.mono (by omega)))
      have HXV := Lib.hid ((hBV.block _ hgl).trans hX.out)
      have hglv := Nat.lt_of_lt_of_le hgl hBV.size
      have n0 : A0.size + (txt z.x).size ≤ 9223372036854775807 := by omega
      have m0 : ¬ 9223372036854775807 < A0.size + (txt z.x).size := by omega
      have n1 : A0.size + (txt z.x).size + 1 ≤ 9223372036854775807 := by omega
      have m1 : ¬ 9223372036854775807 < A0.size + (txt z.x).size + 1 := by omega
      have n2 : A0.size + (txt z.x).size + 1 + (txt z.y).size ≤ 9223372036854775807 := by omega
      have m2 : ¬ 9223372036854775807 < A0.size + (txt z.x).size + 1 + (txt z.y).size := by omega
      have n3 : A0.size + (txt z.x).size + 1 + (txt z.y).size + 1 ≤ 9223372036854775807 := by omega
      have m3 : ¬ 9223372036854775807 < A0.size + (txt z.x).size + 1 + (txt z.y).size + 1 := by omega
      have n4 : A0.size + (txt z.x).size + 1 + (txt z.y).size + 1 + (txt z.u).size ≤ 9223372036854775807 := by omega
      have m4 : ¬ 9223372036854775807 < A0.size + (txt z.x).size + 1 + (txt z.y).size + 1 + (txt z.u).size := by omega
      have n5 : A0.size + (txt z.x).size + 1 + (txt z.y).size + 1 + (txt z.u).size + 1 ≤ 9223372036854775807 := by omega
      have m5 : ¬ 9223372036854775807 < A0.size + (txt z.x).size + 1 + (txt z.y).size + 1 + (txt z.u).size + 1 := by omega
      have n6 : A0.size + (txt z.x).size + 1 + (txt z.y).size + 1 + (txt z.u).size + 1 + (txt z.v).size ≤ 9223372036854775807 := by omega
      have m6 : ¬ 9223372036854775807 < A0.size + (txt z.x).size + 1 + (txt z.y).size + 1 + (txt z.u).size + 1 + (txt z.v).size := by omega
      have n7 : A0.size + (txt z.x).size + 1 + (txt z.y).size + 1 + (txt z.u).size + 1 + (txt z.v).size + 1 ≤ 9223372036854775807 := by omega
      have m7 : ¬ 9223372036854775807 < A0.size + (txt z.x).size + 1 + (txt z.y).size + 1 + (txt z.u).size + 1 + (txt z.v).size + 1 := by omega
      clear e0 e1 e2 e3 hbz hz hvb hV hb5 hBV hgd
      go_wp2_with fail
      rw [← HV.out, ← HB5.out]
      go_region_held3 (fun w' => w'.cell? ⟨b5, 0, none⟩ = some (.int .i64 z.x) ∧ w'.cell? ⟨b5, 1, none⟩ = some (.int .i64 z.y) ∧ w'.cell? ⟨b5, 2, none⟩ = some (.int .i64 z.u) ∧ w'.cell? ⟨b5, 3, none⟩ = some (.int .i64 z.v)) (go_keep) (first | (go_at_call 31; (with_reducible refine (T1.out _).mono ?_); rintro e u1 ⟨rfl, hb⟩; have HK1 : Hid (Below V.heap.size V u1) := Lib.hid ⟨hb.os, hb.tape, hb.output, hb.size, hb.block⟩; have r10 := (HK1.out.cell (p := ⟨b5, 0, none⟩) l5).trans v0; have r11 := (HK1.out.cell (p := ⟨b5, 1, none⟩) l5).trans v1; have r12 := (HK1.out.cell (p := ⟨b5, 2, none⟩) l5).trans v2; have r13 := (HK1.out.cell (p := ⟨b5, 3, none⟩) l5).trans v3; clear hb; clear T1) | (go_at_call 31; (with_reducible refine (T2.out _).mono ?_); rintro e u2 ⟨rfl, hb⟩; have HK2 : Hid (Below V.heap.size V u2) := Lib.hid (HK1.out.trans (hb.mono HK1.out.size)); have r20 := (HK2.out.cell (p := ⟨b5, 0, none⟩) l5).trans v0; have r21 := (HK2.out.cell (p := ⟨b5, 1, none⟩) l5).trans v1; have r22 := (HK2.out.cell (p := ⟨b5, 2, none⟩) l5).trans v2; have r23 := (HK2.out.cell (p := ⟨b5, 3, none⟩) l5).trans v3; clear hb; clear T2) | (go_at_call 31; (with_reducible refine (T3.out _).mono ?_); rintro e u3 ⟨rfl, hb⟩; have HK3 : Hid (Below V.heap.size V u3) := Lib.hid (HK2.out.trans (hb.mono HK2.out.size)); have r30 := (HK3.out.cell (p := ⟨b5, 0, none⟩) l5).trans v0; have r31 := (HK3.out.cell (p := ⟨b5, 1, none⟩) l5).trans v1; have r32 := (HK3.out.cell (p := ⟨b5, 2, none⟩) l5).trans v2; have r33 := (HK3.out.cell (p := ⟨b5, 3, none⟩) l5).trans v3; clear hb; clear T3) | (go_at_call 31; (with_reducible refine (T4.out _).mono ?_); rintro e u4 ⟨rfl, hb⟩; have HK4 : Hid (Below V.heap.size V u4) := Lib.hid (HK3.out.trans (hb.mono HK3.out.size)); have r40 := (HK4.out.cell (p := ⟨b5, 0, none⟩) l5).trans v0; have r41 := (HK4.out.cell (p := ⟨b5, 1, none⟩) l5).trans v1; have r42 := (HK4.out.cell (p := ⟨b5, 2, none⟩) l5).trans v2; have r43 := (HK4.out.cell (p := ⟨b5, 3, none⟩) l5).trans v3; clear hb; clear T4))
      have HBL := Lib.hid (HLV.out.trans (HK4.out.mono (by omega)))
      have HXL := Lib.hid ((HK4.out.block _ hglv).trans HXV.out)
      go_wp2_with fail
      go_roundw
      case rel => exact ⟨j + 1, _, by omega, by go_num, rfl, Lib.hid (by rw [HLC.out, HZ.out, hA0.out]), HBL, HXL⟩
      case measure => simp [intOf]; omega
    · obtain rfl : j = s.l.length := by omega
      have hx := HBD.out.x
      have hy := HBD.out.y
      have T1 := Lib.hid (rt40 hx)
      have T2 := Lib.hid (rt40 hy)
      have p1 := tx40 hx
      have p2 := tx40 hy
      have HAC := Lib.hid (at_cat2 A0 s.x s.y)
      have HTK := Lib.hid (List.take_length (l := s.l))
      have n0 : A0.size + 3 ≤ 9223372036854775807 := by omega
      have m0 : ¬ 9223372036854775807 < A0.size + 3 := by omega
      have n1 : A0.size + 3 + (txt s.x).size ≤ 9223372036854775807 := by omega
      have m1 : ¬ 9223372036854775807 < A0.size + 3 + (txt s.x).size := by omega
      have n2 : A0.size + 3 + (txt s.x).size + 1 ≤ 9223372036854775807 := by omega
      have m2 : ¬ 9223372036854775807 < A0.size + 3 + (txt s.x).size + 1 := by omega
      have n3 : A0.size + 3 + (txt s.x).size + 1 + (txt s.y).size ≤ 9223372036854775807 := by omega
      have m3 : ¬ 9223372036854775807 < A0.size + 3 + (txt s.x).size + 1 + (txt s.y).size := by omega
      have n4 : A0.size + 3 + (txt s.x).size + 1 + (txt s.y).size + 1 ≤ 9223372036854775807 := by omega
      have m4 : ¬ 9223372036854775807 < A0.size + 3 + (txt s.x).size + 1 + (txt s.y).size + 1 := by omega
      clear hx hy x2 x3 x4 x5
      go_wp2_with fail
      go_region_held3 (fun w' => w'.cell? ⟨g, 0, none⟩ = some (.int .i64 s.x) ∧ w'.cell? ⟨g, 1, none⟩ = some (.int .i64 s.y)) (go_keep) (first | (go_at_call 31; (with_reducible refine (T1.out _).mono ?_); rintro e u1 ⟨rfl, hb⟩; have HK1 : Hid (Below wr.heap.size wr u1) := Lib.hid ⟨hb.os, hb.tape, hb.output, hb.size, hb.block⟩; have r0 := (HK1.out.cell (p := ⟨g, 0, none⟩) hgl).trans x0; have r1 := (HK1.out.cell (p := ⟨g, 1, none⟩) hgl).trans x1; clear hb; clear T1) | (go_at_call 31; (with_reducible refine (T2.out _).mono ?_); rintro e u2 ⟨rfl, hb⟩; have HK2 : Hid (Below wr.heap.size wr u2) := Lib.hid (HK1.out.trans (hb.mono HK1.out.size)); have q0 := (HK2.out.cell (p := ⟨g, 0, none⟩) hgl).trans x0; have q1 := (HK2.out.cell (p := ⟨g, 1, none⟩) hgl).trans x1; clear hb; clear T2))
      go_wp2_with fail
      go_ret
      have hfin : (A0 ++ ⟨#[97, 116, 32]⟩ ++ txt s.x ++ ⟨#[32]⟩ ++ txt s.y ++ ⟨#[10]⟩ : ByteArray) = ⟨(textL s).toArray⟩ := by
        rw [HAC.out, hA0.out, HTK.out]; rfl
      refine ⟨congrArg (fun q => Ending.returned (Value.string q)) hfin, ?_⟩
      rw [← HG.out]
      exact hBl.out.trans (HK2.out.mono (by omega))
end Go.Proofs.Ytkjfbjgcfkmhkaa
