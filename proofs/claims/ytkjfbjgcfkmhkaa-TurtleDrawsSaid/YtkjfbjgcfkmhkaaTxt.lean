import Derived.Test.YtkjfbjgcfkmhkaaIs
import Derived.Test.YtkjfbjgcfkmhkaaBld
import Derived.Test.YtkjfbjgcfkmhkaaShelf
namespace Go.Proofs.Ytkjfbjgcfkmhkaa
open Go.RowKit
set_option linter.unusedVariables false
set_option linter.unusedSimpArgs false

def plc (x y : Int) : ByteArray := txt x ++ ⟨#[32]⟩ ++ txt y
def plcL (x y : Int) : List UInt8 := txtL x ++ 32 :: txtL y
theorem txt_list (x : Int) : (txt x).data.toList = txtL x := by unfold txt; simp
theorem plc_list (x y : Int) : (plc x y).data.toList = plcL x y := by unfold plc plcL; simp [txt_list]
def lineL (k : Sk) : List UInt8 := plcL k.x k.y ++ 32 :: (plcL k.u k.v ++ [10])
def textL (s : St) : List UInt8 := s.l.flatMap lineL ++ (97 :: 116 :: 32 :: (plcL s.x s.y ++ [10]))
def In40 (x : Int) : Prop := -1099511627776 ≤ x ∧ x ≤ 1099511627776
theorem plc_size {x y : Int} (hx : In40 x) (hy : In40 y) : (plc x y).size ≤ 41 := by
  unfold In40 at hx hy
  have h1 := txt_size (z := x) (by omega) (by omega)
  have h2 := txt_size (z := y) (by omega) (by omega)
  unfold plc
  have h3 : (txt x ++ ⟨#[32]⟩ ++ txt y).size = (txt x).size + 1 + (txt y).size := by rw [ByteArray.size_append, ByteArray.size_append]; rfl
  omega

theorem f29_any {a b : Nat} {x y : Int} (ha : FI a x) (hb : FI b y) (hx : In40 x) (hy : In40 y) (w : World) : Calls Try.prog 29 #[cpx a b] w fun e w' => e = .returned (.string (plc x y)) ∧ Below w.heap.size w w' := by
  unfold In40 at hx hy
  have c1 := fun w : World => run_convert_float_int (P := Try.prog) w 48 3 .f64 .i64 a x (by kernel_rfl) Try.underlying3 (ha.toInt (by omega) (by omega))
  have c2 := fun w : World => run_convert_float_int (P := Try.prog) w 48 3 .f64 .i64 b y (by kernel_rfl) Try.underlying3 (hb.toInt (by omega) (by omega))
  have s1 := txt_size (z := x) (by omega) (by omega)
  have s2 := txt_size (z := y) (by omega) (by omega)
  have H1 := Lib.hid (fun w => text_any x w (by omega) (by omega))
  have H2 := Lib.hid (fun w => text_any y w (by omega) (by omega))
  clear ha hb hx hy
  go_enter Try.func29, Try.ntmps29
  go_wp2_with fail
  refine (H1.out _).mono ?_
  rintro e w1 ⟨rfl, hb1⟩
  go_wp2_with fail
  refine (H2.out _).mono ?_
  rintro e w2 ⟨rfl, hb2⟩
  go_wp2_with fail
  go_ret
  exact ⟨rfl, hb1.trans (hb2.mono hb1.size)⟩


theorem line_cat (k : Sk) : (plc k.x k.y ++ ⟨#[32]⟩ ++ plc k.u k.v ++ ⟨#[10]⟩ : ByteArray).data.toList = lineL k := by
  unfold lineL
  rw [ByteArray.data_append, Array.toList_append, ByteArray.data_append, Array.toList_append, ByteArray.data_append, Array.toList_append, plc_list, plc_list, List.append_assoc, List.append_assoc]; rfl
theorem ret_str {a b : List UInt8} (h : a = b) : Ending.returned (.string ⟨a.toArray⟩) = .returned (.string ⟨b.toArray⟩) := by rw [h]
theorem at_cat (x y : Int) : ((⟨#[97, 116, 32]⟩ : ByteArray) ++ plc x y ++ ⟨#[10]⟩).data.toList = 97 :: 116 :: 32 :: (plcL x y ++ [10]) := by
  rw [ByteArray.data_append, Array.toList_append, ByteArray.data_append, Array.toList_append, plc_list]; rfl
theorem plcL_len {x y : Int} (hx : In40 x) (hy : In40 y) : (plcL x y).length ≤ 41 := by
  rw [← plc_list]; have := plc_size hx hy; exact (by rw [Array.length_toList]; exact this)
def Bk (k : Sk) : Prop := In40 k.x ∧ In40 k.y ∧ In40 k.u ∧ In40 k.v
theorem lineL_len {k : Sk} (h : Bk k) : (lineL k).length ≤ 84 := by
  unfold lineL
  have h1 := plcL_len h.1 h.2.1
  have h2 := plcL_len h.2.2.1 h.2.2.2
  simp; omega
theorem lines_len {l : List Sk} (h : ∀ k ∈ l, Bk k) : (l.flatMap lineL).length ≤ l.length * 84 := by
  induction l with
  | nil => simp
  | cons k l ih =>
    rw [List.flatMap_cons, List.length_append]
    have h1 := lineL_len (h k (by simp))
    have h2 := ih fun q hq => h q (by simp [hq])
    rw [List.length_cons]; omega
theorem lines_succ {l : List Sk} {j : Nat} {k : Sk} (h : l[j]? = some k) : (l.take (j + 1)).flatMap lineL = (l.take j).flatMap lineL ++ lineL k := by
  rw [List.take_add_one, h]; simp
theorem Bd.bk {s : St} (h : Bd s) : ∀ k ∈ s.l, Bk k := fun k hk => h.l k hk

set_option maxHeartbeats 2000000 in
theorem f16_any {F : List Nat} {w : World} {p : Nat} {s : St} (h : Tu F w p s) (hl : s.l.length ≤ 1000000) : Calls Try.prog 16 #[.pointer (some ⟨p, 0, none⟩)] w fun e w' => e = .returned (.string ⟨(textL s).toArray⟩) ∧ Below w.heap.size w w' := by
  have hst := st_cpx
  obtain ⟨a, b, c, d, e, sv, cs, h⟩ := h
  obtain ⟨B, m, rfl, hm, hB⟩ := own_cells h.ow
  have hplt := h.plt
  obtain ⟨⟨c0, c1, c2, c3, c4⟩, _⟩ := cells5 h.blk
  have HH := Lib.hid h
  have HB := Lib.hid hB
  have HBk := Lib.hid h.bd.bk
  obtain ⟨W, hW⟩ : ∃ W, W = w.alloc (.cells #[.pointer none, .slice none 0 0] 76) := ⟨_, rfl⟩
  obtain ⟨g, hg⟩ : ∃ g, g = w.heap.size := ⟨_, rfl⟩
  have hb0 : Bld g g [] W := by rw [hW, hg]; exact Bld.fresh w
  have hBW : Below g w W := by rw [hW, hg]; exact (Below.refl _ _).alloc (Nat.le_refl _) _
  have HW := Lib.hid hW
  have HG := Lib.hid hg
  have HB0 := Lib.hid hb0
  have HBW := Lib.hid hBW
  have w4 := (hBW.cell (p := ⟨p, 4, none⟩) (by rw [hg]; exact hplt)).trans c4
  have hgw : g < W.heap.size := by rw [hW, hg]; simp
  have hpg : p < g := by rw [hg]; exact hplt
  clear h hB hW hg hb0 hBW c1 c2 c3
  go_enter Try.func16, Try.ntmps16
  go_wp2_with fail
  rw [← HW.out, ← HG.out]
  go_loopw [11] (fun i wr => ∃ j : Nat, j ≤ s.l.length ∧ i = .int .i64 j ∧ Hid (Below g w wr) ∧ Hid (Bld g g ((s.l.take j).flatMap lineL) wr)) (fun i _ => s.l.length - (intOf i).toNat)
  case atStart => exact ⟨0, Nat.zero_le _, rfl, HBW, HB0⟩
  case round =>
    obtain ⟨j, hj, rfl, hBl, hbd⟩ := hrel
    have hgr : g < wr.heap.size := hbd.out.lt.1
    by_cases hlt : j < s.l.length
    · obtain ⟨z, hz⟩ : ∃ z, s.l[j]? = some z := ⟨_, List.getElem?_eq_getElem hlt⟩
      obtain ⟨u, v, hu, hv, ⟨ua, ub, rfl, fa, fb⟩, va, vb, rfl, fc, fd⟩ := HH.out.sc j z hz
      obtain ⟨g2, rfl, _, hg2, hcell⟩ := HB.out (by omega)
      have s0 := (hBl.out.cell (p := ⟨g2, j * 2, none⟩) (by rw [HG.out]; exact hg2)).trans (hcell _ _ hu)
      have s1 := (hBl.out.cell (p := ⟨g2, j * 2 + 1, none⟩) (by rw [HG.out]; exact hg2)).trans (hcell _ _ hv)
      have hbz := HBk.out z (List.mem_of_getElem? hz)
      have T1 := Lib.hid (fun w => f29_any fa fb hbz.1 hbz.2.1 w)
      have T2 := Lib.hid (fun w => f29_any fc fd hbz.2.2.1 hbz.2.2.2 w)
      have p1 := plc_size hbz.1 hbz.2.1
      have p2 := plc_size hbz.2.2.1 hbz.2.2.2
      have hlen := lines_len (l := s.l.take j) fun k hk => HBk.out k (List.mem_of_mem_take hk)
      rw [List.length_take, Nat.min_eq_left hj] at hlen
      have HZ := Lib.hid (lines_succ hz)
      have HLC := Lib.hid (line_cat z)
      obtain ⟨b5, hb5⟩ : ∃ b5, b5 = wr.heap.size := ⟨_, rfl⟩
      obtain ⟨V, hV⟩ : ∃ V, V = wr.alloc (.cells #[cpx ua ub, cpx va vb] 68) := ⟨_, rfl⟩
      have hBV : Below wr.heap.size wr V := by rw [hV]; exact (Below.refl _ _).alloc (Nat.le_refl _) _
      have hvb : V.heap[b5]? = some (.cells #[cpx ua ub, cpx va vb] 68 (0, 0)) := by rw [hV, hb5]; exact heap_alloc_new wr _
      have t0 : V.cell? ⟨b5, 0, none⟩ = some (cpx ua ub) := by rw [cell_of_row V b5 0 _ _ _ hvb]; rfl
      have t1 : V.cell? ⟨b5, 1, none⟩ = some (cpx va vb) := by rw [cell_of_row V b5 1 _ _ _ hvb]; rfl
      have l5 : b5 < V.heap.size := (Array.getElem?_eq_some_iff.1 hvb).1
      have HV := Lib.hid hV
      have HB5 := Lib.hid hb5
      have HVB := Lib.hid hvb
      have hb5g : b5 ≠ g := by omega
      have HLV := Lib.hid (hBl.out.trans (hBV.mono (by omega)))
      have HDV := Lib.hid (hbd.out.below hBV)
      have hgv := Nat.lt_of_lt_of_le hgr hBV.size
      have hsz : (plc z.x z.y ++ ⟨#[32]⟩ ++ plc z.u z.v ++ ⟨#[10]⟩ : ByteArray).size ≤ 84 := by
        rw [ByteArray.size_append, ByteArray.size_append, ByteArray.size_append]
        have e1 : (⟨#[32]⟩ : ByteArray).size = 1 := rfl
        have e2 : (⟨#[10]⟩ : ByteArray).size = 1 := rfl
        omega
      have n1 : (plc z.x z.y).size + 1 ≤ 9223372036854775807 := by omega
      have n2 : (plc z.x z.y).size + 1 + (plc z.u z.v).size ≤ 9223372036854775807 := by omega
      have n3 : (plc z.x z.y).size + 1 + (plc z.u z.v).size + 1 ≤ 9223372036854775807 := by omega
      have m1 : ¬ 9223372036854775807 < (plc z.x z.y).size + 1 := by omega
      have m2 : ¬ 9223372036854775807 < (plc z.x z.y).size + 1 + (plc z.u z.v).size := by omega
      have m3 : ¬ 9223372036854775807 < (plc z.x z.y).size + 1 + (plc z.u z.v).size + 1 := by omega
      clear hu hv hcell hbz fa fb fc fd hz hvb hV hb5 hBV
      go_wp2_with fail
      rw [← HV.out, ← HB5.out]
      go_region_held3 (fun w' => w'.cell? ⟨b5, 0, none⟩ = some (cpx ua ub) ∧ w'.cell? ⟨b5, 1, none⟩ = some (cpx va vb)) (go_keep) (first | (go_at_call 29; (with_reducible refine (T1.out _).mono ?_); rintro e w1 ⟨rfl, hb1⟩; have HK1 : Hid (Below V.heap.size V w1) := Lib.hid ⟨hb1.os, hb1.tape, hb1.output, hb1.size, hb1.block⟩; have r0 := (HK1.out.cell (p := ⟨b5, 0, none⟩) l5).trans t0; have r1 := (HK1.out.cell (p := ⟨b5, 1, none⟩) l5).trans t1; clear hb1) | (go_at_call 29; (with_reducible refine (T2.out _).mono ?_); rintro e w2 ⟨rfl, hb2⟩; have HK2 : Hid (Below V.heap.size V w2) := Lib.hid (HK1.out.trans (hb2.mono HK1.out.size)); have q0 := (HK2.out.cell (p := ⟨b5, 0, none⟩) l5).trans t0; have q1 := (HK2.out.cell (p := ⟨b5, 1, none⟩) l5).trans t1; clear hb2) | (go_at_call 28; refine (wstr_any g g _ _ _ (HDV.out.below HK2.out) (by omega) (by have := HK2.out.size; omega)).mono ?_; rintro e w3 ⟨rfl, hb3, hB3, hq3⟩; have hv3 := (hq3 b5 68 _ _ hb5g (by decide) ((HK2.out.block _ l5).trans HVB.out)).trans ((HK2.out.block _ l5).trans HVB.out); have v0 : w3.cell? ⟨b5, 0, none⟩ = some (cpx ua ub) := (by rw [cell_of_row w3 b5 0 _ _ _ hv3]; rfl); have v1 : w3.cell? ⟨b5, 1, none⟩ = some (cpx va vb) := (by rw [cell_of_row w3 b5 1 _ _ _ hv3]; rfl); clear hv3 hq3; have HD3 := Lib.hid hb3; have HL3 := Lib.hid ((HLV.out.trans (HK2.out.mono (by omega))).trans hB3); clear hb3 hB3))
      go_wp2_with fail
      go_roundw
      case rel => exact ⟨j + 1, by omega, by go_num, HL3, Lib.hid (by rw [HZ.out, ← HLC.out]; exact HD3.out)⟩
      case measure => simp [intOf]; omega
    · obtain rfl : j = s.l.length := by omega
      have k0 := (hBl.out.cell (p := ⟨p, 0, none⟩) hpg).trans c0
      have hx := HH.out.bd.x
      have hy := HH.out.bd.y
      have T := Lib.hid (fun w => f29_any HH.out.fa HH.out.fb hx hy w)
      have p1 := plc_size hx hy
      have hlen := lines_len HBk.out
      have HTK := Lib.hid (List.take_length (l := s.l))
      have HPL := Lib.hid (plc_list s.x s.y)
      clear hx hy c0
      go_wp2_with fail
      refine (T.out _).mono ?_
      rintro e w1 ⟨rfl, hb1⟩
      have HD1 := Lib.hid (hbd.out.below hb1)
      have HL1 := Lib.hid (hBl.out.trans (hb1.mono (by omega)))
      have hs1 := hb1.size
      have hsz : (⟨#[97, 116, 32]⟩ ++ plc s.x s.y ++ ⟨#[10]⟩ : ByteArray).size ≤ 45 := by
        rw [ByteArray.size_append, ByteArray.size_append]
        have e1 : (⟨#[97, 116, 32]⟩ : ByteArray).size = 3 := rfl
        have e2 : (⟨#[10]⟩ : ByteArray).size = 1 := rfl
        omega
      clear hb1
      go_wp2_with fail
      refine (wstr_any g g _ _ _ HD1.out (by rw [HTK.out]; omega) (by omega)).mono ?_
      rintro e w2 ⟨rfl, hb2, hB2, _⟩
      have HD2 := Lib.hid hb2
      have HL2 := Lib.hid (HL1.out.trans hB2)
      clear hb2 hB2
      go_wp2_with fail
      refine (Try.Builder_String_any g g _ _ HD2.out (Nat.le_of_lt HD2.out.lt.1)).mono ?_
      rintro e w3 ⟨rfl, hB3⟩
      go_wp2_with fail
      go_ret
      refine ⟨?_, by rw [← HG.out]; exact HL2.out.trans hB3⟩
      exact ret_str (by unfold textL; rw [← HPL.out])
end Go.Proofs.Ytkjfbjgcfkmhkaa
