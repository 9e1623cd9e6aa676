import Derived.Test.YtengenceelmijaaInner
import Derived.BigQuiet
import Derived.StillTailTactics
import Derived.Deep.RegionHeld3
import Derived.Test.YtengenceelmijaaReg
namespace Go.Proofs.Ytengenceelmijaa
open Go.RowKit
set_option linter.unusedVariables false

def obV (x : Ob) (pv : Value) : Value := .agg #[.string x.nm, .int .i64 x.kd, .int .i64 x.ty, .int .i64 x.lv, .int .i32 x.n, .int .i64 x.md, .bool x.out, pv]
def badName (s : ByteArray) : Bool := s.size == 0 || decide (32 < s.size)
def top (a : Abs) : List Ob := a.opn[a.opn.length - 1]?.getD []
def declare (a : Abs) (x : Ob) : Int × Abs :=
  if badName x.nm then (140, a)
  else if (findI ((top a).map Ob.nm) x.nm).isSome then (51, a)
  else if 4096 ≤ (top a).length then (242, a)
  else (0, ⟨a.opn.set (a.opn.length - 1) (top a ++ [{ x with lv := (a.opn.length : Int) - 1 }]), a.mds⟩)

theorem isEmpty_size (s : ByteArray) : s.toList.isEmpty = decide (s.size = 0) := by
  rw [ByteArray.toList_eq]
  have h : s.size = s.data.toList.length := by rw [Array.length_toList]; rfl
  rw [h]
  cases s.data.toList <;> simp

theorem f11_bad {F : List Nat} {w : World} {p : Nat} {a : Abs} (x : Ob) (pv : Value) (h : Sc F w p a) (hbad : badName x.nm = true) :
    Calls Try.prog 11 #[.pointer (some ⟨p, 0, none⟩), obV x pv] w fun e w' => e = .returned (.int .i64 140) ∧ Below w.heap.size w w' := by
  obtain ⟨ov, mv, vs, ms, h⟩ := h
  obtain ⟨h0, h1, hf, hp⟩ := h.pcell
  have hs1 := h.small.1
  have hs2 := h.small.2.2
  obtain ⟨A, c, rfl, hc, hA⟩ := own_cells h.ow
  clear h h1 hf hA
  unfold obV
  by_cases hz : x.nm.size = 0
  · have hz' : x.nm.toList.isEmpty = true := by rw [isEmpty_size]; simpa using hz
    go_enter Try.func11, Try.ntmps11
    go_wp2_with fail
    go_ret
    exact ⟨rfl, (Below.refl _ _).alloc (Nat.le_refl _) _⟩
  · have hz' : x.nm.toList.isEmpty = false := by rw [isEmpty_size]; simpa using hz
    have hb : 32 < x.nm.size := by simpa [badName, hz] using hbad
    go_enter Try.func11, Try.ntmps11
    go_wp2_with fail
    go_ret
    exact ⟨rfl, (Below.refl _ _).alloc (Nat.le_refl _) _⟩

theorem OC.snoc {F : List Nat} {w : World} {cs : List Value} {xs : List Ob} {x : Ob} {pv : Value} (h : OC F w cs xs) (hl : cs.length = xs.length * 8) (hp : PsR F w pv x.ps) :
    OC F w (cs ++ [.string x.nm, .int .i64 x.kd, .int .i64 x.ty, .int .i64 x.lv, .int .i32 x.n, .int .i64 x.md, .bool x.out, pv]) (xs ++ [x]) := by
  intro i y hi
  rw [List.getElem?_append] at hi
  split at hi
  · rename_i hlt
    obtain ⟨h0, h1, h2, h3, h4, h5, h6, q, h7, hq⟩ := h i y hi
    have k : ∀ r, r < 8 → (cs ++ [.string x.nm, .int .i64 x.kd, .int .i64 x.ty, .int .i64 x.lv, .int .i32 x.n, .int .i64 x.md, .bool x.out, pv])[i * 8 + r]? = cs[i * 8 + r]? := fun r hr => List.getElem?_append_left (by omega)
    exact ⟨(k 0 (by omega)).trans h0, (k 1 (by omega)).trans h1, (k 2 (by omega)).trans h2, (k 3 (by omega)).trans h3, (k 4 (by omega)).trans h4, (k 5 (by omega)).trans h5, (k 6 (by omega)).trans h6, q, (k 7 (by omega)).trans h7, hq⟩
  · rename_i hge
    have hi0 : i - xs.length = 0 := by
      have := (List.getElem?_eq_some_iff.1 hi).1
      simp at this; omega
    rw [hi0] at hi
    simp at hi
    subst hi
    obtain rfl : i = xs.length := by omega
    have k : ∀ r, (cs ++ [.string x.nm, .int .i64 x.kd, .int .i64 x.ty, .int .i64 x.lv, .int .i32 x.n, .int .i64 x.md, .bool x.out, pv])[xs.length * 8 + r]? = [Value.string x.nm, .int .i64 x.kd, .int .i64 x.ty, .int .i64 x.lv, .int .i32 x.n, .int .i64 x.md, .bool x.out, pv][r]? := fun r => by
      rw [List.getElem?_append_right (by omega), hl, Nat.add_sub_cancel_left]
    exact ⟨k 0, k 1, k 2, k 3, k 4, k 5, k 6, pv, k 7, hp⟩

theorem Rd.below {w w' : World} {A : Option Addr} {ns : List ByteArray} (h : Rd w A ns) (hb : Below w.heap.size w w') : Rd w' A ns := by
  intro hne
  obtain ⟨b, o, rfl, hlt, hh⟩ := h hne
  refine ⟨b, o, rfl, Nat.lt_of_lt_of_le hlt hb.size, fun i s hi => ?_⟩
  obtain ⟨y, hy, ⟨q0, q1, q2, q3, q4, q5, q6⟩, pv, q7⟩ := hh i s hi
  have k : ∀ j v, cel w b j v → cel w' b j v := fun j v h => (hb.cell (p := ⟨b, j, none⟩) hlt).trans h
  exact ⟨y, hy, ⟨k _ _ q0, k _ _ q1, k _ _ q2, k _ _ q3, k _ _ q4, k _ _ q5, k _ _ q6⟩, pv, k _ _ q7⟩

theorem f25_obs {w : World} {A : Option Addr} (c : Nat) (xs : List Ob) (tg : ByteArray) (hr : Rd w A (xs.map Ob.nm)) (hn : xs.length ≤ 4194304) :
    Calls Try.prog 25 #[.slice A xs.length c, .string tg] w fun e w' => e = .returned (.int .i64 (findZ (xs.map Ob.nm) tg)) ∧ Below w.heap.size w w' := by
  have := f25_any A c (xs.map Ob.nm) tg w hr (by simpa using hn)
  rwa [List.length_map] at this

theorem info25 : (Try.prog.info? 25).map (fun i => (i.zero, i.size, i.bytes)) = some (some (.agg #[.string ⟨#[]⟩, .int .i64 0, .int .i64 0, .int .i64 0, .int .i32 0, .int .i64 0, .bool false, .slice none 0 0]), 8, 88) := by kernel_rfl
theorem ti66 : TI Try.prog 66 25 (.agg #[.string ⟨#[]⟩, .int .i64 0, .int .i64 0, .int .i64 0, .int .i32 0, .int .i64 0, .bool false, .slice none 0 0]) 8 88 := ⟨Try.underlying66, info25, rfl, by decide, by decide⟩

set_option maxHeartbeats 1000000 in
set_option maxRecDepth 100000 in
theorem f11_any {F : List Nat} {w : World} {p : Nat} {a : Abs} (x : Ob) (pv : Value) (h : Sc F w p a) (hps : PsR F w pv x.ps) (hbad : badName x.nm = false) :
    Calls Try.prog 11 #[.pointer (some ⟨p, 0, none⟩), obV x pv] w fun e w' => e = .returned (.int .i64 (declare a x).1) ∧ ∃ F', Fr F w F' w' ∧ Sc F' w' p (declare a x).2 := by
  obtain ⟨ov, mv, vs, ms, h⟩ := h
  have hsv := h
  obtain ⟨h0, h1, hf, hp⟩ := h.pcell
  have hs1 := h.small.1
  have hs2 := h.small.2.2
  obtain ⟨k, hlen⟩ : ∃ k, a.opn.length = k + 1 := ⟨a.opn.length - 1, by omega⟩
  obtain ⟨A, c, rfl, hc, hA⟩ := own_cells h.ow
  obtain ⟨g, rfl, hgb, hg, hAc⟩ := hA hs2
  have hl := h.os.1
  obtain ⟨v, hv⟩ : ∃ v, vs[k]? = some v := ⟨_, List.getElem?_eq_getElem (by omega)⟩
  obtain ⟨xs, hxs⟩ : ∃ xs, a.opn[k]? = some xs := ⟨_, List.getElem?_eq_getElem (by omega)⟩
  have htop : top a = xs := by rw [top, hlen, Nat.add_sub_cancel, hxs]; rfl
  have hob := h.os.2 _ v xs hv hxs
  obtain ⟨B, d, rfl, hrd, hcell⟩ := hob.rd
  have hgv := hAc _ _ hv
  have hxl := hob.1
  obtain ⟨hz, hz32⟩ : x.nm.size ≠ 0 ∧ ¬ 32 < x.nm.size := by simpa [badName] using hbad
  have hz' : x.nm.toList.isEmpty = false := by rw [isEmpty_size]; simpa using hz
  have hz3 : decide ((32 : Int) < x.nm.size) = false := by simp; omega
  obtain ⟨W, hW⟩ : ∃ W, W = w.alloc (.cells #[.string x.nm, .int .i64 x.kd, .int .i64 x.ty, .int .i64 x.lv, .int .i32 x.n, .int .i64 x.md, .bool x.out, pv] 25) := ⟨_, rfl⟩
  have hBW : Below w.heap.size w W := by rw [hW]; exact (Below.refl _ _).alloc (Nat.le_refl _) _
  have hWx : W.heap[w.heap.size]? = some (.cells #[.string x.nm, .int .i64 x.kd, .int .i64 x.ty, .int .i64 x.lv, .int .i32 x.n, .int .i64 x.md, .bool x.out, pv] 25 (0, 0)) := by rw [hW]; exact heap_alloc_new w _
  rw [hlen] at h0
  have w0 := (hBW.cell (p := ⟨p, 0, none⟩) hp).trans h0
  have wg := (hBW.cell (p := ⟨g, k, none⟩) hg).trans hgv
  have wx : W.cell? ⟨w.heap.size, 0, none⟩ = some (.string x.nm) := by rw [cell_of_row W _ 0 _ _ _ hWx]; rfl
  have hWs : w.heap.size < W.heap.size := by rw [hW]; simp
  have HR := Lib.hid (show Rd W.drew B (xs.map Ob.nm) from hrd.below (w' := W.drew) hBW.drew)
  have HS := Lib.hid hsv
  have HV := Lib.hid hv
  have HX := Lib.hid hxs
  have HT := Lib.hid htop
  have HL := Lib.hid hl
  have HN := Lib.hid hlen
  have HC := Lib.hid hcell
  have HW := Lib.hid hW
  have HWx := Lib.hid hWx
  rw [hlen] at hs1 hc
  clear h h1 hf hA hsv hv hxs htop hAc hl hob hrd hcell hbad hWx hlen hs2 hgb
  have ki : (0 : Int) ≤ (k : Int) := by omega
  have kl : (k : Int) < (k : Int) + 1 := by omega
  unfold obV
  go_enter Try.func11, Try.ntmps11
  go_wp2_with fail
  rw [← hW]
  clear hW
  go_region_held3 (fun w' => w'.cell? ⟨p, 0, none⟩ = some (.slice (some ⟨g, 0, none⟩) (k + 1) c) ∧ w'.cell? ⟨g, k, none⟩ = some (.slice B xs.length d) ∧ w'.cell? ⟨w.heap.size, 0, none⟩ = some (.string x.nm)) (go_keep) (first | (go_at_call 25; refine (f25_obs d xs x.nm HR.out hxl).mono ?_; rintro e w1 ⟨rfl, hb⟩; have q0 := (hb.cell (p := ⟨p, 0, none⟩) (by show p < W.heap.size; omega)).trans w0; have q1 := (hb.cell (p := ⟨g, k, none⟩) (by show g < W.heap.size; omega)).trans wg; have q2 := (hb.cell (p := ⟨w.heap.size, 0, none⟩) (by show w.heap.size < W.heap.size; omega)).trans wx))
  have hB1 : Below w.heap.size w w1 := hBW.drew.trans (hb.mono (show w.heap.size ≤ W.heap.size by omega))
  have hx1 := (hb.block w.heap.size (show w.heap.size < W.heap.size from hWs)).trans HWx.out
  have c3 : w1.cell? ⟨w.heap.size, 3, none⟩ = some (.int .i64 x.lv) := by rw [cell_of_row w1 _ 3 _ _ _ hx1]; rfl
  have c7 : w1.cell? ⟨w.heap.size, 7, none⟩ = some pv := by rw [cell_of_row w1 _ 7 _ _ _ hx1]; rfl
  have f3 : w1.frozen? ⟨w.heap.size, 3, none⟩ = false := frozen_of_row w1 _ 3 _ _ hx1
  have f7 : w1.frozen? ⟨w.heap.size, 7, none⟩ = false := frozen_of_row w1 _ 7 _ _ hx1
  have HX1 := Lib.hid hx1
  have HB := Lib.hid hb
  have HP := Lib.hid hps
  clear hx1 hb hps w0 wg wx hgv h0 hBW
  rcases hfnd : findI (xs.map Ob.nm) x.nm with _ | j
  · have hz4 : findZ (xs.map Ob.nm) x.nm = -1 := by rw [findZ, hfnd]
    have hz5 : findZ (xs.map Ob.nm) x.nm < 0 := by rw [hz4]; omega
    have HF := Lib.hid hfnd
    clear hfnd hz4
    by_cases hful : 4096 ≤ xs.length
    · go_wp2_with fail
      go_ret
      have hd : declare a x = (242, a) := by
        have h1 : badName x.nm = false := by simp [badName, hz]; omega
        simp [declare, h1, HT.out, HF.out, hful]
      rw [hd]
      exact ⟨rfl, F, Fr.of_below hB1, _, _, _, _, HS.out.below hB1⟩
    · obtain ⟨w2, hw2⟩ : ∃ w2, w2 = w1.setCell ⟨w.heap.size, 3, none⟩ (.int .i64 k) := ⟨_, rfl⟩
      have hx2 : w2.heap[w.heap.size]? = some (.cells #[.string x.nm, .int .i64 x.kd, .int .i64 x.ty, .int .i64 k, .int .i32 x.n, .int .i64 x.md, .bool x.out, pv] 25 (0, 0)) := by
        rw [hw2]; exact heap_setCell_same w1 _ 3 _ 25 _ HX1.out
      have hB2 : Below w.heap.size w w2 := by rw [hw2]; exact hB1.setCell (p := ⟨w.heap.size, 3, none⟩) (Nat.le_refl _) _
      have HP2 : Hid (PsR (w.heap.size :: F) w2 pv x.ps) := Lib.hid (Sl.imp HP.out (fun b hb => ⟨Nat.lt_of_lt_of_le hb.1 hB2.size, fun hm => by
        rcases List.mem_cons.1 hm with rfl | hm
        · exact Nat.lt_irrefl _ hb.1
        · exact hb.2 hm⟩) fun b o u hb he => ⟨(hB2.cell (p := ⟨b, o, none⟩) hb.1).trans he.1, (hB2.cell (p := ⟨b, o + 1, none⟩) hb.1).trans he.2⟩)
      have hF2 : ∀ b ∈ w.heap.size :: F, b < w2.heap.size := fun b hb => by
        rcases List.mem_cons.1 hb with rfl | hb
        · exact (Array.getElem?_eq_some_iff.1 hx2).1
        · exact Nat.lt_of_lt_of_le (HS.out.lt b hb) hB2.size
      have HW2 := Lib.hid hw2
      have HX2 := Lib.hid hx2
      clear hx2
      go_wp2_with fail
      rw [← hw2]
      clear hw2
      refine (f26_any HP2.out hF2).mono ?_
      rintro e w3 ⟨pv', rfl, hb3, hps3⟩
      obtain ⟨Ap, cp, rfl⟩ : ∃ A c, pv' = .slice A x.ps.length c := by obtain ⟨_, A, c, h, _⟩ := hps3; exact ⟨A, c, h⟩
      have hx3 := (hb3.block w.heap.size (Array.getElem?_eq_some_iff.1 HX2.out).1).trans HX2.out
      obtain ⟨w4, hw4⟩ : ∃ w4, w4 = w3.setCell ⟨w.heap.size, 7, none⟩ (.slice Ap x.ps.length cp) := ⟨_, rfl⟩
      have hB3 : Below w.heap.size w w3 := hB2.trans (hb3.mono hB2.size)
      have hx4 : w4.heap[w.heap.size]? = some (.cells #[.string x.nm, .int .i64 x.kd, .int .i64 x.ty, .int .i64 k, .int .i32 x.n, .int .i64 x.md, .bool x.out, (.slice Ap x.ps.length cp)] 25 (0, 0)) := by
        rw [hw4]; exact heap_setCell_same w3 _ 7 _ 25 _ hx3
      have hB4 : Below w.heap.size w w4 := by rw [hw4]; exact hB3.setCell (p := ⟨w.heap.size, 7, none⟩) (Nat.le_refl _) _
      have hps4 : PsR F w4 (.slice Ap x.ps.length cp) x.ps := by
        rw [hw4]
        refine Sl.imp hps3 (fun b hb => ⟨by simpa using hb.1, fun hm => hb.2 (List.mem_cons_of_mem _ hm)⟩) fun b o u hb he => ?_
        have hne : b ≠ w.heap.size := fun e => hb.2 (by rw [e]; exact List.mem_cons_self)
        exact ⟨(World.cell?_of_block (a := ⟨b, o, none⟩) (Below.heap_setCell _ _ _ _ hne)).trans he.1, (World.cell?_of_block (a := ⟨b, o + 1, none⟩) (Below.heap_setCell _ _ _ _ hne)).trans he.2⟩
      have hc3 : w3.cell? ⟨w.heap.size, 7, none⟩ = some pv := by rw [cell_of_row w3 _ 7 _ _ _ hx3]; rfl
      have hf3 : w3.frozen? ⟨w.heap.size, 7, none⟩ = false := frozen_of_row w3 _ 7 _ _ hx3
      have hsv4 := HS.out.below hB4
      obtain ⟨r0, _, _, _⟩ := hsv4.pcell
      rw [HN.out] at r0
      obtain ⟨cs, hown, hoc⟩ := (hsv4.os.2 _ _ _ HV.out HX.out).2
      obtain ⟨_, _, e, _, hAc⟩ := own_cells hsv4.ow
      cases e
      obtain ⟨_, e, _, _, hAc⟩ := hAc (by rw [HN.out]; omega)
      cases e
      have r1 := hAc _ _ HV.out
      have x0 : w4.cell? ⟨w.heap.size, 0, none⟩ = some (.string x.nm) := by rw [cell_of_row w4 _ 0 _ _ _ hx4]; rfl
      have x1 : w4.cell? ⟨w.heap.size, 1, none⟩ = some (.int .i64 x.kd) := by rw [cell_of_row w4 _ 1 _ _ _ hx4]; rfl
      have x2 : w4.cell? ⟨w.heap.size, 2, none⟩ = some (.int .i64 x.ty) := by rw [cell_of_row w4 _ 2 _ _ _ hx4]; rfl
      have x3 : w4.cell? ⟨w.heap.size, 3, none⟩ = some (.int .i64 k) := by rw [cell_of_row w4 _ 3 _ _ _ hx4]; rfl
      have x4 : w4.cell? ⟨w.heap.size, 4, none⟩ = some (.int .i32 x.n) := by rw [cell_of_row w4 _ 4 _ _ _ hx4]; rfl
      have x5 : w4.cell? ⟨w.heap.size, 5, none⟩ = some (.int .i64 x.md) := by rw [cell_of_row w4 _ 5 _ _ _ hx4]; rfl
      have x6 : w4.cell? ⟨w.heap.size, 6, none⟩ = some (.bool x.out) := by rw [cell_of_row w4 _ 6 _ _ _ hx4]; rfl
      have x7 : w4.cell? ⟨w.heap.size, 7, none⟩ = some (.slice Ap x.ps.length cp) := by rw [cell_of_row w4 _ 7 _ _ _ hx4]; rfl
      have h4 := (Array.getElem?_eq_some_iff.1 hx4).1
      have h4p : p < w4.heap.size := by omega
      have h4g : g < w4.heap.size := by omega
      have hnd := hsv4.nd
      rw [hsv4.ft] at hnd
      have hkl : k < vs.length := (List.getElem?_eq_some_iff.1 HV.out).1
      have hj : ((Value.slice (some ⟨g, 0, none⟩) a.opn.length c) :: mv :: (vs ++ ms))[2 + k]? = some (.slice B xs.length d) := by
        rw [show 2 + k = k + 1 + 1 by omega]; simp only [List.getElem?_cons_succ]; rw [List.getElem?_append_left hkl]; exact HV.out
      have np : (Value.slice B xs.length d).ownBlock ≠ some p := fun e => nd_p hnd hj e rfl
      have ng : (Value.slice B xs.length d).ownBlock ≠ some g := nd_ne hnd (i := 0) rfl hj (by omega) rfl
      have nx : (Value.slice B xs.length d).ownBlock ≠ some w.heap.size := fun e => by
        have := HS.out.lt w.heap.size (by rw [HS.out.ft]; exact List.mem_cons_of_mem _ (List.mem_filterMap.2 ⟨_, List.mem_of_getElem? hj, e⟩))
        omega
      have hgf : w4.frozen? ⟨g, k, none⟩ = false := by
        rcases hsv4.ow.2 with ⟨e, _⟩ | ⟨_, _, _, e, _, hh, _⟩
        · cases e
        · cases e; exact frozen_of_row w4 _ k _ _ hh
      have HW4 := Lib.hid hw4
      have HX4 := Lib.hid hx4
      have HP4 := Lib.hid hps4
      have HP3 := Lib.hid hps3
      have HX3 := Lib.hid hx3
      have HOC := Lib.hid hoc
      have HS4 := Lib.hid hsv4
      have HJ := Lib.hid hj
      have HND := Lib.hid hnd
      have HB3 := Lib.hid hb3
      clear hx4 hps4 hps3 hx3 hoc hsv4 hj hnd hb3 hAc hkl q0 q1 q2 c3 c7 f3 f7
      go_wp2_with fail
      rw [← hw4]
      clear hw4
      refine wp_region_G (fun w' => w'.cell? ⟨p, 0, none⟩ = some (.slice (some ⟨g, 0, none⟩) (k + 1) c) ∧ w'.cell? ⟨g, k, none⟩ = some (.slice B xs.length d) ∧ w'.cell? ⟨w.heap.size, 0, none⟩ = some (.string x.nm) ∧ w'.cell? ⟨w.heap.size, 1, none⟩ = some (.int .i64 x.kd) ∧ w'.cell? ⟨w.heap.size, 2, none⟩ = some (.int .i64 x.ty) ∧ w'.cell? ⟨w.heap.size, 3, none⟩ = some (.int .i64 k) ∧ w'.cell? ⟨w.heap.size, 4, none⟩ = some (.int .i32 x.n) ∧ w'.cell? ⟨w.heap.size, 5, none⟩ = some (.int .i64 x.md) ∧ w'.cell? ⟨w.heap.size, 6, none⟩ = some (.bool x.out) ∧ w'.cell? ⟨w.heap.size, 7, none⟩ = some (.slice Ap x.ps.length cp)) [16] (by kernel_rfl) ?_
      refine wpG_range 0 13 4 (by kernel_rfl) rfl (by kernel_rfl) (by decide) ⟨r0, r1, x0, x1, x2, x3, x4, x5, x6, x7⟩ (fun K hK => ?_)
      simp only [List.drop_zero, List.take_succ_cons, List.take_zero]
      iterate 13 (refine wpPure_plain (v := ?_) rfl (fun y hy => ?_) ?_; rotate_left; (obtain ⟨h0, h1, h2, h3, h4, h5, h6, h7, h8, h9⟩ := hy; go_simp; rfl))
      refine wpPure_nil ?_
      go_simp
      refine hK _ ?_
      clear hK K
      refine wpG_one 13 3 rfl (by kernel_rfl) rfl ?_
      go_wp2
      refine Cont.mk ⟨fun _ => ?_, ?_⟩
      · go_keep
      refine wpG_one 14 2 rfl (by kernel_rfl) rfl ?_
      refine wpList_app ti66 rfl _ _ rfl (by rfl) (hown.alloc (.cells #[.string x.nm, .int .i64 x.kd, .int .i64 x.ty, .int .i64 k, .int .i32 x.n, .int .i64 x.md, .bool x.out, .slice Ap x.ps.length cp] 25)) (by rfl) [.string x.nm, .int .i64 x.kd, .int .i64 x.ty, .int .i64 k, .int .i32 x.n, .int .i64 x.md, .bool x.out, .slice Ap x.ps.length cp] rfl (new_src w4 #[.string x.nm, .int .i64 x.kd, .int .i64 x.ty, .int .i64 k, .int .i32 x.n, .int .i64 x.md, .bool x.out, .slice Ap x.ps.length cp] 25 (0, 0) 1) (by simp [Value.oneCell']) (by omega) ?_
      intro A1 c1 w5 hown5 hg5 hob5
      have e5 : ((w4.alloc (.cells #[.string x.nm, .int .i64 x.kd, .int .i64 x.ty, .int .i64 k, .int .i32 x.n, .int .i64 x.md, .bool x.out, .slice Ap x.ps.length cp] 25)).drew).heap.size = w4.heap.size + 1 := by simp
      have k5 : ∀ b, b < w4.heap.size → (Value.slice B xs.length d).ownBlock ≠ some b → w5.heap[b]? = w4.heap[b]? := fun b hb hn => (hg5.block b (by rw [e5]; omega) (fun e => hn e.symm)).trans (Below.heap_alloc w4 (.cells #[.string x.nm, .int .i64 x.kd, .int .i64 x.ty, .int .i64 k, .int .i32 x.n, .int .i64 x.md, .bool x.out, .slice Ap x.ps.length cp] 25) b hb)
      have kc : ∀ b o u, b < w4.heap.size → (Value.slice B xs.length d).ownBlock ≠ some b → w4.cell? ⟨b, o, none⟩ = some u → w5.cell? ⟨b, o, none⟩ = some u := fun b o u hb hn h => (World.cell?_of_block (a := ⟨b, o, none⟩) (k5 b hb hn)).trans h
      have g5 : w5.frozen? ⟨g, k, none⟩ = false := (World.frozen?_of_block (a := ⟨g, k, none⟩) (k5 g h4g ng)).trans hgf
      have S5 : w5.cell? ⟨p, 0, none⟩ = some (.slice (some ⟨g, 0, none⟩) (k + 1) c) ∧ w5.cell? ⟨g, k, none⟩ = some (.slice B xs.length d) ∧ w5.cell? ⟨w.heap.size, 0, none⟩ = some (.string x.nm) ∧ w5.cell? ⟨w.heap.size, 1, none⟩ = some (.int .i64 x.kd) ∧ w5.cell? ⟨w.heap.size, 2, none⟩ = some (.int .i64 x.ty) ∧ w5.cell? ⟨w.heap.size, 3, none⟩ = some (.int .i64 k) ∧ w5.cell? ⟨w.heap.size, 4, none⟩ = some (.int .i32 x.n) ∧ w5.cell? ⟨w.heap.size, 5, none⟩ = some (.int .i64 x.md) ∧ w5.cell? ⟨w.heap.size, 6, none⟩ = some (.bool x.out) ∧ w5.cell? ⟨w.heap.size, 7, none⟩ = some (.slice Ap x.ps.length cp) :=
        ⟨kc _ _ _ h4p np r0, kc _ _ _ h4g ng r1, kc _ _ _ h4 nx x0, kc _ _ _ h4 nx x1, kc _ _ _ h4 nx x2, kc _ _ _ h4 nx x3, kc _ _ _ h4 nx x4, kc _ _ _ h4 nx x5, kc _ _ _ h4 nx x6, kc _ _ _ h4 nx x7⟩
      refine wpList_nil (Cont.mk ⟨fun _ => S5, ?_⟩)
      refine wpG_range 15 1 1 (by kernel_rfl) rfl (by kernel_rfl) (by decide) S5 (fun K hK => ?_)
      have r5 := S5.2.1
      have H5 := Lib.hid hg5
      have HO5 := Lib.hid hob5
      have HK5 := Lib.hid k5
      clear S5 kc k5 hg5 hob5 e5
      simp only [List.drop_succ_cons, List.drop_zero, List.take_succ_cons, List.take_zero]
      refine wpPure_plain (v := ?_) rfl (fun y hy => ?_) ?_; rotate_left
      · clear hy; go_simp; rfl
      refine wpPure_nil ?_
      go_simp
      refine hK _ ?_
      clear hK K
      refine wpG_one 16 0 rfl (by kernel_rfl) rfl ?_
      go_wp2
      refine Cont.mk ⟨fun h => absurd (by simp) h, ?_⟩
      refine wpG_done (by kernel_rfl) (NoPanic.normal ?_) _
      go_wp2
      go_ret
      have hd : declare a x = (0, ⟨a.opn.set k (xs ++ [{ x with lv := (k : Int) }]), a.mds⟩) := by
        have h1 : badName x.nm = false := by simp [badName, hz]; omega
        simp [declare, h1, HT.out, HF.out, HN.out]
        omega
      rw [hd]
      have h5s := H5.out.size
      rw [World.size_drew, World.size_alloc] at h5s
      have HO6 : (Value.slice A1 (xs.length + 1) c1).ownBlock = (Value.slice B xs.length d).ownBlock ∨ (Value.slice A1 (xs.length + 1) c1).ownBlock = some (w4.heap.size + 1) := by
        have := HO5.out; rwa [World.size_drew, World.size_alloc] at this
      obtain ⟨hfr, hsc⟩ := HS4.out.setInner (k := k) (v := .slice B xs.length d) (v' := .slice A1 (xs.length + 1) c1) (w2 := w5.setCell ⟨g, k, none⟩ (.slice A1 (xs.length + 1) c1)) (xs' := xs ++ [{ x with lv := (k : Int) }]) HV.out
        H5.out.os H5.out.tape H5.out.output (by simp; omega) (fun b hb h1 h2 => (Below.heap_setCell _ _ _ _ (fun e => h1 (by rw [e]; rfl))).trans (HK5.out b hb h2))
        ((ownsRow_same HS4.out.ow fun b hb => by cases hb; exact HK5.out g h4g ng).stored k _).1
        (by rcases HO6 with h | h
            · exact .inl h
            · exact .inr ⟨_, h, by omega⟩)
      refine ⟨rfl, _, (Fr.of_below hB4).trans hfr, _, _, _, _, hsc _ (by
        rw [List.length_append]
        exact ownsRow_same hown5 fun b hb => Below.heap_setCell _ _ _ _ (fun e => by
          subst e
          rcases HO6 with h | h
          · exact ng (h ▸ hb)
          · rw [h] at hb; injection hb with hb; omega)) ?_ (by simp; omega)⟩
      exact (HOC.out.keep hfr).snoc (by have := hown.1; omega) (HP4.out.keep hfr)
  · have hz4 : findZ (xs.map Ob.nm) x.nm = (j : Int) := by rw [findZ, hfnd]
    have hz5 : 0 ≤ findZ (xs.map Ob.nm) x.nm := by rw [hz4]; omega
    have HF := Lib.hid hfnd
    clear hfnd hz4
    go_wp2_with fail
    go_ret
    have hd : declare a x = (51, a) := by
      have h1 : badName x.nm = false := by simp [badName, hz]; omega
      simp [declare, h1, HT.out, HF.out]
    rw [hd]
    exact ⟨rfl, F, Fr.of_below hB1, _, _, _, _, HS.out.below hB1⟩
end Go.Proofs.Ytengenceelmijaa
