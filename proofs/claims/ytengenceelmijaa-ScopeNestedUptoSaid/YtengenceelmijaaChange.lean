import Derived.Test.YtengenceelmijaaDeclare
namespace Go.Proofs.Ytengenceelmijaa
open Go.RowKit
set_option linter.unusedVariables false

def change (a : Abs) (lev : Int) (x : Ob) : Int × Abs :=
  if lev < 0 ∨ (a.opn.length : Int) ≤ lev then (110, a)
  else match findI ((a.opn[lev.toNat]?.getD []).map Ob.nm) x.nm with
    | none => (110, a)
    | some i => (0, ⟨a.opn.set lev.toNat ((a.opn[lev.toNat]?.getD []).set i { x with lv := lev }), a.mds⟩)

theorem f33_out {F : List Nat} {w : World} {p : Nat} {a : Abs} (lev : Int) (x : Ob) (pv : Value) (h : Sc F w p a) (hbad : lev < 0 ∨ (a.opn.length : Int) ≤ lev) :
    Calls Try.prog 33 #[.pointer (some ⟨p, 0, none⟩), .int .i64 lev, obV x pv] w fun e w' => e = .returned (.int .i64 110) ∧ Below w.heap.size w w' := by
  obtain ⟨ov, mv, vs, ms, h⟩ := h
  obtain ⟨h0, h1, hf, hp⟩ := h.pcell
  have hs1 := h.small.1
  obtain ⟨A, c, rfl, hc, hA⟩ := own_cells h.ow
  clear h h1 hf hA
  unfold obV
  by_cases hz : lev < 0
  · have hz' : decide (lev < 0) = true := by simpa using hz
    go_enter Try.func33, Try.ntmps33
    go_wp2_with fail
    go_ret
    exact ⟨rfl, (Below.refl _ _).alloc (Nat.le_refl _) _⟩
  · have hz' : decide (lev < 0) = false := by simpa using hz
    have hb : (a.opn.length : Int) ≤ lev := by omega
    go_enter Try.func33, Try.ntmps33
    go_wp2_with fail
    go_ret
    exact ⟨rfl, (Below.refl _ _).alloc (Nat.le_refl _) _⟩

theorem findI_lt {l : List ByteArray} {s : ByteArray} {i : Nat} (h : findI l s = some i) : i < l.length := by
  induction l generalizing i with
  | nil => cases h
  | cons x l ih =>
    simp only [findI] at h
    split at h
    · cases h; simp
    · obtain ⟨j, hj, rfl⟩ := Option.map_eq_some_iff.1 h
      have := ih hj
      simp; omega

def set8 (cs : List Value) (b : Nat) (x : Ob) (pv : Value) : List Value :=
  (((((((cs.set b (.string x.nm)).set (b + 1) (.int .i64 x.kd)).set (b + 2) (.int .i64 x.ty)).set (b + 3) (.int .i64 x.lv)).set (b + 4) (.int .i32 x.n)).set (b + 5) (.int .i64 x.md)).set (b + 6) (.bool x.out)).set (b + 7) pv
structure SameBut (g : Nat) (w w' : World) : Prop where
  os : w'.os = w.os
  tape : w'.tape = w.tape
  output : w'.output = w.output
  size : w'.heap.size = w.heap.size
  block : ∀ k, k ≠ g → w'.heap[k]? = w.heap[k]?
theorem SameBut.setCell {g : Nat} {w w' : World} (h : SameBut g w w') (o : Nat) (v : Value) : SameBut g w (w'.setCell ⟨g, o, none⟩ v) :=
  ⟨h.os, h.tape, h.output, (World.size_setCell w' ⟨g, o, none⟩ v).trans h.size, fun k hk => (Below.heap_setCell w' ⟨g, o, none⟩ v k hk).trans (h.block k hk)⟩
theorem SameBut.drew {g : Nat} {w w' : World} (h : SameBut g w w') : SameBut g w w'.drew := ⟨h.os, h.tape, h.output, h.size, h.block⟩
theorem SameBut.refl (g : Nat) (w : World) : SameBut g w w := ⟨rfl, rfl, rfl, rfl, fun _ _ => rfl⟩
theorem own_set8 {w w' : World} {e : TypeId} {g n c b : Nat} {cs : List Value} (h : w.ownsRow 0 e 8 (.slice (some ⟨g, 0, none⟩) n c) n cs) (v0 v1 v2 v3 v4 v5 v6 v7 : Value)
    (hw : w' = ((((((((w.setCell ⟨g, b, none⟩ v0).setCell ⟨g, b + 1, none⟩ v1).setCell ⟨g, b + 2, none⟩ v2).setCell ⟨g, b + 3, none⟩ v3).setCell ⟨g, b + 4, none⟩ v4).setCell ⟨g, b + 5, none⟩ v5).setCell ⟨g, b + 6, none⟩ v6).setCell ⟨g, b + 7, none⟩ v7).drew) :
    w'.ownsRow 0 e 8 (.slice (some ⟨g, 0, none⟩) n c) n
      ((((((((cs.set b v0).set (b + 1) v1).set (b + 2) v2).set (b + 3) v3).set (b + 4) v4).set (b + 5) v5).set (b + 6) v6).set (b + 7) v7) ∧ SameBut g w w' := by
  subst hw
  have h0 := (h.stored b v0).1
  have h1 := (h0.stored (b + 1) v1).1
  have h2 := (h1.stored (b + 2) v2).1
  have h3 := (h2.stored (b + 3) v3).1
  have h4 := (h3.stored (b + 4) v4).1
  have h5 := (h4.stored (b + 5) v5).1
  have h6 := (h5.stored (b + 6) v6).1
  have h7 := (h6.stored (b + 7) v7).1
  have k0 := (SameBut.refl g w).setCell b v0
  have k1 := k0.setCell (b + 1) v1
  have k2 := k1.setCell (b + 2) v2
  have k3 := k2.setCell (b + 3) v3
  have k4 := k3.setCell (b + 4) v4
  have k5 := k4.setCell (b + 5) v5
  have k6 := k5.setCell (b + 6) v6
  have k7 := k6.setCell (b + 7) v7
  exact ⟨h7.drew, k7.drew⟩
theorem OC.set8 {F : List Nat} {w : World} {cs : List Value} {xs : List Ob} {x : Ob} {pv : Value} {j : Nat} (h : OC F w cs xs) (hl : cs.length = xs.length * 8) (hj : j < xs.length) (hp : PsR F w pv x.ps) :
    OC F w (Ytengenceelmijaa.set8 cs (j * 8) x pv) (xs.set j x) := by
  have L : ∀ m, (Ytengenceelmijaa.set8 cs (j * 8) x pv)[m]? = if m = j * 8 then some (.string x.nm) else if m = j * 8 + 1 then some (.int .i64 x.kd) else if m = j * 8 + 2 then some (.int .i64 x.ty) else if m = j * 8 + 3 then some (.int .i64 x.lv) else if m = j * 8 + 4 then some (.int .i32 x.n) else if m = j * 8 + 5 then some (.int .i64 x.md) else if m = j * 8 + 6 then some (.bool x.out) else if m = j * 8 + 7 then some pv else cs[m]? := by
    intro m
    unfold Ytengenceelmijaa.set8
    simp only [List.getElem?_set, List.length_set]
    by_cases h0 : m = j * 8
    · subst h0; simp; omega
    by_cases h1 : m = j * 8 + 1
    · subst h1; simp; omega
    by_cases h2 : m = j * 8 + 2
    · subst h2; simp; omega
    by_cases h3 : m = j * 8 + 3
    · subst h3; simp; omega
    by_cases h4 : m = j * 8 + 4
    · subst h4; simp; omega
    by_cases h5 : m = j * 8 + 5
    · subst h5; simp; omega
    by_cases h6 : m = j * 8 + 6
    · subst h6; simp; omega
    by_cases h7 : m = j * 8 + 7
    · subst h7; simp; omega
    simp only [if_neg h0, if_neg h1, if_neg h2, if_neg h3, if_neg h4, if_neg h5, if_neg h6, if_neg h7, if_neg (Ne.symm h0), if_neg (Ne.symm h1), if_neg (Ne.symm h2), if_neg (Ne.symm h3), if_neg (Ne.symm h4), if_neg (Ne.symm h5), if_neg (Ne.symm h6), if_neg (Ne.symm h7)]
  intro i y hi
  rw [List.getElem?_set] at hi
  by_cases hij : j = i
  · subst hij
    rw [if_pos rfl, if_pos hj] at hi
    injection hi with hi; subst hi
    refine ⟨?_, ?_, ?_, ?_, ?_, ?_, ?_, pv, ?_, hp⟩ <;> rw [L] <;> simp
  · rw [if_neg hij] at hi
    obtain ⟨h0, h1, h2, h3, h4, h5, h6, q, h7, hq⟩ := h i y hi
    have k : ∀ r, r < 8 → (Ytengenceelmijaa.set8 cs (j * 8) x pv)[i * 8 + r]? = cs[i * 8 + r]? := fun r hr => by
      rw [L, if_neg (by omega), if_neg (by omega), if_neg (by omega), if_neg (by omega), if_neg (by omega), if_neg (by omega), if_neg (by omega), if_neg (by omega)]
    exact ⟨(k 0 (by omega)).trans h0, (k 1 (by omega)).trans h1, (k 2 (by omega)).trans h2, (k 3 (by omega)).trans h3, (k 4 (by omega)).trans h4, (k 5 (by omega)).trans h5, (k 6 (by omega)).trans h6, q, (k 7 (by omega)).trans h7, hq⟩

set_option maxHeartbeats 1000000 in
set_option maxRecDepth 100000 in
theorem f33_any {F : List Nat} {w : World} {p : Nat} {a : Abs} (k : Nat) (x : Ob) (pv : Value) (h : Sc F w p a) (hps : PsR F w pv x.ps) (hk : k < a.opn.length) :
    Calls Try.prog 33 #[.pointer (some ⟨p, 0, none⟩), .int .i64 k, obV x pv] w fun e w' => e = .returned (.int .i64 (change a k x).1) ∧ ∃ F', Fr F w F' w' ∧ Sc F' w' p (change a k x).2 := by
  obtain ⟨ov, mv, vs, ms, h⟩ := h
  have hsv := h
  obtain ⟨h0, h1, hf, hp⟩ := h.pcell
  have hs1 := h.small.1
  obtain ⟨A, c, rfl, hc, hA⟩ := own_cells h.ow
  obtain ⟨g, rfl, hgb, hg, hAc⟩ := hA (by omega)
  have hl := h.os.1
  obtain ⟨v, hv⟩ : ∃ v, vs[k]? = some v := ⟨_, List.getElem?_eq_getElem (by omega)⟩
  obtain ⟨xs, hxs⟩ : ∃ xs, a.opn[k]? = some xs := ⟨_, List.getElem?_eq_getElem hk⟩
  have hob := h.os.2 _ v xs hv hxs
  obtain ⟨B, d, rfl, hrd, hcell⟩ := hob.rd
  have hgv := hAc _ _ hv
  have hxl := hob.1
  obtain ⟨W, hW⟩ : ∃ W, W = w.alloc (.cells #[.string x.nm, .int .i64 x.kd, .int .i64 x.ty, .int .i64 x.lv, .int .i32 x.n, .int .i64 x.md, .bool x.out, pv] 25) := ⟨_, rfl⟩
  have hBW : Below w.heap.size w W := by rw [hW]; exact (Below.refl _ _).alloc (Nat.le_refl _) _
  have hWx : W.heap[w.heap.size]? = some (.cells #[.string x.nm, .int .i64 x.kd, .int .i64 x.ty, .int .i64 x.lv, .int .i32 x.n, .int .i64 x.md, .bool x.out, pv] 25 (0, 0)) := by rw [hW]; exact heap_alloc_new w _
  have w0 := (hBW.cell (p := ⟨p, 0, none⟩) hp).trans h0
  have wg := (hBW.cell (p := ⟨g, k, none⟩) hg).trans hgv
  have wx : W.cell? ⟨w.heap.size, 0, none⟩ = some (.string x.nm) := by rw [cell_of_row W _ 0 _ _ _ hWx]; rfl
  have hWs : w.heap.size < W.heap.size := by rw [hW]; simp
  have HR := Lib.hid (show Rd W.drew B (xs.map Ob.nm) from hrd.below (w' := W.drew) hBW.drew)
  have hch : change a k x = match findI (xs.map Ob.nm) x.nm with
    | none => (110, a)
    | some i => (0, ⟨a.opn.set k (xs.set i { x with lv := (k : Int) }), a.mds⟩) := by
    rw [change, if_neg (by omega)]
    simp only [Int.toNat_natCast, hxs, Option.getD_some]
  have HCH := Lib.hid hch
  have HS := Lib.hid hsv
  have HV := Lib.hid hv
  have HX := Lib.hid hxs
  have HL := Lib.hid hl
  have HW := Lib.hid hW
  have HWx := Lib.hid hWx
  clear h h1 hf hA hsv hv hxs hAc hl hob hrd hcell hWx hgb hch
  have ki : (0 : Int) ≤ (k : Int) := by omega
  have kl : (k : Int) < (a.opn.length : Int) := by omega
  have kn : decide ((k : Int) < 0) = false := by simp
  unfold obV
  go_enter Try.func33, Try.ntmps33
  go_wp2_with fail
  rw [← hW]
  clear hW
  go_region_held3 (fun w' => w'.cell? ⟨p, 0, none⟩ = some (.slice (some ⟨g, 0, none⟩) a.opn.length c) ∧ w'.cell? ⟨g, k, none⟩ = some (.slice B xs.length d) ∧ w'.cell? ⟨w.heap.size, 0, none⟩ = some (.string x.nm)) (go_keep) (first | (go_at_call 25; refine (f25_obs d xs x.nm HR.out hxl).mono ?_; rintro e w1 ⟨rfl, hb⟩; have q0 := (hb.cell (p := ⟨p, 0, none⟩) (by show p < W.heap.size; omega)).trans w0; have q1 := (hb.cell (p := ⟨g, k, none⟩) (by show g < W.heap.size; omega)).trans wg; have q2 := (hb.cell (p := ⟨w.heap.size, 0, none⟩) (by show w.heap.size < W.heap.size; omega)).trans wx))
  have hB1 : Below w.heap.size w w1 := hBW.drew.trans (hb.mono (show w.heap.size ≤ W.heap.size by omega))
  have hx1 := (hb.block w.heap.size (show w.heap.size < W.heap.size from hWs)).trans HWx.out
  have c3 : w1.cell? ⟨w.heap.size, 3, none⟩ = some (.int .i64 x.lv) := by rw [cell_of_row w1 _ 3 _ _ _ hx1]; rfl
  have c7 : w1.cell? ⟨w.heap.size, 7, none⟩ = some pv := by rw [cell_of_row w1 _ 7 _ _ _ hx1]; rfl
  have f3 : w1.frozen? ⟨w.heap.size, 3, none⟩ = false := frozen_of_row w1 _ 3 _ _ hx1
  have f7 : w1.frozen? ⟨w.heap.size, 7, none⟩ = false := frozen_of_row w1 _ 7 _ _ hx1
  have HX1 := Lib.hid hx1
  have HB := Lib.hid hb
  have HP := Lib.hid hps
  clear hx1 hb hps w0 wg wx hgv h0 hBW
  rcases hfnd : findI (xs.map Ob.nm) x.nm with _ | j
  · have hz4 : findZ (xs.map Ob.nm) x.nm = -1 := by rw [findZ, hfnd]
    have hz5 : findZ (xs.map Ob.nm) x.nm < 0 := by rw [hz4]; omega
    have HF := Lib.hid hfnd
    clear hfnd hz4
    go_wp2_with fail
    go_ret
    have hd : change a k x = (110, a) := by rw [HCH.out, HF.out]
    rw [hd]
    exact ⟨rfl, F, Fr.of_below hB1, _, _, _, _, HS.out.below hB1⟩
  · have hz4 : findZ (xs.map Ob.nm) x.nm = (j : Int) := by rw [findZ, hfnd]
    have hjl : j < xs.length := by have := findI_lt hfnd; simpa using this
    rw [hz4]
    have HF := Lib.hid hfnd
    clear hfnd hz4
    obtain ⟨w2, hw2⟩ : ∃ w2, w2 = w1.setCell ⟨w.heap.size, 3, none⟩ (.int .i64 k) := ⟨_, rfl⟩
    have hx2 : w2.heap[w.heap.size]? = some (.cells #[.string x.nm, .int .i64 x.kd, .int .i64 x.ty, .int .i64 k, .int .i32 x.n, .int .i64 x.md, .bool x.out, pv] 25 (0, 0)) := by
      rw [hw2]; exact heap_setCell_same w1 _ 3 _ 25 _ HX1.out
    have hB2 : Below w.heap.size w w2 := by rw [hw2]; exact hB1.setCell (p := ⟨w.heap.size, 3, none⟩) (Nat.le_refl _) _
    have HP2 : Hid (PsR (w.heap.size :: F) w2 pv x.ps) := Lib.hid (Sl.imp HP.out (fun b hb => ⟨Nat.lt_of_lt_of_le hb.1 hB2.size, fun hm => by
      rcases List.mem_cons.1 hm with rfl | hm
      · exact Nat.lt_irrefl _ hb.1
      · exact hb.2 hm⟩) fun b o u hb he => ⟨(hB2.cell (p := ⟨b, o, none⟩) hb.1).trans he.1, (hB2.cell (p := ⟨b, o + 1, none⟩) hb.1).trans he.2⟩)
    have hF2 : ∀ b ∈ w.heap.size :: F, b < w2.heap.size := fun b hb => by
      rcases List.mem_cons.1 hb with rfl | hb
      · exact (Array.getElem?_eq_some_iff.1 hx2).1
      · exact Nat.lt_of_lt_of_le (HS.out.lt b hb) hB2.size
    have HW2 := Lib.hid hw2
    have HX2 := Lib.hid hx2
    clear hx2
    go_wp2_with fail
    rw [← hw2]
    clear hw2
    refine (f26_any HP2.out hF2).mono ?_
    rintro e w3 ⟨pv', rfl, hb3, hps3⟩
    obtain ⟨Ap, cp, rfl⟩ : ∃ A c, pv' = .slice A x.ps.length c := by obtain ⟨_, A, c, h, _⟩ := hps3; exact ⟨A, c, h⟩
    have hx3 := (hb3.block w.heap.size (Array.getElem?_eq_some_iff.1 HX2.out).1).trans HX2.out
    obtain ⟨w4, hw4⟩ : ∃ w4, w4 = w3.setCell ⟨w.heap.size, 7, none⟩ (.slice Ap x.ps.length cp) := ⟨_, rfl⟩
    have hB3 : Below w.heap.size w w3 := hB2.trans (hb3.mono hB2.size)
    have hx4 : w4.heap[w.heap.size]? = some (.cells #[.string x.nm, .int .i64 x.kd, .int .i64 x.ty, .int .i64 k, .int .i32 x.n, .int .i64 x.md, .bool x.out, (.slice Ap x.ps.length cp)] 25 (0, 0)) := by
      rw [hw4]; exact heap_setCell_same w3 _ 7 _ 25 _ hx3
    have hB4 : Below w.heap.size w w4 := by rw [hw4]; exact hB3.setCell (p := ⟨w.heap.size, 7, none⟩) (Nat.le_refl _) _
    have hps4 : PsR F w4 (.slice Ap x.ps.length cp) x.ps := by
      rw [hw4]
      refine Sl.imp hps3 (fun b hb => ⟨by simpa using hb.1, fun hm => hb.2 (List.mem_cons_of_mem _ hm)⟩) fun b o u hb he => ?_
      have hne : b ≠ w.heap.size := fun e => hb.2 (by rw [e]; exact List.mem_cons_self)
      exact ⟨(World.cell?_of_block (a := ⟨b, o, none⟩) (Below.heap_setCell _ _ _ _ hne)).trans he.1, (World.cell?_of_block (a := ⟨b, o + 1, none⟩) (Below.heap_setCell _ _ _ _ hne)).trans he.2⟩
    have hc3 : w3.cell? ⟨w.heap.size, 7, none⟩ = some pv := by rw [cell_of_row w3 _ 7 _ _ _ hx3]; rfl
    have hf3 : w3.frozen? ⟨w.heap.size, 7, none⟩ = false := frozen_of_row w3 _ 7 _ _ hx3
    have hsv4 := HS.out.below hB4
    obtain ⟨r0, _, _, _⟩ := hsv4.pcell
    obtain ⟨cs, hown, hoc⟩ := (hsv4.os.2 _ _ _ HV.out HX.out).2
    obtain ⟨_, _, e, _, hAc⟩ := own_cells hsv4.ow
    cases e
    obtain ⟨_, e, _, _, hAc⟩ := hAc (by omega)
    cases e
    have r1 := hAc _ _ HV.out
    have x0 : w4.cell? ⟨w.heap.size, 0, none⟩ = some (.string x.nm) := by rw [cell_of_row w4 _ 0 _ _ _ hx4]; rfl
    have x1 : w4.cell? ⟨w.heap.size, 1, none⟩ = some (.int .i64 x.kd) := by rw [cell_of_row w4 _ 1 _ _ _ hx4]; rfl
    have x2 : w4.cell? ⟨w.heap.size, 2, none⟩ = some (.int .i64 x.ty) := by rw [cell_of_row w4 _ 2 _ _ _ hx4]; rfl
    have x3 : w4.cell? ⟨w.heap.size, 3, none⟩ = some (.int .i64 k) := by rw [cell_of_row w4 _ 3 _ _ _ hx4]; rfl
    have x4 : w4.cell? ⟨w.heap.size, 4, none⟩ = some (.int .i32 x.n) := by rw [cell_of_row w4 _ 4 _ _ _ hx4]; rfl
    have x5 : w4.cell? ⟨w.heap.size, 5, none⟩ = some (.int .i64 x.md) := by rw [cell_of_row w4 _ 5 _ _ _ hx4]; rfl
    have x6 : w4.cell? ⟨w.heap.size, 6, none⟩ = some (.bool x.out) := by rw [cell_of_row w4 _ 6 _ _ _ hx4]; rfl
    have x7 : w4.cell? ⟨w.heap.size, 7, none⟩ = some (.slice Ap x.ps.length cp) := by rw [cell_of_row w4 _ 7 _ _ _ hx4]; rfl
    have hw2' := HW2.out
    have HW4 := Lib.hid hw4
    have HP4 := Lib.hid hps4
    have HOC := Lib.hid hoc
    have HS4 := Lib.hid hsv4
    have HP3 := Lib.hid hps3
    have HX3 := Lib.hid hx3
    have HB3 := Lib.hid hb3
    have HOW := Lib.hid hown
    obtain ⟨b2, rfl, hb2, hrowc⟩ : ∃ b2, B = some ⟨b2, 0, none⟩ ∧ b2 ∈ F ∧ ∀ (i : Nat) (u : Value), cs[i]? = some u → w4.cell? ⟨b2, i, none⟩ = some u := by
      obtain ⟨_, _, e, _, hh⟩ := own_cells hown
      cases e
      obtain ⟨g2, rfl, _, _, hh⟩ := hh (by omega)
      refine ⟨g2, rfl, ?_, hh⟩
      rw [HS.out.ft]
      exact List.mem_cons_of_mem _ (List.mem_filterMap.2 ⟨_, List.mem_cons_of_mem _ (List.mem_cons_of_mem _ (List.mem_append_left _ (List.mem_of_getElem? HV.out))), rfl⟩)
    have hrf : ∀ i, w4.frozen? ⟨b2, i, none⟩ = false := fun i => by
      rcases hown.2 with ⟨e, _⟩ | ⟨_, _, _, e, _, hh, _⟩
      · cases e
      · cases e; exact frozen_of_row w4 _ i _ _ hh
    have hcs := hown.1
    have y0 := hrowc (j * 8) cs[j * 8] (List.getElem?_eq_getElem (by omega))
    have y1 := hrowc (j * 8 + 1) cs[j * 8 + 1] (List.getElem?_eq_getElem (by omega))
    have y2 := hrowc (j * 8 + 2) cs[j * 8 + 2] (List.getElem?_eq_getElem (by omega))
    have y3 := hrowc (j * 8 + 3) cs[j * 8 + 3] (List.getElem?_eq_getElem (by omega))
    have y4 := hrowc (j * 8 + 4) cs[j * 8 + 4] (List.getElem?_eq_getElem (by omega))
    have y5 := hrowc (j * 8 + 5) cs[j * 8 + 5] (List.getElem?_eq_getElem (by omega))
    have y6 := hrowc (j * 8 + 6) cs[j * 8 + 6] (List.getElem?_eq_getElem (by omega))
    have y7 := hrowc (j * 8 + 7) cs[j * 8 + 7] (List.getElem?_eq_getElem (by omega))
    generalize cs[j * 8] = u0 at y0
    generalize cs[j * 8 + 1] = u1 at y1
    generalize cs[j * 8 + 2] = u2 at y2
    generalize cs[j * 8 + 3] = u3 at y3
    generalize cs[j * 8 + 4] = u4 at y4
    generalize cs[j * 8 + 5] = u5 at y5
    generalize cs[j * 8 + 6] = u6 at y6
    generalize cs[j * 8 + 7] = u7 at y7
    have z0 := hrf (j * 8)
    have z1 := hrf (j * 8 + 1)
    have z2 := hrf (j * 8 + 2)
    have z3 := hrf (j * 8 + 3)
    have z4 := hrf (j * 8 + 4)
    have z5 := hrf (j * 8 + 5)
    have z6 := hrf (j * 8 + 6)
    have z7 := hrf (j * 8 + 7)
    have hnd := hsv4.nd
    rw [hsv4.ft] at hnd
    have hkl : k < vs.length := (List.getElem?_eq_some_iff.1 HV.out).1
    have hj : ((Value.slice (some ⟨g, 0, none⟩) a.opn.length c) :: mv :: (vs ++ ms))[2 + k]? = some (.slice (some ⟨b2, 0, none⟩) xs.length d) := by
      rw [show 2 + k = k + 1 + 1 by omega]; simp only [List.getElem?_cons_succ]; rw [List.getElem?_append_left hkl]; exact HV.out
    have np : b2 ≠ p := nd_p hnd hj rfl
    have ng : b2 ≠ g := fun e => nd_ne hnd (i := 0) rfl hj (by omega) rfl (by rw [e]; rfl)
    have nx : b2 ≠ w.heap.size := fun e => by have := HS.out.lt b2 hb2; omega
    have HRC := Lib.hid hrowc
    have HRF := Lib.hid hrf
    have HCS := Lib.hid hcs
    clear hx4 hps4 hps3 hx3 hoc hsv4 hb3 hAc q0 q1 q2 c3 c7 f3 f7 hw2' hown hrowc hrf hcs hnd hj hkl
    have jl : (j : Int) < (xs.length : Int) := by omega
    have jj : (0 : Int) ≤ (j : Int) := by omega
    go_wp2_with fail
    rw [← hw4]
    clear hw4
    go_region_held3 (fun w' => w'.cell? ⟨p, 0, none⟩ = some (.slice (some ⟨g, 0, none⟩) a.opn.length c) ∧ w'.cell? ⟨g, k, none⟩ = some (.slice (some ⟨b2, 0, none⟩) xs.length d) ∧ w'.cell? ⟨w.heap.size, 0, none⟩ = some (.string x.nm) ∧ w'.cell? ⟨w.heap.size, 1, none⟩ = some (.int .i64 x.kd) ∧ w'.cell? ⟨w.heap.size, 2, none⟩ = some (.int .i64 x.ty) ∧ w'.cell? ⟨w.heap.size, 3, none⟩ = some (.int .i64 k) ∧ w'.cell? ⟨w.heap.size, 4, none⟩ = some (.int .i32 x.n) ∧ w'.cell? ⟨w.heap.size, 5, none⟩ = some (.int .i64 x.md) ∧ w'.cell? ⟨w.heap.size, 6, none⟩ = some (.bool x.out) ∧ w'.cell? ⟨w.heap.size, 7, none⟩ = some (.slice Ap x.ps.length cp)) (go_keep) (fail)
    go_wp2
    go_ret
    rw [HCH.out, HF.out]
    obtain ⟨w5, hw5⟩ : ∃ w5, w5 = ((((((((w4.setCell ⟨b2, j * 8, none⟩ (.string x.nm)).setCell ⟨b2, j * 8 + 1, none⟩ (.int .i64 x.kd)).setCell ⟨b2, j * 8 + 2, none⟩ (.int .i64 x.ty)).setCell ⟨b2, j * 8 + 3, none⟩ (.int .i64 k)).setCell ⟨b2, j * 8 + 4, none⟩ (.int .i32 x.n)).setCell ⟨b2, j * 8 + 5, none⟩ (.int .i64 x.md)).setCell ⟨b2, j * 8 + 6, none⟩ (.bool x.out)).setCell ⟨b2, j * 8 + 7, none⟩ (.slice Ap x.ps.length cp)).drew := ⟨_, rfl⟩
    rw [← hw5]
    obtain ⟨hrow, hsb⟩ := own_set8 (b := j * 8) HOW.out _ _ _ _ _ _ _ _ hw5
    clear hw5
    have hvset : vs.set k (.slice (some ⟨b2, 0, none⟩) xs.length d) = vs := by
      obtain ⟨hk', e⟩ := List.getElem?_eq_some_iff.1 HV.out
      rw [← e, List.set_getElem_self]
    obtain ⟨hfr, hsc⟩ := HS4.out.setInner (k := k) (v := .slice (some ⟨b2, 0, none⟩) xs.length d) (v' := .slice (some ⟨b2, 0, none⟩) xs.length d) (w2 := w5) (xs' := xs.set j { x with lv := (k : Int) }) HV.out
      hsb.os hsb.tape hsb.output (Nat.le_of_eq hsb.size.symm) (fun b hb h1 h2 => hsb.block b fun e => h2 (by rw [e]; rfl))
      (by rw [hvset]; exact ownsRow_same HS4.out.ow fun b hb => hsb.block b (by cases hb; exact Ne.symm ng)) (.inl rfl)
    refine ⟨rfl, _, (Fr.of_below hB4).trans hfr, _, _, _, _, hsc _ (by rw [List.length_set]; exact hrow) ?_ (by simpa using hxl)⟩
    exact (HOC.out.keep hfr).set8 HCS.out hjl (HP4.out.keep hfr)
end Go.Proofs.Ytengenceelmijaa
