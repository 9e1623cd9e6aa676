import Derived.Test.YtengenceelmijaaFindObj
namespace Go.Proofs.Ytengenceelmijaa
open Go.RowKit
set_option linter.unusedVariables false

theorem mds_at {F : List Nat} {w : World} {p : Nat} {a : Abs} {g c : Nat} {ov : Value} {vs ms : List Value} (h : ScV F w p a ov (.slice (some ⟨g, 0, none⟩) a.mds.length c) vs ms) {k : Nat} (hk : k < a.mds.length) :
    ∃ B d xs, a.mds[k]? = some xs ∧ cel w g k (.slice B xs.length d) ∧ Rd w B (xs.map Ob.nm) ∧ xs.length ≤ 4194304 ∧
      ∀ i x, xs[i]? = some x → ∃ b, B = some ⟨b, 0, none⟩ ∧ b < w.heap.size ∧ Ob7 w b (i * 8) x ∧ ∃ pv, cel w b (i * 8 + 7) pv ∧ PsR F w pv x.ps := by
  obtain ⟨v, hv⟩ : ∃ v, ms[k]? = some v := ⟨_, List.getElem?_eq_getElem (by have := h.ms_.1; omega)⟩
  obtain ⟨xs, hxs⟩ : ∃ xs, a.mds[k]? = some xs := ⟨_, List.getElem?_eq_getElem hk⟩
  have hob := h.ms_.2 _ v xs hv hxs
  obtain ⟨B, d, rfl, hrd, hcell⟩ := hob.rd
  obtain ⟨_, _, e, _, hAc⟩ := own_cells h.mw
  cases e
  obtain ⟨_, e, _, _, hAc⟩ := hAc (by omega)
  cases e
  refine ⟨B, d, xs, hxs, hAc _ _ hv, hrd, hob.1, fun i x hi => ?_⟩
  obtain ⟨b, rfl, _, hb, hh⟩ := hcell (by have := (List.getElem?_eq_some_iff.1 hi).1; omega)
  exact ⟨b, rfl, hb, hh i x hi⟩

def memberA (mds : List (List Ob)) (m : Int) (s : ByteArray) : Option Ob := if m < 1 ∨ (mds.length : Int) < m then none else findIn (mds[(m - 1).toNat]?.getD []) s

def MemPost (F : List Nat) (w : World) (r : Option Ob) (e : Ending) (w' : World) : Prop := Below w.heap.size w w' ∧ ∃ x pv, PsR F w' pv x.ps ∧
      ((r = some x ∧ e = .returned (.tuple #[obV x pv, .int .i64 0])) ∨ (r = none ∧ x = noOb ∧ e = .returned (.tuple #[obV x pv, .int .i64 110])))

def zero8 : Array Value := #[.string ⟨#[]⟩, .int .i64 0, .int .i64 0, .int .i64 0, .int .i32 0, .int .i64 0, .bool false, .slice none 0 0]

theorem f17_out {F : List Nat} {w : World} {p : Nat} {a : Abs} (m : Int) (s : ByteArray) (h : Sc F w p a) (hm : m < 1 ∨ (a.mds.length : Int) < m) :
    Calls Try.prog 17 #[.pointer (some ⟨p, 0, none⟩), .int .i64 m, .string s] w (MemPost F w none) := by
  obtain ⟨ov, mv, vs, ms, h⟩ := h
  obtain ⟨h0, h1, hf, hp⟩ := h.pcell
  have hs1 := h.small.2.1
  obtain ⟨A, c, rfl, hc, hA⟩ := own_cells h.mw
  clear h h0 hf hA
  by_cases hz : m < 1
  · have hz' : decide (m < 1) = true := by simpa using hz
    go_enter Try.func17, Try.ntmps17
    go_wp2_with fail
    refine bodyPost_ret (results_obj _ 6 7 Try.results17 _ _ _ _ _ _ _ _ _ _ _ _ rfl rfl (heap_alloc_new w _)) rfl ?_
    exact ⟨(Below.refl _ _).alloc (Nat.le_refl _) _, noOb, .slice none 0 0, Sl.nil _ _ _, .inr ⟨rfl, rfl, rfl⟩⟩
  · have hz' : decide (m < 1) = false := by simpa using hz
    have hb : (a.mds.length : Int) < m := by omega
    go_enter Try.func17, Try.ntmps17
    go_wp2_with fail
    refine bodyPost_ret (results_obj _ 6 7 Try.results17 _ _ _ _ _ _ _ _ _ _ _ _ rfl rfl (heap_alloc_new w _)) rfl ?_
    exact ⟨(Below.refl _ _).alloc (Nat.le_refl _) _, noOb, .slice none 0 0, Sl.nil _ _ _, .inr ⟨rfl, rfl, rfl⟩⟩
set_option maxHeartbeats 1000000 in
set_option maxRecDepth 100000 in
theorem f17_in {F : List Nat} {w : World} {p : Nat} {a : Abs} (k : Nat) (s : ByteArray) (h : Sc F w p a) (hk : k < a.mds.length) :
    Calls Try.prog 17 #[.pointer (some ⟨p, 0, none⟩), .int .i64 ((k : Int) + 1), .string s] w (MemPost F w (findIn (a.mds[k]?.getD []) s)) := by
  obtain ⟨ov, mv, vs, ms, h⟩ := h
  obtain ⟨h0, h1, hf, hp⟩ := h.pcell
  have hs1 := h.small.2.1
  obtain ⟨A, c, rfl, hc, hA⟩ := own_cells h.mw
  obtain ⟨g, rfl, hgb, hg, hAc⟩ := hA (by omega)
  obtain ⟨B, d, xs, hxs, hgk, hrd, hxl2, hat⟩ := mds_at h hk
  obtain ⟨wr, hwr⟩ : ∃ wr, wr = w.alloc (.cells #[.string ⟨#[]⟩, .int .i64 0, .int .i64 0, .int .i64 0, .int .i32 0, .int .i64 0, .bool false, .slice none 0 0] 25) := ⟨_, rfl⟩
  have hB : Below w.heap.size w wr := by rw [hwr]; exact (Below.refl _ _).alloc (Nat.le_refl _) _
  have hx : wr.heap[w.heap.size]? = some (.cells #[.string ⟨#[]⟩, .int .i64 0, .int .i64 0, .int .i64 0, .int .i32 0, .int .i64 0, .bool false, .slice none 0 0] 25 (0, 0)) := by rw [hwr]; exact heap_alloc_new w _
  have hxl := (Array.getElem?_eq_some_iff.1 hx).1
  have HX := Lib.hid hx
  have HW := Lib.hid hwr
  replace hrd := hrd.below hB
  have hBs := hB.size
  have hgk0 := hgk
  have HXS : Hid ((a.mds[k]?.getD []) = xs) := by rw [hxs]; rfl
  have hkl : (k : Int) + 1 ≤ (a.mds.length : Int) := by omega
  have hkl2 : (k : Int) < (a.mds.length : Int) := by omega
  have hkn : (0 : Int) ≤ (k : Int) := by omega
  clear h h0 hf hA hAc hgb hxs hx
  have hgw : g < wr.heap.size := by omega
  have hpw : p < wr.heap.size := by omega
  have w0 := (hB.cell (p := ⟨p, 1, none⟩) hp).trans h1
  have w1 := (hB.cell (p := ⟨g, k, none⟩) hg).trans hgk
  rcases hfnd : findI (xs.map Ob.nm) s with _ | i
  · have hz4 : findZ (xs.map Ob.nm) s = -1 := by rw [findZ, hfnd]
    have hres : findIn xs s = none := by simp [findIn, hfnd]
    have HRES := Lib.hid hres
    have hbc := f25_obs d xs s hrd hxl2
    rw [hz4] at hbc
    have HBC := Lib.hid hbc
    clear hbc hz4 hrd hfnd hres hat
    go_enter Try.func17, Try.ntmps17
    go_wp2_with fail
    rw [← hwr]
    clear hwr
    refine HBC.out.mono ?_
    rintro e w2 ⟨rfl, hb⟩
    have hBb := hB.trans (hb.mono hBs)
    have hx1 := (hb.block _ hxl).trans HX.out
    obtain ⟨⟨t0, t1, t2, t3, t4, t5, t6, t7⟩, tf⟩ := cells8 hx1
    have f0 := tf 0; have f1 := tf 1; have f2 := tf 2; have f3 := tf 3; have f4 := tf 4; have f5 := tf 5; have f6 := tf 6; have f7 := tf 7
    have HX1 := Lib.hid hx1
    clear hx1 tf
    go_wp2_with fail
    obtain ⟨w5, hw5⟩ : ∃ w5, w5 = (((((((w2.setCell ⟨w.heap.size, 0, none⟩ (.string ⟨#[]⟩)).setCell ⟨w.heap.size, 1, none⟩ (.int .i64 0)).setCell ⟨w.heap.size, 2, none⟩ (.int .i64 0)).setCell ⟨w.heap.size, 3, none⟩ (.int .i64 0)).setCell ⟨w.heap.size, 4, none⟩ (.int .i32 0)).setCell ⟨w.heap.size, 5, none⟩ (.int .i64 0)).setCell ⟨w.heap.size, 6, none⟩ (.bool false)).setCell ⟨w.heap.size, 7, none⟩ (.slice none 0 0) := ⟨_, rfl⟩
    rw [← hw5]
    obtain ⟨hx5, hsb⟩ := block8 HX1.out _ _ _ _ _ _ _ _ hw5
    clear hw5
    refine bodyPost_ret (results_obj _ 6 7 Try.results17 _ _ _ _ _ _ _ _ _ _ _ _ rfl rfl hx5) rfl ?_
    rw [HXS.out, HRES.out]
    exact ⟨hBb.trans (hsb.below (Nat.le_refl _)), noOb, .slice none 0 0, Sl.nil _ _ _, .inr ⟨rfl, rfl, rfl⟩⟩
  · have hz4 : findZ (xs.map Ob.nm) s = (i : Int) := by rw [findZ, hfnd]
    have hil : i < xs.length := by have := findI_lt hfnd; simpa using this
    obtain ⟨x, hx⟩ : ∃ x, xs[i]? = some x := ⟨_, List.getElem?_eq_getElem hil⟩
    obtain ⟨b, rfl, hbl, ⟨q0, q1, q2, q3, q4, q5, q6⟩, pv, q7, hps⟩ := hat i x hx
    have hres : findIn xs s = some x := by simp only [findIn, hfnd, Option.bind_some, hx]
    obtain ⟨Ap, cp, rfl⟩ : ∃ A c, pv = .slice A x.ps.length c := by obtain ⟨_, A, c, h, _⟩ := hps; exact ⟨A, c, h⟩
    have HRES := Lib.hid hres
    have HPS := Lib.hid hps
    have il : (i : Int) < (xs.length : Int) := by omega
    have ii : (0 : Int) ≤ (i : Int) := by omega
    have hbc := f25_obs d xs s hrd hxl2
    rw [hz4] at hbc
    have HBC := Lib.hid hbc
    clear hbc hz4 hrd hfnd hx hres hps hat
    go_enter Try.func17, Try.ntmps17
    go_wp2_with fail
    rw [← hwr]
    clear hwr
    refine HBC.out.mono ?_
    rintro e w2 ⟨rfl, hb⟩
    have hBb := hB.trans (hb.mono hBs)
    have p0 := (hb.cell (p := ⟨p, 1, none⟩) hpw).trans w0
    have p1 := (hb.cell (p := ⟨g, k, none⟩) hgw).trans w1
    have r0 := (hBb.cell (p := ⟨b, i * 8, none⟩) hbl).trans q0
    have r1 := (hBb.cell (p := ⟨b, i * 8 + 1, none⟩) hbl).trans q1
    have r2 := (hBb.cell (p := ⟨b, i * 8 + 2, none⟩) hbl).trans q2
    have r3 := (hBb.cell (p := ⟨b, i * 8 + 3, none⟩) hbl).trans q3
    have r4 := (hBb.cell (p := ⟨b, i * 8 + 4, none⟩) hbl).trans q4
    have r5 := (hBb.cell (p := ⟨b, i * 8 + 5, none⟩) hbl).trans q5
    have r6 := (hBb.cell (p := ⟨b, i * 8 + 6, none⟩) hbl).trans q6
    have r7 := (hBb.cell (p := ⟨b, i * 8 + 7, none⟩) hbl).trans q7
    have hx1 := (hb.block _ hxl).trans HX.out
    obtain ⟨⟨t0, t1, t2, t3, t4, t5, t6, t7⟩, tf⟩ := cells8 hx1
    have f0 := tf 0; have f1 := tf 1; have f2 := tf 2; have f3 := tf 3; have f4 := tf 4; have f5 := tf 5; have f6 := tf 6; have f7 := tf 7
    have HX1 := Lib.hid hx1
    clear hx1 tf q0 q1 q2 q3 q4 q5 q6 q7 w0 w1
    go_wp2_with fail
    obtain ⟨w5, hw5⟩ : ∃ w5, w5 = (((((((w2.setCell ⟨w.heap.size, 0, none⟩ (.string x.nm)).setCell ⟨w.heap.size, 1, none⟩ (.int .i64 x.kd)).setCell ⟨w.heap.size, 2, none⟩ (.int .i64 x.ty)).setCell ⟨w.heap.size, 3, none⟩ (.int .i64 x.lv)).setCell ⟨w.heap.size, 4, none⟩ (.int .i32 x.n)).setCell ⟨w.heap.size, 5, none⟩ (.int .i64 x.md)).setCell ⟨w.heap.size, 6, none⟩ (.bool x.out)).setCell ⟨w.heap.size, 7, none⟩ (.slice Ap x.ps.length cp) := ⟨_, rfl⟩
    rw [← hw5]
    obtain ⟨hx5, hsb⟩ := block8 HX1.out _ _ _ _ _ _ _ _ hw5
    clear hw5
    refine bodyPost_ret (results_obj _ 6 7 Try.results17 _ _ _ _ _ _ _ _ _ _ _ _ rfl rfl hx5) rfl ?_
    have hB5 := hBb.trans (hsb.below (Nat.le_refl _))
    rw [HXS.out, HRES.out]
    exact ⟨hB5, x, .slice Ap x.ps.length cp, HPS.out.keep (Fr.of_below hB5), .inl ⟨rfl, rfl⟩⟩

theorem f17_any {F : List Nat} {w : World} {p : Nat} {a : Abs} (m : Int) (s : ByteArray) (h : Sc F w p a) :
    Calls Try.prog 17 #[.pointer (some ⟨p, 0, none⟩), .int .i64 m, .string s] w (MemPost F w (memberA a.mds m s)) := by
  by_cases hm : m < 1 ∨ (a.mds.length : Int) < m
  · rw [memberA, if_pos hm]; exact f17_out m s h hm
  · rw [memberA, if_neg hm]
    obtain ⟨k, rfl⟩ : ∃ k : Nat, m = (k : Int) + 1 := ⟨(m - 1).toNat, by omega⟩
    have := f17_in k s h (by omega)
    rwa [show (((k : Int) + 1 - 1).toNat) = k by omega]
end Go.Proofs.Ytengenceelmijaa
