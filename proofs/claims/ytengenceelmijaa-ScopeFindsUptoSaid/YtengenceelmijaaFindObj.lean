import Derived.Test.YtengenceelmijaaChange
import Derived.Laws.ResultCell
namespace Go.Proofs.Ytengenceelmijaa
open Go.RowKit
set_option linter.unusedVariables false

def noOb : Ob := ⟨⟨#[]⟩, 0, 0, 0, 0, 0, false, []⟩
def findIn (xs : List Ob) (s : ByteArray) : Option Ob := (findI (xs.map Ob.nm) s).bind fun i => xs[i]?
/-- What a name names, from so many lists inward. -/
def findN (opn : List (List Ob)) (s : ByteArray) : Nat → Option Ob
  | 0 => none
  | k + 1 => match findIn (opn[k]?.getD []) s with
    | some x => some x
    | none => findN opn s k

theorem obs_at {F : List Nat} {w : World} {p : Nat} {a : Abs} {g c : Nat} {mv : Value} {vs ms : List Value} (h : ScV F w p a (.slice (some ⟨g, 0, none⟩) a.opn.length c) mv vs ms) {k : Nat} (hk : k < a.opn.length) :
    ∃ B d xs, a.opn[k]? = some xs ∧ cel w g k (.slice B xs.length d) ∧ Rd w B (xs.map Ob.nm) ∧ xs.length ≤ 4194304 ∧
      ∀ i x, xs[i]? = some x → ∃ b, B = some ⟨b, 0, none⟩ ∧ b < w.heap.size ∧ Ob7 w b (i * 8) x ∧ ∃ pv, cel w b (i * 8 + 7) pv ∧ PsR F w pv x.ps := by
  obtain ⟨v, hv⟩ : ∃ v, vs[k]? = some v := ⟨_, List.getElem?_eq_getElem (by have := h.os.1; omega)⟩
  obtain ⟨xs, hxs⟩ : ∃ xs, a.opn[k]? = some xs := ⟨_, List.getElem?_eq_getElem hk⟩
  have hob := h.os.2 _ v xs hv hxs
  obtain ⟨B, d, rfl, hrd, hcell⟩ := hob.rd
  obtain ⟨_, _, e, _, hAc⟩ := own_cells h.ow
  cases e
  obtain ⟨_, e, _, _, hAc⟩ := hAc (by omega)
  cases e
  refine ⟨B, d, xs, hxs, hAc _ _ hv, hrd, hob.1, fun i x hi => ?_⟩
  obtain ⟨b, rfl, _, hb, hh⟩ := hcell (by have := (List.getElem?_eq_some_iff.1 hi).1; omega)
  exact ⟨b, rfl, hb, hh i x hi⟩

theorem cells8 {w : World} {g : Nat} {t : TypeId} {c0 c1 c2 c3 c4 c5 c6 c7 : Value} (hg : w.heap[g]? = some (.cells #[c0, c1, c2, c3, c4, c5, c6, c7] t (0, 0))) :
    (cel w g 0 c0 ∧ cel w g 1 c1 ∧ cel w g 2 c2 ∧ cel w g 3 c3 ∧ cel w g 4 c4 ∧ cel w g 5 c5 ∧ cel w g 6 c6 ∧ cel w g 7 c7) ∧ ∀ i, w.frozen? ⟨g, i, none⟩ = false := by
  refine ⟨⟨?_, ?_, ?_, ?_, ?_, ?_, ?_, ?_⟩, fun i => frozen_of_row w g i _ _ hg⟩ <;> (rw [cel, cell_of_row w g _ _ _ _ hg]; rfl)

theorem block8 {w w' : World} {g : Nat} {t : TypeId} {c0 c1 c2 c3 c4 c5 c6 c7 : Value} (hg : w.heap[g]? = some (.cells #[c0, c1, c2, c3, c4, c5, c6, c7] t (0, 0))) (v0 v1 v2 v3 v4 v5 v6 v7 : Value)
    (hw : w' = (((((((w.setCell ⟨g, 0, none⟩ v0).setCell ⟨g, 1, none⟩ v1).setCell ⟨g, 2, none⟩ v2).setCell ⟨g, 3, none⟩ v3).setCell ⟨g, 4, none⟩ v4).setCell ⟨g, 5, none⟩ v5).setCell ⟨g, 6, none⟩ v6).setCell ⟨g, 7, none⟩ v7) :
    w'.heap[g]? = some (.cells #[v0, v1, v2, v3, v4, v5, v6, v7] t (0, 0)) ∧ SameBut g w w' := by
  subst hw
  have h0 : (w.setCell ⟨g, 0, none⟩ v0).heap[g]? = some (.cells #[v0, c1, c2, c3, c4, c5, c6, c7] t (0, 0)) := heap_setCell_same _ g 0 _ t v0 hg
  have h1 : ((w.setCell ⟨g, 0, none⟩ v0).setCell ⟨g, 1, none⟩ v1).heap[g]? = some (.cells #[v0, v1, c2, c3, c4, c5, c6, c7] t (0, 0)) := heap_setCell_same _ g 1 _ t v1 h0
  have h2 : (((w.setCell ⟨g, 0, none⟩ v0).setCell ⟨g, 1, none⟩ v1).setCell ⟨g, 2, none⟩ v2).heap[g]? = some (.cells #[v0, v1, v2, c3, c4, c5, c6, c7] t (0, 0)) := heap_setCell_same _ g 2 _ t v2 h1
  have h3 : ((((w.setCell ⟨g, 0, none⟩ v0).setCell ⟨g, 1, none⟩ v1).setCell ⟨g, 2, none⟩ v2).setCell ⟨g, 3, none⟩ v3).heap[g]? = some (.cells #[v0, v1, v2, v3, c4, c5, c6, c7] t (0, 0)) := heap_setCell_same _ g 3 _ t v3 h2
  have h4 : (((((w.setCell ⟨g, 0, none⟩ v0).setCell ⟨g, 1, none⟩ v1).setCell ⟨g, 2, none⟩ v2).setCell ⟨g, 3, none⟩ v3).setCell ⟨g, 4, none⟩ v4).heap[g]? = some (.cells #[v0, v1, v2, v3, v4, c5, c6, c7] t (0, 0)) := heap_setCell_same _ g 4 _ t v4 h3
  have h5 : ((((((w.setCell ⟨g, 0, none⟩ v0).setCell ⟨g, 1, none⟩ v1).setCell ⟨g, 2, none⟩ v2).setCell ⟨g, 3, none⟩ v3).setCell ⟨g, 4, none⟩ v4).setCell ⟨g, 5, none⟩ v5).heap[g]? = some (.cells #[v0, v1, v2, v3, v4, v5, c6, c7] t (0, 0)) := heap_setCell_same _ g 5 _ t v5 h4
  have h6 : (((((((w.setCell ⟨g, 0, none⟩ v0).setCell ⟨g, 1, none⟩ v1).setCell ⟨g, 2, none⟩ v2).setCell ⟨g, 3, none⟩ v3).setCell ⟨g, 4, none⟩ v4).setCell ⟨g, 5, none⟩ v5).setCell ⟨g, 6, none⟩ v6).heap[g]? = some (.cells #[v0, v1, v2, v3, v4, v5, v6, c7] t (0, 0)) := heap_setCell_same _ g 6 _ t v6 h5
  have h7 : ((((((((w.setCell ⟨g, 0, none⟩ v0).setCell ⟨g, 1, none⟩ v1).setCell ⟨g, 2, none⟩ v2).setCell ⟨g, 3, none⟩ v3).setCell ⟨g, 4, none⟩ v4).setCell ⟨g, 5, none⟩ v5).setCell ⟨g, 6, none⟩ v6).setCell ⟨g, 7, none⟩ v7).heap[g]? = some (.cells #[v0, v1, v2, v3, v4, v5, v6, v7] t (0, 0)) := heap_setCell_same _ g 7 _ t v7 h6
  have k0 := (SameBut.refl g w).setCell 0 v0
  have k1 := k0.setCell 1 v1
  have k2 := k1.setCell 2 v2
  have k3 := k2.setCell 3 v3
  have k4 := k3.setCell 4 v4
  have k5 := k4.setCell 5 v5
  have k6 := k5.setCell 6 v6
  have k7 := k6.setCell 7 v7
  exact ⟨h7, k7⟩
theorem SameBut.below {g B : Nat} {w w' : World} (h : SameBut g w w') (hB : B ≤ g) : Below B w w' := ⟨h.os, h.tape, h.output, Nat.le_of_eq h.size.symm, fun k hk => h.block k (by omega)⟩

theorem results_obj (fn : Func) (r t : Nat) (hr : fn.results = #[.cell r 25, .tmp t]) (tmps : Array Value) (w : World) (g : Nat) (c0 c1 c2 c3 c4 c5 c6 c7 u : Value) (hp : tmps.getD r undef = .pointer (some ⟨g, 0, none⟩)) (ht : tmps.getD t undef = u)
    (hg : w.heap[g]? = some (.cells #[c0, c1, c2, c3, c4, c5, c6, c7] 25 (0, 0))) :
    (results fn tmps).run Try.prog w = .ok (.tuple #[.agg #[c0, c1, c2, c3, c4, c5, c6, c7], u]) w := by
  have hp' : tmps[r]?.getD undef = .pointer (some ⟨g, 0, none⟩) := by simpa using hp
  have ht' : tmps[t]?.getD undef = u := by simpa using ht
  obtain ⟨⟨h0, h1, h2, h3, h4, h5, h6, h7⟩, _⟩ := cells8 hg
  simp [results, hr, hp', ht', asAddr, go_sem, h0, h1, h2, h3, h4, h5, h6, h7]

set_option maxHeartbeats 1000000 in
set_option maxRecDepth 100000 in
theorem f8_any {F : List Nat} {w : World} {p : Nat} {a : Abs} (s : ByteArray) (h : Sc F w p a) :
    Calls Try.prog 8 #[.pointer (some ⟨p, 0, none⟩), .string s] w fun e w' => Below w.heap.size w w' ∧ ∃ x pv, PsR F w' pv x.ps ∧
      ((findN a.opn s a.opn.length = some x ∧ e = .returned (.tuple #[obV x pv, .int .i64 0])) ∨ (findN a.opn s a.opn.length = none ∧ x = noOb ∧ e = .returned (.tuple #[obV x pv, .int .i64 110]))) := by
  obtain ⟨ov, mv, vs, ms, h⟩ := h
  obtain ⟨h0, h1, hf, hp⟩ := h.pcell
  have hs1 := h.small.1
  obtain ⟨A, c, rfl, hc, hA⟩ := own_cells h.ow
  obtain ⟨g, rfl, hgb, hg, hAc⟩ := hA h.small.2.2
  have HS := Lib.hid h
  have hs2 := h.small.2.2
  clear h h1 hf hA hAc hgb
  go_enter Try.func8, Try.ntmps8
  go_wp2_with fail
  go_loopw [6, 7] (fun k i wr => ∃ j : Nat, j ≤ a.opn.length ∧ k = .int .i64 ((j : Int) - 1) ∧ Below w.heap.size w wr ∧ wr.heap[w.heap.size]? = some (.cells #[.string ⟨#[]⟩, .int .i64 0, .int .i64 0, .int .i64 0, .int .i32 0, .int .i64 0, .bool false, .slice none 0 0] 25 (0, 0)) ∧
    findN a.opn s a.opn.length = findN a.opn s j) (fun k _ _ => (intOf k + 1).toNat)
  case atStart => exact ⟨a.opn.length, Nat.le_refl _, rfl, (Below.refl _ _).alloc (Nat.le_refl _) _, heap_alloc_new w _, rfl⟩
  case round =>
    obtain ⟨j, hj, rfl, hB, hx, hfn⟩ := hrel
    have w0 := (hB.cell (p := ⟨p, 0, none⟩) hp).trans h0
    obtain ⟨⟨y0, y1, y2, y3, y4, y5, y6, y7⟩, yf⟩ := cells8 hx
    have z0 := yf 0
    have z1 := yf 1
    have z2 := yf 2
    have z3 := yf 3
    have z4 := yf 4
    have z5 := yf 5
    have z6 := yf 6
    have z7 := yf 7
    have hBs := hB.size
    have hxl := (Array.getElem?_eq_some_iff.1 hx).1
    have HX := Lib.hid hx
    have HF := Lib.hid hfn
    clear hx hfn yf
    cases j with
    | zero =>
      go_wp2_with fail
      obtain ⟨w5, hw5⟩ : ∃ w5, w5 = (((((((wr.setCell ⟨w.heap.size, 0, none⟩ (.string ⟨#[]⟩)).setCell ⟨w.heap.size, 1, none⟩ (.int .i64 0)).setCell ⟨w.heap.size, 2, none⟩ (.int .i64 0)).setCell ⟨w.heap.size, 3, none⟩ (.int .i64 0)).setCell ⟨w.heap.size, 4, none⟩ (.int .i32 0)).setCell ⟨w.heap.size, 5, none⟩ (.int .i64 0)).setCell ⟨w.heap.size, 6, none⟩ (.bool false)).setCell ⟨w.heap.size, 7, none⟩ (.slice none 0 0) := ⟨_, rfl⟩
      rw [← hw5]
      obtain ⟨hx5, hsb⟩ := block8 HX.out _ _ _ _ _ _ _ _ hw5
      clear hw5
      refine bodyPost_ret (results_obj _ 4 5 Try.results8 _ _ _ _ _ _ _ _ _ _ _ _ rfl rfl hx5) rfl ?_
      exact ⟨hB.trans (hsb.below (Nat.le_refl _)), noOb, .slice none 0 0, Sl.nil _ _ _, .inr ⟨HF.out, rfl, rfl⟩⟩
    | succ k =>
      obtain ⟨B, d, xs, hxs, hgk, hrd, hxl2, hat⟩ := obs_at HS.out (k := k) (by omega)
      replace hrd := hrd.below hB
      replace hgk := (hB.cell (p := ⟨g, k, none⟩) hg).trans hgk
      have HXS := Lib.hid hxs
      have HAT := Lib.hid hat
      clear hxs hat
      have e1 : ((k + 1 : Nat) : Int) - 1 = (k : Int) := by omega
      rw [e1]
      clear e1
      rcases hfnd : findI (xs.map Ob.nm) s with _ | i
      · have hz4 : findZ (xs.map Ob.nm) s = -1 := by rw [findZ, hfnd]
        have hz5 : findZ (xs.map Ob.nm) s < 0 := by rw [hz4]; omega
        have HFN := Lib.hid hfnd
        clear hfnd hz4
        go_wp2_with (go_at_call 25; refine (f25_obs d xs s hrd hxl2).mono ?_; rintro e w1 ⟨rfl, hb⟩)
        go_roundw
        case rel =>
          refine ⟨k, by omega, rfl, hB.trans (hb.mono hBs), (hb.block _ hxl).trans HX.out, HF.out.trans ?_⟩
          rw [findN, HXS.out]
          simp only [Option.getD_some, findIn, HFN.out, Option.bind_none]
        case measure => simp [intOf]
      · have hz4 : findZ (xs.map Ob.nm) s = (i : Int) := by rw [findZ, hfnd]
        have hil : i < xs.length := by have := findI_lt hfnd; simpa using this
        obtain ⟨x, hx⟩ : ∃ x, xs[i]? = some x := ⟨_, List.getElem?_eq_getElem hil⟩
        obtain ⟨b, rfl, hbl, ⟨q0, q1, q2, q3, q4, q5, q6⟩, pv, q7, hps⟩ := HAT.out i x hx
        have hres : findN a.opn s a.opn.length = some x := by
          rw [HF.out, findN, HXS.out]
          simp only [Option.getD_some, findIn, hfnd, Option.bind_some, hx]
        obtain ⟨Ap, cp, rfl⟩ : ∃ A c, pv = .slice A x.ps.length c := by obtain ⟨_, A, c, h, _⟩ := hps; exact ⟨A, c, h⟩
        have hgw : g < wr.heap.size := by omega
        have hpw : p < wr.heap.size := by omega
        have HRES := Lib.hid hres
        have HPS := Lib.hid hps
        have il : (i : Int) < (xs.length : Int) := by omega
        have ii : (0 : Int) ≤ (i : Int) := by omega
        clear hfnd hx hres hps
        have hbc := f25_obs d xs s hrd hxl2
        rw [hz4] at hbc
        have HBC := Lib.hid hbc
        clear hbc hz4 hrd
        go_wp2_with (go_at_call 25; refine HBC.out.mono ?_; rintro e w1 ⟨rfl, hb⟩; have hBb := hB.trans (hb.mono hBs); have p0 := (hb.cell (p := ⟨p, 0, none⟩) hpw).trans w0; have p1 := (hb.cell (p := ⟨g, k, none⟩) hgw).trans hgk; have r0 := (hBb.cell (p := ⟨b, i * 8, none⟩) hbl).trans q0; have r1 := (hBb.cell (p := ⟨b, i * 8 + 1, none⟩) hbl).trans q1; have r2 := (hBb.cell (p := ⟨b, i * 8 + 2, none⟩) hbl).trans q2; have r3 := (hBb.cell (p := ⟨b, i * 8 + 3, none⟩) hbl).trans q3; have r4 := (hBb.cell (p := ⟨b, i * 8 + 4, none⟩) hbl).trans q4; have r5 := (hBb.cell (p := ⟨b, i * 8 + 5, none⟩) hbl).trans q5; have r6 := (hBb.cell (p := ⟨b, i * 8 + 6, none⟩) hbl).trans q6; have r7 := (hBb.cell (p := ⟨b, i * 8 + 7, none⟩) hbl).trans q7; have hx1 := (hb.block _ hxl).trans HX.out; obtain ⟨⟨t0, t1, t2, t3, t4, t5, t6, t7⟩, tf⟩ := cells8 hx1; have f0 := tf 0; have f1 := tf 1; have f2 := tf 2; have f3 := tf 3; have f4 := tf 4; have f5 := tf 5; have f6 := tf 6; have f7 := tf 7; have HX1 := Lib.hid hx1; clear hx1 tf)
        obtain ⟨w5, hw5⟩ : ∃ w5, w5 = (((((((w1.setCell ⟨w.heap.size, 0, none⟩ (.string x.nm)).setCell ⟨w.heap.size, 1, none⟩ (.int .i64 x.kd)).setCell ⟨w.heap.size, 2, none⟩ (.int .i64 x.ty)).setCell ⟨w.heap.size, 3, none⟩ (.int .i64 x.lv)).setCell ⟨w.heap.size, 4, none⟩ (.int .i32 x.n)).setCell ⟨w.heap.size, 5, none⟩ (.int .i64 x.md)).setCell ⟨w.heap.size, 6, none⟩ (.bool x.out)).setCell ⟨w.heap.size, 7, none⟩ (.slice Ap x.ps.length cp) := ⟨_, rfl⟩
        rw [← hw5]
        obtain ⟨hx5, hsb⟩ := block8 HX1.out _ _ _ _ _ _ _ _ hw5
        clear hw5
        refine bodyPost_ret (results_obj _ 4 5 Try.results8 _ _ _ _ _ _ _ _ _ _ _ _ rfl rfl hx5) rfl ?_
        have hB5 := hBb.trans (hsb.below (Nat.le_refl _))
        exact ⟨hB5, x, .slice Ap x.ps.length cp, HPS.out.keep (Fr.of_below hB5), .inl ⟨HRES.out, rfl⟩⟩
end Go.Proofs.Ytengenceelmijaa
