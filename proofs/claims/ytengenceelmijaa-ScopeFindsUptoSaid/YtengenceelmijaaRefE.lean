import Derived.Test.YtengenceelmijaaRefD
namespace Go.Proofs.Ytengenceelmijaa
open Go.RowKit
set_option linter.unusedVariables false

theorem results_ob46 (fn : Func) (r t : Nat) (hr : fn.results = #[.cell r 46, .tmp t]) (tmps : Array Value) (w : World) (g : Nat) (c0 c1 c2 c3 c4 c5 c6 c7 u : Value) (hp : tmps.getD r undef = .pointer (some ⟨g, 0, none⟩)) (ht : tmps.getD t undef = u)
    (hg : w.heap[g]? = some (.cells #[c0, c1, c2, c3, c4, c5, c6, c7] 46 (0, 0))) :
    (results fn tmps).run Try.prog w = .ok (.tuple #[.agg #[c0, c1, c2, c3, c4, c5, c6, c7], u]) w := by
  have hp' : tmps[r]?.getD undef = .pointer (some ⟨g, 0, none⟩) := by simpa using hp
  have ht' : tmps[t]?.getD undef = u := by simpa using ht
  obtain ⟨⟨h0, h1, h2, h3, h4, h5, h6, h7⟩, _⟩ := cells8 hg
  simp [results, hr, hp', ht', asAddr, go_sem, h0, h1, h2, h3, h4, h5, h6, h7]
def atN (l : List Ob) (s : ByteArray) : Nat → Option Ob
  | 0 => none
  | k + 1 => match atI l (k : Int) s with | some i => l[i]? | none => atN l s k
theorem atI_lt {l : List Ob} {lv : Int} {s : ByteArray} {i : Nat} (h : atI l lv s = some i) : i < l.length := by
  unfold atI at h
  exact (List.findIdx?_eq_some_iff_getElem.1 h).1

set_option maxHeartbeats 1000000 in
set_option maxRecDepth 100000 in
theorem f16_any {F : List Nat} {w : World} {v : Value} {r : Rf} (s : ByteArray) (n : Nat) (h : RfR F w v r) (hlv : r.lv = n) (h64 : n ≤ 64) :
    Calls Try.prog 16 #[v, .string s] w fun e w' => Below w.heap.size w w' ∧ ∃ x pv, PsR F w' pv x.ps ∧
      ((atN r.l s (n + 1) = some x ∧ e = .returned (.tuple #[obV x pv, .int .i64 0])) ∨ (atN r.l s (n + 1) = none ∧ x = noOb ∧ e = .returned (.tuple #[obV x pv, .int .i64 110]))) := by
  have hR := h
  obtain ⟨lv, mv, rfl, hl, hm⟩ := h
  rw [hlv] at hR ⊢
  obtain ⟨A, c, rfl, hc, hn, hA⟩ := ob_at hl
  obtain ⟨B, d, rfl, hd, _⟩ := obs_shape hm
  have HR := Lib.hid hR
  have HA := Lib.hid hA
  clear hl hm hA hR hlv
  obtain ⟨W, hW⟩ : ∃ W, W = (w.alloc (.cells #[.slice A r.l.length c, .int .i64 n, .slice B r.mods.length d] 31)).alloc (.cells #[.string ⟨#[]⟩, .int .i64 0, .int .i64 0, .int .i64 0, .int .i32 0, .int .i64 0, .bool false, .slice none 0 0] 46) := ⟨_, rfl⟩
  have hBW : Below w.heap.size w W := by rw [hW]; exact ((Below.refl _ _).alloc (Nat.le_refl _) _).alloc (by simp) _
  have hW1 : W.heap[w.heap.size]? = some (.cells #[.slice A r.l.length c, .int .i64 n, .slice B r.mods.length d] 31 (0, 0)) := by rw [hW]; exact heap_alloc2_old w _ _
  have hW2 : W.heap[w.heap.size + 1]? = some (.cells #[.string ⟨#[]⟩, .int .i64 0, .int .i64 0, .int .i64 0, .int .i32 0, .int .i64 0, .bool false, .slice none 0 0] 46 (0, 0)) := by rw [hW]; exact heap_alloc2_new w _ _
  have hWl := (Array.getElem?_eq_some_iff.1 hW2).1
  have HW := Lib.hid hW
  have HW1 := Lib.hid hW1
  have HW2 := Lib.hid hW2
  clear hW hW1 hW2
  go_enter Try.func16, Try.ntmps16
  go_wp2_with fail
  rw [← HW.out]
  go_loopw [6, 7] (fun k i wr => ∃ j : Nat, j ≤ n + 1 ∧ k = .int .i64 ((j : Int) - 1) ∧ Below W.heap.size W wr ∧ atN r.l s (n + 1) = atN r.l s j) (fun k _ _ => (intOf k + 1).toNat)
  case atStart => exact ⟨n + 1, Nat.le_refl _, by go_num, Below.refl _ _, rfl⟩
  case round =>
    obtain ⟨j, hj, rfl, hBl, hfn⟩ := hrel
    obtain ⟨⟨a0, a1, a2⟩, _⟩ := cells3 ((hBl.block _ (by omega)).trans HW1.out)
    have X2 := (hBl.block _ hWl).trans HW2.out
    obtain ⟨⟨y0, y1, y2, y3, y4, y5, y6, y7⟩, yf⟩ := cells8 X2
    have z0 := yf 0
    have z1 := yf 1
    have z2 := yf 2
    have z3 := yf 3
    have z4 := yf 4
    have z5 := yf 5
    have z6 := yf 6
    have z7 := yf 7
    have hs := hBl.size
    have HX2 := Lib.hid X2
    have HF := Lib.hid hfn
    have hBw : Below w.heap.size w wr := hBW.trans (hBl.mono hBW.size)
    clear X2 hfn yf
    cases j with
    | zero =>
      go_wp2_with fail
      obtain ⟨w5, hw5⟩ : ∃ w5, w5 = (((((((wr.setCell ⟨w.heap.size + 1, 0, none⟩ (.string ⟨#[]⟩)).setCell ⟨w.heap.size + 1, 1, none⟩ (.int .i64 0)).setCell ⟨w.heap.size + 1, 2, none⟩ (.int .i64 0)).setCell ⟨w.heap.size + 1, 3, none⟩ (.int .i64 0)).setCell ⟨w.heap.size + 1, 4, none⟩ (.int .i32 0)).setCell ⟨w.heap.size + 1, 5, none⟩ (.int .i64 0)).setCell ⟨w.heap.size + 1, 6, none⟩ (.bool false)).setCell ⟨w.heap.size + 1, 7, none⟩ (.slice none 0 0) := ⟨_, rfl⟩
      rw [← hw5]
      obtain ⟨hx5, hsb⟩ := block8 HX2.out _ _ _ _ _ _ _ _ hw5
      clear hw5
      refine bodyPost_ret (results_ob46 _ 4 5 Try.results16 _ _ _ _ _ _ _ _ _ _ _ _ rfl rfl hx5) rfl ?_
      exact ⟨hBw.trans (hsb.below (Nat.le_succ _)), noOb, .slice none 0 0, Sl.nil _ _ _, .inr ⟨HF.out, rfl, rfl⟩⟩
    | succ k =>
      have e1 : ((k + 1 : Nat) : Int) - 1 = (k : Int) := by omega
      rw [e1]
      clear e1
      have HCall := Lib.hid (f28_any (w := wr) (k : Int) s (HR.out.keep (Fr.of_below hBw)))
      rcases hfnd : atI r.l (k : Int) s with _ | i
      · have hz4 : atZ r.l (k : Int) s = -1 := by rw [atZ, hfnd]
        have hz5 : atZ r.l (k : Int) s < 0 := by rw [hz4]; omega
        have HFN := Lib.hid hfnd
        clear hfnd hz4
        go_wp2_with (go_at_call 28; refine HCall.out.mono ?_; rintro e w1 ⟨rfl, hb⟩)
        go_roundw
        case rel =>
          refine ⟨k, by omega, rfl, hBl.trans (hb.mono hs), HF.out.trans ?_⟩
          rw [atN, HFN.out]
        case measure => simp [intOf]
      · have hz4 : atZ r.l (k : Int) s = (i : Int) := by rw [atZ, hfnd]
        have hil : i < r.l.length := atI_lt hfnd
        obtain ⟨x, hx⟩ : ∃ x, r.l[i]? = some x := ⟨_, List.getElem?_eq_getElem hil⟩
        obtain ⟨b, o, rfl, hbl, ⟨q0, q1, q2, q3, q4, q5, q6⟩, pv, q7, hps⟩ := HA.out i x hx
        have hres : atN r.l s (n + 1) = some x := by rw [HF.out, atN, hfnd, ← hx]
        obtain ⟨Ap, cp, rfl⟩ : ∃ A c, pv = .slice A x.ps.length c := by obtain ⟨_, A, c, h, _⟩ := hps; exact ⟨A, c, h⟩
        have HRES := Lib.hid hres
        have HPS := Lib.hid hps
        have hbl1 := hbl.1
        have hwl : w.heap.size < wr.heap.size := by omega
        have hwl1 : w.heap.size + 1 < wr.heap.size := by omega
        have hC := HCall.out
        rw [hz4] at hC
        have HC := Lib.hid hC
        clear hfnd hx hres hps hbl hC hz4
        go_wp2_with (go_at_call 28; refine HC.out.mono ?_; rintro e w1 ⟨rfl, hb⟩; have hBb := hBw.trans (hb.mono hBw.size); have p0 := (hb.cell (p := ⟨w.heap.size, 0, none⟩) hwl).trans a0; have r0 := (hBb.cell (p := ⟨b, o + i * 8, none⟩) hbl1).trans q0; have r1 := (hBb.cell (p := ⟨b, o + i * 8 + 1, none⟩) hbl1).trans q1; have r2 := (hBb.cell (p := ⟨b, o + i * 8 + 2, none⟩) hbl1).trans q2; have r3 := (hBb.cell (p := ⟨b, o + i * 8 + 3, none⟩) hbl1).trans q3; have r4 := (hBb.cell (p := ⟨b, o + i * 8 + 4, none⟩) hbl1).trans q4; have r5 := (hBb.cell (p := ⟨b, o + i * 8 + 5, none⟩) hbl1).trans q5; have r6 := (hBb.cell (p := ⟨b, o + i * 8 + 6, none⟩) hbl1).trans q6; have r7 := (hBb.cell (p := ⟨b, o + i * 8 + 7, none⟩) hbl1).trans q7; have hx1 := (hb.block _ hwl1).trans HX2.out; obtain ⟨⟨t0, t1, t2, t3, t4, t5, t6, t7⟩, tf⟩ := cells8 hx1; have f0 := tf 0; have f1 := tf 1; have f2 := tf 2; have f3 := tf 3; have f4 := tf 4; have f5 := tf 5; have f6 := tf 6; have f7 := tf 7; have HX1 := Lib.hid hx1; clear hx1 tf)
        obtain ⟨w5, hw5⟩ : ∃ w5, w5 = (((((((w1.setCell ⟨w.heap.size + 1, 0, none⟩ (.string x.nm)).setCell ⟨w.heap.size + 1, 1, none⟩ (.int .i64 x.kd)).setCell ⟨w.heap.size + 1, 2, none⟩ (.int .i64 x.ty)).setCell ⟨w.heap.size + 1, 3, none⟩ (.int .i64 x.lv)).setCell ⟨w.heap.size + 1, 4, none⟩ (.int .i32 x.n)).setCell ⟨w.heap.size + 1, 5, none⟩ (.int .i64 x.md)).setCell ⟨w.heap.size + 1, 6, none⟩ (.bool x.out)).setCell ⟨w.heap.size + 1, 7, none⟩ (.slice Ap x.ps.length cp) := ⟨_, rfl⟩
        rw [← hw5]
        obtain ⟨hx5, hsb⟩ := block8 HX1.out _ _ _ _ _ _ _ _ hw5
        clear hw5
        refine bodyPost_ret (results_ob46 _ 4 5 Try.results16 _ _ _ _ _ _ _ _ _ _ _ _ rfl rfl hx5) rfl ?_
        have hB5 := hBb.trans (hsb.below (Nat.le_succ _))
        exact ⟨hB5, x, .slice Ap x.ps.length cp, HPS.out.keep (Fr.of_below hB5), .inl ⟨HRES.out, rfl⟩⟩
end Go.Proofs.Ytengenceelmijaa
