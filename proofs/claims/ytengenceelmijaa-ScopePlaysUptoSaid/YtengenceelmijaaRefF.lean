import Derived.Test.YtengenceelmijaaRefE
namespace Go.Proofs.Ytengenceelmijaa
open Go.RowKit
set_option linter.unusedVariables false

theorem f18_out {F : List Nat} {w : World} {v : Value} {r : Rf} (m : Int) (s : ByteArray) (h : RfR F w v r) (hs1 : r.mods.length ≤ 64) (hm : m < 1 ∨ (r.mods.length : Int) < m) :
    Calls Try.prog 18 #[v, .int .i64 m, .string s] w (MemPost F w none) := by
  obtain ⟨lv, mv, rfl, hl, hmm⟩ := h
  obtain ⟨A, c, rfl, hc, hn, hA⟩ := ob_at hl
  obtain ⟨B, d, rfl, hd, _⟩ := obs_shape hmm
  clear hl hmm hA
  have hB : ∀ o1 o2, Below w.heap.size w ((w.alloc o1).alloc o2) := fun o1 o2 => ((Below.refl w.heap.size w).alloc (Nat.le_refl _) o1).alloc (by simp) o2
  by_cases hz : m < 1
  · have hz' : decide (m < 1) = true := by simpa using hz
    go_enter Try.func18, Try.ntmps18
    go_wp2_with fail
    refine bodyPost_ret (results_ob46 _ 6 7 Try.results18 _ _ _ _ _ _ _ _ _ _ _ _ rfl rfl (heap_alloc2_new w _ _)) rfl ?_
    exact ⟨hB _ _, noOb, .slice none 0 0, Sl.nil _ _ _, .inr ⟨rfl, rfl, rfl⟩⟩
  · have hz' : decide (m < 1) = false := by simpa using hz
    have hb : (r.mods.length : Int) < m := by omega
    go_enter Try.func18, Try.ntmps18
    go_wp2_with fail
    refine bodyPost_ret (results_ob46 _ 6 7 Try.results18 _ _ _ _ _ _ _ _ _ _ _ _ rfl rfl (heap_alloc2_new w _ _)) rfl ?_
    exact ⟨hB _ _, noOb, .slice none 0 0, Sl.nil _ _ _, .inr ⟨rfl, rfl, rfl⟩⟩

set_option maxHeartbeats 2000000 in
set_option maxRecDepth 100000 in
theorem f18_in {F : List Nat} {w : World} {v : Value} {r : Rf} (k : Nat) (s : ByteArray) (h : RfR F w v r) (hs1 : r.mods.length ≤ 64) (hk : k < r.mods.length) :
    Calls Try.prog 18 #[v, .int .i64 ((k : Int) + 1), .string s] w (MemPost F w (findIn (r.mods[k]?.getD []) s)) := by
  obtain ⟨lv, mv, rfl, hl, hmm⟩ := h
  obtain ⟨A, c, rfl, hc, hn, hA⟩ := ob_at hl
  obtain ⟨B, d, rfl, hd, hl2, hB⟩ := obs_shape hmm
  obtain ⟨xs, hxs⟩ : ∃ xs, r.mods[k]? = some xs := ⟨_, List.getElem?_eq_getElem hk⟩
  obtain ⟨g, o, rfl, hg, u, hu, hxr⟩ := hB k xs hxs
  obtain ⟨E, f, rfl, hf, hxl, hE⟩ := ob_at hxr
  rw [hxs, Option.getD_some]
  rw [Nat.mul_one] at hu
  have HE := Lib.hid hE
  have hgl := hg.1
  clear hl hmm hA hB hxs hxr hE hg
  obtain ⟨W, hW⟩ : ∃ W, W = (w.alloc (.cells #[.slice A r.l.length c, .int .i64 r.lv, .slice (some ⟨g, o, none⟩) r.mods.length d] 31)).alloc (.cells #[.string ⟨#[]⟩, .int .i64 0, .int .i64 0, .int .i64 0, .int .i32 0, .int .i64 0, .bool false, .slice none 0 0] 46) := ⟨_, rfl⟩
  have hBW : Below w.heap.size w W := by rw [hW]; exact ((Below.refl _ _).alloc (Nat.le_refl _) _).alloc (by simp) _
  have hW2 : W.heap[w.heap.size + 1]? = some (.cells #[.string ⟨#[]⟩, .int .i64 0, .int .i64 0, .int .i64 0, .int .i32 0, .int .i64 0, .bool false, .slice none 0 0] 46 (0, 0)) := by rw [hW]; exact heap_alloc2_new w _ _
  have hW1 : W.heap[w.heap.size]? = some (.cells #[.slice A r.l.length c, .int .i64 r.lv, .slice (some ⟨g, o, none⟩) r.mods.length d] 31 (0, 0)) := by rw [hW]; exact heap_alloc2_old w _ _
  have hWl := (Array.getElem?_eq_some_iff.1 hW2).1
  have HW := Lib.hid hW
  have HW2 := Lib.hid hW2
  obtain ⟨⟨a0, a1, a2⟩, _⟩ := cells3 hW1
  have hgu := (hBW.cell (p := ⟨g, o + k, none⟩) hgl).trans hu
  have ki : (0 : Int) ≤ (k : Int) := by omega
  have kl : (k : Int) < (r.mods.length : Int) := by omega
  have hk1 : decide ((k : Int) + 1 < 1) = false := by simp; omega
  have hk2 : decide ((r.mods.length : Int) < (k : Int) + 1) = false := by simp; omega
  clear hW hW2 hW1
  go_enter Try.func18, Try.ntmps18
  go_wp2_with fail
  rw [← HW.out]
  go_loopw [9] (fun i wr => ∃ j : Nat, j ≤ xs.length ∧ i = .int .i64 j ∧ Below W.heap.size W wr ∧ ∀ (i : Nat) (a : ByteArray), i < j → (xs.map Ob.nm)[i]? = some a → (a.toList == s.toList) = false) (fun i _ => xs.length - (intOf i).toNat)
  case atStart => exact ⟨0, Nat.zero_le _, rfl, Below.refl _ _, fun i a hi => by omega⟩
  case round =>
    obtain ⟨j, hj, rfl, hBl, hno⟩ := hrel
    have X2 := (hBl.block _ hWl).trans HW2.out
    obtain ⟨⟨y0, y1, y2, y3, y4, y5, y6, y7⟩, yf⟩ := cells8 X2
    have z0 := yf 0
    have z1 := yf 1
    have z2 := yf 2
    have z3 := yf 3
    have z4 := yf 4
    have z5 := yf 5
    have z6 := yf 6
    have z7 := yf 7
    have hs := hBl.size
    have HX2 := Lib.hid X2
    have HN := Lib.hid hno
    have hBw : Below w.heap.size w wr := hBW.trans (hBl.mono hBW.size)
    clear X2 hno yf
    by_cases hlt : j < xs.length
    · obtain ⟨x, hx⟩ : ∃ x, xs[j]? = some x := ⟨_, List.getElem?_eq_getElem hlt⟩
      obtain ⟨b, q, rfl, hbl, ⟨q0, q1, q2, q3, q4, q5, q6⟩, pv, q7, hps⟩ := HE.out j x hx
      obtain ⟨Ap, cp, rfl⟩ : ∃ A c, pv = .slice A x.ps.length c := by obtain ⟨_, A, c, h, _⟩ := hps; exact ⟨A, c, h⟩
      have hbl1 := hbl.1
      have rr := fun (o : Nat) (u : Value) (hu : w.cell? ⟨b, o, none⟩ = some u) => (hBw.cell (p := ⟨b, o, none⟩) hbl1).trans hu
      have r0 := rr _ _ q0
      have r1 := rr _ _ q1
      have r2 := rr _ _ q2
      have r3 := rr _ _ q3
      have r4 := rr _ _ q4
      have r5 := rr _ _ q5
      have r6 := rr _ _ q6
      have r7 := rr _ _ q7
      have hxn : (xs.map Ob.nm)[j]? = some x.nm := by rw [List.getElem?_map, hx]; rfl
      have HX := Lib.hid hx
      have HXN := Lib.hid hxn
      have HPS := Lib.hid hps
      clear hbl q0 q1 q2 q3 q4 q5 q6 q7 hx hps rr hxn
      cases he : x.nm.toList == s.toList with
      | true =>
        have hfi : findIn xs s = some x := by rw [findIn, findI_some HXN.out he HN.out, Option.bind_some, HX.out]
        have HFI := Lib.hid hfi
        clear hfi
        go_wp2_with fail
        obtain ⟨w5, hw5⟩ : ∃ w5, w5 = (((((((wr.setCell ⟨w.heap.size + 1, 0, none⟩ (.string x.nm)).setCell ⟨w.heap.size + 1, 1, none⟩ (.int .i64 x.kd)).setCell ⟨w.heap.size + 1, 2, none⟩ (.int .i64 x.ty)).setCell ⟨w.heap.size + 1, 3, none⟩ (.int .i64 x.lv)).setCell ⟨w.heap.size + 1, 4, none⟩ (.int .i32 x.n)).setCell ⟨w.heap.size + 1, 5, none⟩ (.int .i64 x.md)).setCell ⟨w.heap.size + 1, 6, none⟩ (.bool x.out)).setCell ⟨w.heap.size + 1, 7, none⟩ (.slice Ap x.ps.length cp) := ⟨_, rfl⟩
        rw [← hw5]
        obtain ⟨hx5, hsb⟩ := block8 HX2.out _ _ _ _ _ _ _ _ hw5
        clear hw5
        refine bodyPost_ret (results_ob46 _ 6 7 Try.results18 _ _ _ _ _ _ _ _ _ _ _ _ rfl rfl hx5) rfl ?_
        have hB5 := hBw.trans (hsb.below (Nat.le_succ _))
        exact ⟨hB5, x, .slice Ap x.ps.length cp, HPS.out.keep (Fr.of_below hB5), .inl ⟨HFI.out, rfl⟩⟩
      | false =>
        go_wp2
        go_roundw
        case rel =>
          refine ⟨j + 1, by omega, by go_num, hBl, fun i a hi hia => ?_⟩
          rcases Nat.lt_succ_iff_lt_or_eq.1 hi with h | rfl
          · exact HN.out i a h hia
          · rw [HXN.out] at hia; injection hia with hia; exact hia ▸ he
        case measure => simp [intOf]; omega
    · obtain rfl : j = xs.length := by omega
      have hfi : findIn xs s = none := by
        rw [findIn, findI_none fun i a hi => HN.out i a (by have := (List.getElem?_eq_some_iff.1 hi).1; simpa using this) hi]; rfl
      have HFI := Lib.hid hfi
      clear hfi
      go_wp2_with fail
      obtain ⟨w5, hw5⟩ : ∃ w5, w5 = (((((((wr.setCell ⟨w.heap.size + 1, 0, none⟩ (.string ⟨#[]⟩)).setCell ⟨w.heap.size + 1, 1, none⟩ (.int .i64 0)).setCell ⟨w.heap.size + 1, 2, none⟩ (.int .i64 0)).setCell ⟨w.heap.size + 1, 3, none⟩ (.int .i64 0)).setCell ⟨w.heap.size + 1, 4, none⟩ (.int .i32 0)).setCell ⟨w.heap.size + 1, 5, none⟩ (.int .i64 0)).setCell ⟨w.heap.size + 1, 6, none⟩ (.bool false)).setCell ⟨w.heap.size + 1, 7, none⟩ (.slice none 0 0) := ⟨_, rfl⟩
      rw [← hw5]
      obtain ⟨hx5, hsb⟩ := block8 HX2.out _ _ _ _ _ _ _ _ hw5
      clear hw5
      refine bodyPost_ret (results_ob46 _ 6 7 Try.results18 _ _ _ _ _ _ _ _ _ _ _ _ rfl rfl hx5) rfl ?_
      exact ⟨hBw.trans (hsb.below (Nat.le_succ _)), noOb, .slice none 0 0, Sl.nil _ _ _, .inr ⟨HFI.out, rfl, rfl⟩⟩

theorem f18_any {F : List Nat} {w : World} {v : Value} {r : Rf} (m : Int) (s : ByteArray) (h : RfR F w v r) (hs1 : r.mods.length ≤ 64) :
    Calls Try.prog 18 #[v, .int .i64 m, .string s] w (MemPost F w (memberA r.mods m s)) := by
  by_cases hm : m < 1 ∨ (r.mods.length : Int) < m
  · rw [memberA, if_pos hm]; exact f18_out m s h hs1 hm
  · rw [memberA, if_neg hm]
    obtain ⟨k, rfl⟩ : ∃ k : Nat, m = (k : Int) + 1 := ⟨(m - 1).toNat, by omega⟩
    have := f18_in k s h hs1 (by omega)
    rwa [show (((k : Int) + 1 - 1).toNat) = k by omega]

theorem f27_same {F : List Nat} {w : World} {u v : Value} {ps : List (Int × Bool)} (h : PsR F w u ps) (k : PsR F w v ps) :
    Calls Try.prog 27 #[u, v] w fun e w' => e = .returned (.bool true) ∧ Below w.heap.size w w' := by
  have := f27_any h k
  simpa using this
set_option maxHeartbeats 4000000 in
set_option maxRecDepth 100000 in
theorem f13_same {F : List Nat} {w : World} {u v : Value} {es : List Ex} (h : ExR F w u es) (k : ExR F w v es) :
    Calls Try.prog 13 #[u, v] w fun e w' => e = .returned (.bool true) ∧ Below w.heap.size w w' := by
  obtain ⟨A, c, rfl, hc, hl, hA⟩ := eim_at h
  obtain ⟨B, d, rfl, hd, hm, hB⟩ := eim_at k
  have HA := Lib.hid hA
  have HB := Lib.hid hB
  clear h k hA hB
  go_enter Try.func13, Try.ntmps13
  go_wp2
  go_loopw [5, 6, 7] (fun i q q' wr => ∃ j : Nat, j ≤ es.length ∧ i = .int .i64 j ∧ Below w.heap.size w wr) (fun i _ _ _ => es.length - (intOf i).toNat)
  case atStart => exact ⟨0, Nat.zero_le _, rfl, Below.refl _ _⟩
  case round =>
    obtain ⟨j, hj, rfl, hBl⟩ := hrel
    by_cases hlt : j < es.length
    · obtain ⟨x, hx⟩ : ∃ x, es[j]? = some x := ⟨_, List.getElem?_eq_getElem hlt⟩
      obtain ⟨b, o, rfl, hbl, q0, q1, q2, q3, pv, q4, hps⟩ := HA.out j x hx
      obtain ⟨b', o', rfl, hbl', q0', q1', q2', q3', pv', q4', hps'⟩ := HB.out j x hx
      have hP := hps.keep (Fr.of_below hBl)
      have hP' := hps'.keep (Fr.of_below hBl)
      obtain ⟨Ap, cp, rfl⟩ : ∃ A c, pv = .slice A x.ps.length c := by obtain ⟨_, A, c, h, _⟩ := hps; exact ⟨A, c, h⟩
      obtain ⟨Aq, cq, rfl⟩ : ∃ A c, pv' = .slice A x.ps.length c := by obtain ⟨_, A, c, h, _⟩ := hps'; exact ⟨A, c, h⟩
      have r0 := (hBl.cell (p := ⟨b, o + j * 5, none⟩) hbl.1).trans q0
      have r1 := (hBl.cell (p := ⟨b, o + j * 5 + 1, none⟩) hbl.1).trans q1
      have r2 := (hBl.cell (p := ⟨b, o + j * 5 + 2, none⟩) hbl.1).trans q2
      have r3 := (hBl.cell (p := ⟨b, o + j * 5 + 3, none⟩) hbl.1).trans q3
      have r4 := (hBl.cell (p := ⟨b, o + j * 5 + 4, none⟩) hbl.1).trans q4
      have s0 := (hBl.cell (p := ⟨b', o' + j * 5, none⟩) hbl'.1).trans q0'
      have s1 := (hBl.cell (p := ⟨b', o' + j * 5 + 1, none⟩) hbl'.1).trans q1'
      have s2 := (hBl.cell (p := ⟨b', o' + j * 5 + 2, none⟩) hbl'.1).trans q2'
      have s3 := (hBl.cell (p := ⟨b', o' + j * 5 + 3, none⟩) hbl'.1).trans q3'
      have s4 := (hBl.cell (p := ⟨b', o' + j * 5 + 4, none⟩) hbl'.1).trans q4'
      have hbl1 := Nat.lt_of_lt_of_le hbl.1 hBl.size
      have hbl1' := Nat.lt_of_lt_of_le hbl'.1 hBl.size
      have HP := Lib.hid hP
      have HP' := Lib.hid hP'
      have hs := hBl.size
      clear q0 q1 q2 q3 q4 q0' q1' q2' q3' q4' hx hbl hbl' hps hps' hP hP'
      go_wp2
      go_region
      all_goals
        have kB : ∀ o1 o2, Below wr.heap.size wr ((wr.alloc o1).alloc o2).drew := fun o1 o2 => (((Below.refl wr.heap.size wr).alloc (Nat.le_refl _) o1).alloc (by simp) o2).drew
        go_wp2_with (go_at_call 27; refine (f27_same (F := F) (by exact HP.out.keep (Fr.of_below (kB _ _))) (by exact HP'.out.keep (Fr.of_below (kB _ _)))).mono ?_; rintro e w1 ⟨rfl, hb⟩)
        go_roundw
        case rel => exact ⟨j + 1, by omega, by go_num, (hBl.trans ((kB _ _).mono hs)).trans (hb.mono (Nat.le_trans hs (kB _ _).size))⟩
        case measure => simp [intOf]; omega
    · obtain rfl : j = es.length := by omega
      go_wp2
      go_ret
      exact ⟨rfl, hBl⟩
end Go.Proofs.Ytengenceelmijaa
