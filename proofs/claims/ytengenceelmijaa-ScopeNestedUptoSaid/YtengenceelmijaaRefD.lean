import Derived.Test.YtengenceelmijaaRefC
namespace Go.Proofs.Ytengenceelmijaa
open Go.RowKit
set_option linter.unusedVariables false

def levelL (l : List Ob) (lv : Int) : List Ob := l.filter fun x => decide (x.lv = lv)
theorem levelL_len (l : List Ob) (lv : Int) : (levelL l lv).length ≤ l.length := List.length_filter_le _ _

set_option maxHeartbeats 2000000 in
set_option maxRecDepth 100000 in
theorem f24_any {F : List Nat} {w : World} {v : Value} {r : Rf} (h : RfR F w v r) :
    Calls Try.prog 24 #[v] w fun e w' => ∃ v', e = .returned v' ∧ Below w.heap.size w w' ∧ OwnN w.heap.size w' 9 1 v' (levelL r.l r.lv).length (strs ((levelL r.l r.lv).map Ob.nm)) := by
  obtain ⟨lv, mv, rfl, hl, hm⟩ := h
  obtain ⟨A, c, rfl, hc, hn, hA⟩ := ob_at hl
  obtain ⟨B, d, rfl, hd, _⟩ := obs_shape hm
  have HA := Lib.hid hA
  clear hl hm hA
  obtain ⟨W, hW⟩ : ∃ W, W = w.alloc (.cells #[.slice A r.l.length c, .int .i64 r.lv, .slice B r.mods.length d] 31) := ⟨_, rfl⟩
  have hBW : Below w.heap.size w W := by rw [hW]; exact (Below.refl _ _).alloc (Nat.le_refl _) _
  have hW1 : W.heap[w.heap.size]? = some (.cells #[.slice A r.l.length c, .int .i64 r.lv, .slice B r.mods.length d] 31 (0, 0)) := by rw [hW]; exact heap_alloc_new w _
  have hWl := (Array.getElem?_eq_some_iff.1 hW1).1
  have HW := Lib.hid hW
  have HW1 := Lib.hid hW1
  clear hW hW1
  go_enter Try.func24, Try.ntmps24
  go_wp2_with fail
  rw [← HW.out]
  go_loopw [3, 4] (fun u i wr => ∃ j : Nat, j ≤ r.l.length ∧ i = .int .i64 j ∧ Below W.heap.size W wr ∧ OwnN W.heap.size wr 9 1 u (levelL (r.l.take j) r.lv).length (strs ((levelL (r.l.take j) r.lv).map Ob.nm))) (fun _ i _ => r.l.length - (intOf i).toNat)
  case atStart => exact ⟨0, Nat.zero_le _, rfl, Below.refl _ _, OwnN.nil _ _ _ _⟩
  case round =>
    obtain ⟨j, hj, rfl, hBl, hown⟩ := hrel
    obtain ⟨⟨a0, a1, a2⟩, _⟩ := cells3 ((hBl.block _ (by omega)).trans HW1.out)
    have hs := hBl.size
    by_cases hlt : j < r.l.length
    · obtain ⟨x, hx⟩ : ∃ x, r.l[j]? = some x := ⟨_, List.getElem?_eq_getElem hlt⟩
      obtain ⟨b, o, rfl, hbl, ⟨q0, q1, q2, q3, q4, q5, q6⟩, pv, q7, hps⟩ := HA.out j x hx
      have hbl1 := hbl.1
      have hbl2 := Nat.lt_of_lt_of_le hbl.1 hBW.size
      have rr := fun (o : Nat) (u : Value) (hu : w.cell? ⟨b, o, none⟩ = some u) => ((hBl.cell (p := ⟨b, o, none⟩) hbl2).trans (hBW.cell (p := ⟨b, o, none⟩) hbl1)).trans hu
      have r0 := rr _ _ q0
      have r3 := rr _ _ q3
      have hsn : levelL (r.l.take (j + 1)) r.lv = levelL (r.l.take j) r.lv ++ if decide (x.lv = r.lv) then [x] else [] := filter_snoc hx
      have hle : (levelL (r.l.take j) r.lv).length ≤ j := by
        have := levelL_len (r.l.take j) r.lv
        rw [List.length_take] at this; omega
      have HO := Lib.hid hown
      obtain ⟨Av, cv, rfl, _⟩ := own_cells hown.1
      clear hbl q0 q1 q2 q3 q4 q5 q6 q7 hx hps hown rr
      by_cases hlv : x.lv = r.lv
      · rw [if_pos (by simpa using hlv)] at hsn
        have HSN := Lib.hid hsn
        have h3 : (x.lv == r.lv) = true := by simpa using hlv
        clear hsn hlv
        have hlen1 : (levelL (r.l.take j) r.lv).length + 1 ≤ 34359738368 := by omega
        go_wp2
        go_region
        go_wp2_with (at_builtin; refine wpList_app ti59 (by rfl) _ _ (by rfl) (by rfl) (HO.out.1.drew.alloc _) (by rfl) [.string x.nm] (by rfl) (by exact new_src_at _ #[.string x.nm] 9 (0, 0) 1 _ (by simp)) (by simp [Value.oneCell']) hlen1 ?_)
        intro A1 c1 w5 hown5 hg5 hob5
        have HO5 := Lib.hid hown5
        have HR := Lib.hid (app_rel hBl.drew hs HO.out.2 hg5 hob5)
        clear hown5 hg5 hob5
        go_wp2
        go_roundw
        case rel =>
          obtain ⟨k1, k2, k3⟩ := HR.out
          refine ⟨j + 1, by omega, by go_num, k1, ?_⟩
          rw [HSN.out, List.length_append]
          refine ⟨?_, k2⟩
          have := HO5.out
          simpa [strs] using this
        case measure => simp [intOf]; omega
      · rw [if_neg (by simpa using hlv), List.append_nil] at hsn
        have HSN := Lib.hid hsn
        have h3 : (x.lv == r.lv) = false := by simpa using hlv
        clear hsn hlv
        go_wp2
        go_region
        go_wp2
        go_roundw
        case rel =>
          refine ⟨j + 1, by omega, by go_num, hBl.drew, ?_⟩
          rw [HSN.out]; exact ⟨HO.out.1.drew, HO.out.2⟩
        case measure => simp [intOf]; omega
    · obtain rfl : j = r.l.length := by omega
      obtain ⟨Av, cv, rfl, _⟩ := own_cells hown.1
      rw [List.take_of_length_le (Nat.le_refl _)] at hown
      go_wp2
      go_ret
      have hB7 : Below w.heap.size w wr := hBW.trans (hBl.mono hBW.size)
      rw [List.take_of_length_le (Nat.le_refl _)]
      exact ⟨_, rfl, hB7, hown.1, fun b hb => Nat.le_trans hBW.size (hown.2 b hb)⟩

def exIn (x : Ob) : Bool := decide (x.lv = 0) && x.out
def exportsR (l : List Ob) : List Ex := (l.filter exIn).map toEx
theorem exportsR_succ {xs : List Ob} {j : Nat} {x : Ob} (h : xs[j]? = some x) : exportsR (xs.take (j + 1)) = exportsR (xs.take j) ++ if exIn x then [toEx x] else [] := by
  rw [exportsR, exportsR, filter_snoc h, List.map_append]
  congr 1
  split <;> rfl
theorem exportsR_len (xs : List Ob) : (exportsR xs).length ≤ xs.length := by
  unfold exportsR; rw [List.length_map]; exact List.length_filter_le _ _

set_option maxHeartbeats 2000000 in
set_option maxRecDepth 100000 in
theorem f15_any {F : List Nat} {w : World} {v : Value} {r : Rf} (h : RfR F w v r) (hFl : ∀ b ∈ F, b < w.heap.size) :
    Calls Try.prog 15 #[v] w fun e w' => ∃ v', e = .returned v' ∧ Below w.heap.size w w' ∧ ExR F w' v' (exportsR r.l) := by
  obtain ⟨lv, mv, rfl, hl, hm⟩ := h
  obtain ⟨A, c, rfl, hc, hn, hA⟩ := ob_at hl
  obtain ⟨B, d, rfl, hd, _⟩ := obs_shape hm
  have HA := Lib.hid hA
  have HF := Lib.hid hFl
  clear hl hm hA hFl
  obtain ⟨W, hW⟩ : ∃ W, W = w.alloc (.cells #[.slice A r.l.length c, .int .i64 r.lv, .slice B r.mods.length d] 31) := ⟨_, rfl⟩
  have hBW : Below w.heap.size w W := by rw [hW]; exact (Below.refl _ _).alloc (Nat.le_refl _) _
  have hW1 : W.heap[w.heap.size]? = some (.cells #[.slice A r.l.length c, .int .i64 r.lv, .slice B r.mods.length d] 31 (0, 0)) := by rw [hW]; exact heap_alloc_new w _
  have hWl := (Array.getElem?_eq_some_iff.1 hW1).1
  have HW := Lib.hid hW
  have HW1 := Lib.hid hW1
  clear hW hW1
  go_enter Try.func15, Try.ntmps15
  go_wp2_with fail
  rw [← HW.out]
  go_loopw [3, 4, 5] (fun u i q wr => ∃ (j : Nat) (cs : List Value), j ≤ r.l.length ∧ i = .int .i64 j ∧ Below W.heap.size W wr ∧ OwnN W.heap.size wr 71 5 u (exportsR (r.l.take j)).length cs ∧ EC (fp u F) wr cs (exportsR (r.l.take j))) (fun _ i _ _ => r.l.length - (intOf i).toNat)
  case atStart => exact ⟨0, [], Nat.zero_le _, rfl, Below.refl _ _, OwnN.nil _ _ _ _, fun i x hi => by simp [exportsR] at hi⟩
  case round =>
    obtain ⟨j, cs, hj, rfl, hBl, hown, hoc⟩ := hrel
    obtain ⟨⟨a0, a1, a2⟩, _⟩ := cells3 ((hBl.block _ (by omega)).trans HW1.out)
    have hs := hBl.size
    by_cases hlt : j < r.l.length
    · obtain ⟨x, hx⟩ : ∃ x, r.l[j]? = some x := ⟨_, List.getElem?_eq_getElem hlt⟩
      obtain ⟨b, o, rfl, hbl, ⟨q0, q1, q2, q3, q4, q5, q6⟩, pv, q7, hps⟩ := HA.out j x hx
      obtain ⟨Ap, cp, rfl⟩ : ∃ A c, pv = .slice A x.ps.length c := by obtain ⟨_, A, c, h, _⟩ := hps; exact ⟨A, c, h⟩
      have hbl1 := hbl.1
      have hbl2 := Nat.lt_of_lt_of_le hbl.1 hBW.size
      have rr := fun (o : Nat) (u : Value) (hu : w.cell? ⟨b, o, none⟩ = some u) => ((hBl.cell (p := ⟨b, o, none⟩) hbl2).trans (hBW.cell (p := ⟨b, o, none⟩) hbl1)).trans hu
      have r0 := rr _ _ q0
      have r1 := rr _ _ q1
      have r2 := rr _ _ q2
      have r3 := rr _ _ q3
      have r4 := rr _ _ q4
      have r5 := rr _ _ q5
      have r6 := rr _ _ q6
      have r7 := rr _ _ q7
      have hsn := exportsR_succ hx
      have hle : (exportsR (r.l.take j)).length ≤ j := by
        have := exportsR_len (r.l.take j)
        rw [List.length_take] at this; omega
      have hBw : Below w.heap.size w wr := hBW.trans (hBl.mono hBW.size)
      have HO := Lib.hid hown
      have HC := Lib.hid hoc
      obtain ⟨Av, cv, rfl, _⟩ := own_cells hown.1
      have hP : PsR (fp (.slice Av (exportsR (r.l.take j)).length cv) F) wr (.slice Ap x.ps.length cp) x.ps := hps.keep (Fr.more hBw fun b hb => by
          rcases mem_fp.1 hb with h | h
          · exact .inr (Nat.le_trans hBW.size (hown.2 b h))
          · exact .inl h)
      have HP := Lib.hid hP
      have k0 : Below wr.heap.size wr (wr.alloc (.cells #[.string x.nm, .int .i64 x.kd, .int .i64 x.ty, .int .i64 x.lv, .int .i32 x.n, .int .i64 x.md, .bool x.out, .slice Ap x.ps.length cp] 46)) := (Below.refl _ _).alloc (Nat.le_refl _) _
      clear hbl q0 q1 q2 q3 q4 q5 q6 q7 hx hps hown rr hoc hP
      by_cases hlv : x.lv = 0
      · cases hout : x.out with
        | true =>
          have hin : exIn x = true := by unfold exIn; rw [decide_eq_true hlv, hout]; rfl
          rw [if_pos hin] at hsn
          rw [hout] at r6 k0
          have HSN := Lib.hid hsn
          have h3 : (x.lv == 0) = true := by simpa using hlv
          have HL := Lib.hid hlv
          clear hsn hlv hin hout
          have hlen1 : (exportsR (r.l.take j)).length + 1 ≤ 34359738368 := by omega
          go_wp2_with (at_builtin; refine wpList_app ti42 (by rfl) _ _ (by rfl) (by rfl) ((HO.out.1.alloc _).alloc _) (by rfl) [.string x.nm, .int .i64 x.kd, .int .i64 x.ty, .int .i32 x.n, .slice Ap x.ps.length cp] (by rfl) (by exact new_src_at _ #[.string x.nm, .int .i64 x.kd, .int .i64 x.ty, .int .i32 x.n, .slice Ap x.ps.length cp] 71 (0, 0) 1 _ (by simp)) (by simp [Value.oneCell']) hlen1 ?_)
          intro A1 c1 w5 hown5 hg5 hob5
          have HO5 := Lib.hid hown5
          have HR := Lib.hid (app_rel (hBl.trans (k0.mono hs)) (Nat.le_trans hs k0.size) HO.out.2 hg5 (by rcases hob5 with h | h; exact .inl h; exact .inr (by rw [h]; simp)))
          clear hown5 hg5 hob5
          go_wp2
          go_roundw
          case rel =>
            obtain ⟨k1, k2, k3⟩ := HR.out
            refine ⟨j + 1, cs ++ [.string x.nm, .int .i64 x.kd, .int .i64 x.ty, .int .i32 x.n, .slice Ap x.ps.length cp], by omega, by go_num, k1, ?_, ?_⟩
            · rw [HSN.out, List.length_append]
              exact ⟨HO5.out, k2⟩
            · rw [HSN.out]
              exact ((HC.out.keep (Fr.of_below k0)).keep (k3 _)).snoc (x := toEx x) (by have := HO.out.1.1; omega) ((HP.out.keep (Fr.of_below k0)).keep (k3 _))
          case measure => simp [intOf]; omega
        | false =>
          have hin : exIn x = false := by unfold exIn; rw [decide_eq_true hlv, hout]; rfl
          rw [if_neg (by rw [hin]; simp), List.append_nil] at hsn
          rw [hout] at r6 k0
          have HSN := Lib.hid hsn
          have h3 : (x.lv == 0) = true := by simpa using hlv
          clear hsn hlv hin hout
          go_wp2
          go_roundw
          case rel =>
            refine ⟨j + 1, cs, by omega, by go_num, hBl.trans (k0.mono hs), ?_, ?_⟩
            · rw [HSN.out]; exact ⟨HO.out.1.alloc _, HO.out.2⟩
            · rw [HSN.out]; exact HC.out.keep (Fr.of_below k0)
          case measure => simp [intOf]; omega
      · have hin : exIn x = false := by unfold exIn; rw [decide_eq_false hlv]; rfl
        rw [if_neg (by rw [hin]; simp), List.append_nil] at hsn
        have HSN := Lib.hid hsn
        have h3 : (x.lv == 0) = false := by simpa using hlv
        clear hsn hlv hin
        go_wp2
        go_roundw
        case rel =>
          refine ⟨j + 1, cs, by omega, by go_num, hBl.trans (k0.mono hs), ?_, ?_⟩
          · rw [HSN.out]; exact ⟨HO.out.1.alloc _, HO.out.2⟩
          · rw [HSN.out]; exact HC.out.keep (Fr.of_below k0)
        case measure => simp [intOf]; omega
    · obtain rfl : j = r.l.length := by omega
      obtain ⟨Av, cv, rfl, _⟩ := own_cells hown.1
      rw [List.take_of_length_le (Nat.le_refl _)] at hown hoc
      have HO := Lib.hid hown
      have HC := Lib.hid hoc
      clear hown hoc
      go_wp2
      go_ret
      have hB7 : Below w.heap.size w wr := hBW.trans (hBl.mono hBW.size)
      rw [List.take_of_length_le (Nat.le_refl _)]
      exact ⟨_, rfl, hB7, (HC.out.weak fun b hb => mem_fp.2 (.inr hb)).toR HO.out.1 (fun b hb hm => by have := HF.out b hm; have := HO.out.2 b hb; have := hBW.size; omega) (Nat.le_trans (exportsR_len _) hn)⟩
end Go.Proofs.Ytengenceelmijaa
