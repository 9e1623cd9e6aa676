import Derived.Test.YtengenceelmijaaRefA
namespace Go.Proofs.Ytengenceelmijaa
open Go.RowKit
set_option linter.unusedVariables false

theorem cells3 {w : World} {g : Nat} {t : TypeId} {c0 c1 c2 : Value} (hg : w.heap[g]? = some (.cells #[c0, c1, c2] t (0, 0))) :
    (w.cell? ⟨g, 0, none⟩ = some c0 ∧ w.cell? ⟨g, 1, none⟩ = some c1 ∧ w.cell? ⟨g, 2, none⟩ = some c2) ∧ ∀ i, w.frozen? ⟨g, i, none⟩ = false := by
  refine ⟨⟨?_, ?_, ?_⟩, fun i => frozen_of_row w g i _ _ hg⟩ <;> (rw [cell_of_row w g _ _ _ _ hg]; rfl)
theorem block3 {w w' : World} {g : Nat} {t : TypeId} {c0 c1 c2 : Value} (hg : w.heap[g]? = some (.cells #[c0, c1, c2] t (0, 0))) (v0 v1 v2 : Value)
    (hw : w' = ((w.setCell ⟨g, 0, none⟩ v0).setCell ⟨g, 1, none⟩ v1).setCell ⟨g, 2, none⟩ v2) :
    w'.heap[g]? = some (.cells #[v0, v1, v2] t (0, 0)) ∧ SameBut g w w' := by
  subst hw
  have h0 : (w.setCell ⟨g, 0, none⟩ v0).heap[g]? = some (.cells #[v0, c1, c2] t (0, 0)) := heap_setCell_same _ g 0 _ t v0 hg
  have h1 : ((w.setCell ⟨g, 0, none⟩ v0).setCell ⟨g, 1, none⟩ v1).heap[g]? = some (.cells #[v0, v1, c2] t (0, 0)) := heap_setCell_same _ g 1 _ t v1 h0
  have h2 : (((w.setCell ⟨g, 0, none⟩ v0).setCell ⟨g, 1, none⟩ v1).setCell ⟨g, 2, none⟩ v2).heap[g]? = some (.cells #[v0, v1, v2] t (0, 0)) := heap_setCell_same _ g 2 _ t v2 h1
  exact ⟨h2, ((SameBut.refl g w).setCell 0 v0 |>.setCell 1 v1).setCell 2 v2⟩
theorem results_ref (fn : Func) (r t : Nat) (hr : fn.results = #[.cell r 31, .tmp t]) (tmps : Array Value) (w : World) (g : Nat) (c0 c1 c2 u : Value) (hp : tmps.getD r undef = .pointer (some ⟨g, 0, none⟩)) (ht : tmps.getD t undef = u)
    (hg : w.heap[g]? = some (.cells #[c0, c1, c2] 31 (0, 0))) :
    (results fn tmps).run Try.prog w = .ok (.tuple #[.agg #[c0, c1, c2], u]) w := by
  have hp' : tmps[r]?.getD undef = .pointer (some ⟨g, 0, none⟩) := by simpa using hp
  have ht' : tmps[t]?.getD undef = u := by simpa using ht
  obtain ⟨⟨h0, h1, h2⟩, _⟩ := cells3 hg
  simp [results, hr, hp', ht', asAddr, go_sem, h0, h1, h2]

def obsS (F : List Nat) (w : World) (v : Value) (xss : List (List Ob)) : Prop := ∃ A c, v = .slice A xss.length c
theorem obs_shape {F : List Nat} {w : World} {v : Value} {xss : List (List Ob)} (h : ObsR F w v xss) : ∃ A c, v = .slice A xss.length c ∧ xss.length ≤ c ∧ xss.length ≤ 4194304 ∧ ∀ i x, xss[i]? = some x → ∃ b o, A = some ⟨b, o, none⟩ ∧ Good F w b ∧ ∃ u, w.cell? ⟨b, o + i * 1, none⟩ = some u ∧ ObR F w u x := by
  obtain ⟨hl, A, c, rfl, hc, hx⟩ := h
  refine ⟨A, c, rfl, hc, hl, fun i x hi => ?_⟩
  obtain ⟨b, o, rfl, hg, hx⟩ := hx (by rintro rfl; simp at hi)
  exact ⟨b, o, rfl, hg, hx i x hi⟩

def openR (r : Rf) : Int × Rf := if 64 ≤ r.lv then (240, r) else (0, { r with lv := r.lv + 1 })

set_option maxHeartbeats 2000000 in
set_option maxRecDepth 100000 in
theorem f29_any {F : List Nat} {w : World} {v : Value} {r : Rf} (h : RfR F w v r) (h0 : 0 ≤ r.lv) (h64 : r.lv ≤ 64) :
    Calls Try.prog 29 #[v] w fun e w' => ∃ v', e = .returned (.tuple #[v', .int .i64 (openR r).1]) ∧ Below w.heap.size w w' ∧ RfR F w' v' (openR r).2 := by
  obtain ⟨lv, mv, rfl, hl, hm⟩ := h
  obtain ⟨A, c, rfl, _⟩ := ob_at hl
  obtain ⟨B, d, rfl, _⟩ := obs_shape hm
  have HL := Lib.hid hl
  have HM := Lib.hid hm
  clear hl hm
  by_cases hfull : 64 ≤ r.lv
  · have ho : openR r = (240, r) := by unfold openR; rw [if_pos hfull]
    rw [ho]
    clear ho
    go_enter Try.func29, Try.ntmps29
    go_wp2_with fail
    refine bodyPost_ret (results_ref _ 2 3 Try.results29 _ _ _ _ _ _ _ rfl rfl (heap_alloc2_new w _ _)) rfl ?_
    have hB := ((Below.refl w.heap.size w).alloc (Nat.le_refl _) (.cells #[.slice A r.l.length c, .int .i64 r.lv, .slice B r.mods.length d] 31)).alloc (by simp) (.cells #[.slice A r.l.length c, .int .i64 r.lv, .slice B r.mods.length d] 31)
    exact ⟨_, rfl, hB, _, _, rfl, HL.out.keep (Fr.of_below hB), HM.out.keep (Fr.of_below hB)⟩
  · have ho : openR r = (0, { r with lv := r.lv + 1 }) := by unfold openR; rw [if_neg hfull]
    rw [ho]
    clear ho
    go_enter Try.func29, Try.ntmps29
    go_wp2_with fail
    refine bodyPost_ret (results_ref _ 2 3 Try.results29 _ _ _ _ _ _ _ rfl rfl (heap_alloc2_new w _ _)) rfl ?_
    have hB := ((Below.refl w.heap.size w).alloc (Nat.le_refl _) (.cells #[.slice A r.l.length c, .int .i64 (r.lv + 1), .slice B r.mods.length d] 31)).alloc (by simp) (.cells #[.slice A r.l.length c, .int .i64 (r.lv + 1), .slice B r.mods.length d] 31)
    exact ⟨_, rfl, hB, _, _, rfl, HL.out.keep (Fr.of_below hB), HM.out.keep (Fr.of_below hB)⟩

theorem Fr.more {F F' : List Nat} {w w' : World} (hB : Below w.heap.size w w') (hF : ∀ b ∈ F', b ∈ F ∨ w.heap.size ≤ b) : Fr F w F' w' := ⟨hB.os, hB.tape, hB.output, hB.size, fun b hb _ => hB.block b hb, hF⟩
theorem EO.weak {F F' : List Nat} {w : World} {b o : Nat} {x : Ob} (h : EO F w b o x) (hF : ∀ b ∈ F', b ∈ F) : EO F' w b o x := by
  obtain ⟨h0, pv, h7, hp⟩ := h
  exact ⟨h0, pv, h7, hp.weak hF⟩
theorem ObR.weak {F F' : List Nat} {w : World} {v : Value} {xs : List Ob} (h : ObR F w v xs) (hF : ∀ b ∈ F', b ∈ F) : ObR F' w v xs :=
  Sl.imp h (fun b hb => ⟨hb.1, fun hm => hb.2 (hF b hm)⟩) fun b o u hb he => he.weak hF
theorem ObsR.weak {F F' : List Nat} {w : World} {v : Value} {xs : List (List Ob)} (h : ObsR F w v xs) (hF : ∀ b ∈ F', b ∈ F) : ObsR F' w v xs :=
  Sl.imp h (fun b hb => ⟨hb.1, fun hm => hb.2 (hF b hm)⟩) fun b o u hb he => by obtain ⟨u, h1, h2⟩ := he; exact ⟨u, h1, h2.weak hF⟩
/-- Two blocks of the call's own, and what was owned. -/
def own2 (g : Nat) (F : List Nat) : List Nat := g :: (g + 1) :: F
theorem own2_sub {g : Nat} {F : List Nat} {b : Nat} (h : b ∈ own2 g F) : b ∈ F ∨ g ≤ b := by
  unfold own2 at h; simp at h; rcases h with h | h | h
  · exact .inr (by omega)
  · exact .inr (by omega)
  · exact .inl h
theorem sub_own2 {g : Nat} {F : List Nat} : ∀ b ∈ F, b ∈ own2 g F := fun b h => by unfold own2; simp [h]
theorem SameBut.fr {F : List Nat} {g : Nat} {w w' : World} (h : SameBut g w w') (hg : g ∈ F) : Fr F w F w' :=
  ⟨h.os, h.tape, h.output, Nat.le_of_eq h.size.symm, fun b _ hb => h.block b (by rintro rfl; exact hb hg), fun _ h => .inl h⟩
/-- One round of a loop that appends to a row of its own. -/
theorem app_rel {B : Nat} {W wr w5 : World} {v v' : Value} {o : Obj} (hBl : Below B W wr) (hs : B ≤ wr.heap.size) (hn : ∀ b, v.ownBlock = some b → B ≤ b) (hg : (wr.alloc o).grownBy w5 v.ownBlock)
    (hob : v'.ownBlock = v.ownBlock ∨ v'.ownBlock = some (wr.heap.size + 1)) : Below B W w5 ∧ (∀ b, v'.ownBlock = some b → B ≤ b) ∧ ∀ F, Fr (fp v F) wr (fp v' F) w5 := by
  refine ⟨(hBl.alloc hs o).grown hg (by simp; omega) (fun b hb => hn b hb), fun b hb => ?_, fun F => Fr.app hg hob⟩
  rcases hob with h | h
  · exact hn b (h ▸ hb)
  · rw [h] at hb; injection hb with hb; omega

theorem info46 : (Try.prog.info? 46).map (fun i => (i.zero, i.size, i.bytes)) = some (some (.agg #[.string ⟨#[]⟩, .int .i64 0, .int .i64 0, .int .i64 0, .int .i32 0, .int .i64 0, .bool false, .slice none 0 0]), 8, 88) := by kernel_rfl
theorem ti28 : TI Try.prog 28 46 (.agg #[.string ⟨#[]⟩, .int .i64 0, .int .i64 0, .int .i64 0, .int .i32 0, .int .i64 0, .bool false, .slice none 0 0]) 8 88 := ⟨Try.underlying28, info46, rfl, by decide, by decide⟩

/-- What a row of the reference's own reads as. -/
theorem OC.toR {F : List Nat} {w : World} {v : Value} {cs : List Value} {xs : List Ob} {t : TypeId} (h : OC F w cs xs) (ho : w.ownsRow 0 t 8 v xs.length cs) (hF : ∀ b, v.ownBlock = some b → b ∉ F) (hl : xs.length ≤ 4194304) : ObR F w v xs := by
  obtain ⟨A, c, rfl, hc, hx⟩ := own_cells ho
  refine ⟨hl, A, c, rfl, hc, fun hne => ?_⟩
  obtain ⟨g, rfl, hb, hg, hx⟩ := hx (List.length_pos_iff.2 hne)
  refine ⟨g, 0, rfl, ⟨hg, hF g hb⟩, fun i x hi => ?_⟩
  obtain ⟨h0, h1, h2, h3, h4, h5, h6, pv, h7, hp⟩ := h i x hi
  rw [Nat.zero_add]
  exact ⟨⟨hx _ _ h0, hx _ _ h1, hx _ _ h2, hx _ _ h3, hx _ _ h4, hx _ _ h5, hx _ _ h6⟩, pv, hx _ _ h7, hp⟩

def closeL (l : List Ob) (lv : Int) : List Ob := l.filter fun x => decide (x.lv < lv)
theorem filter_snoc {α : Type} {p : α → Bool} {xs : List α} {j : Nat} {x : α} (h : xs[j]? = some x) : (xs.take (j + 1)).filter p = (xs.take j).filter p ++ if p x then [x] else [] := by
  rw [List.take_add_one, h, Option.toList_some, List.filter_append]
  congr 1
  cases hx : p x <;> simp [hx]
def closeR (r : Rf) : Int × Rf := if r.lv = 0 then (111, r) else (0, { r with l := closeL r.l r.lv, lv := r.lv - 1 })

set_option maxHeartbeats 2000000 in
set_option maxRecDepth 100000 in
theorem f30_any {F : List Nat} {w : World} {v : Value} {r : Rf} (h : RfR F w v r) (h0 : 0 ≤ r.lv) (h64 : r.lv ≤ 64) (hFl : ∀ b ∈ F, b < w.heap.size) :
    Calls Try.prog 30 #[v] w fun e w' => ∃ v', e = .returned (.tuple #[v', .int .i64 (closeR r).1]) ∧ Below w.heap.size w w' ∧ RfR F w' v' (closeR r).2 := by
  obtain ⟨lv, mv, rfl, hl, hm⟩ := h
  obtain ⟨A, c, rfl, hc, hn, hA⟩ := ob_at hl
  obtain ⟨B, d, rfl, hd, _⟩ := obs_shape hm
  have HL := Lib.hid hl
  have HM := Lib.hid hm
  have HA := Lib.hid hA
  have HF := Lib.hid hFl
  clear hl hm hA hFl
  by_cases hz : r.lv = 0
  · have ho : closeR r = (111, r) := by unfold closeR; rw [if_pos hz]
    rw [ho]
    clear ho
    go_enter Try.func30, Try.ntmps30
    go_wp2_with fail
    refine bodyPost_ret (results_ref _ 2 3 Try.results30 _ _ _ _ _ _ _ rfl rfl (heap_alloc2_new w _ _)) rfl ?_
    rw [hz]
    have hB := ((Below.refl w.heap.size w).alloc (Nat.le_refl _) (.cells #[.slice A r.l.length c, .int .i64 0, .slice B r.mods.length d] 31)).alloc (by simp) (.cells #[.slice A r.l.length c, .int .i64 0, .slice B r.mods.length d] 31)
    exact ⟨_, rfl, hB, _, _, by rw [hz], HL.out.keep (Fr.of_below hB), HM.out.keep (Fr.of_below hB)⟩
  · have ho : closeR r = (0, { r with l := closeL r.l r.lv, lv := r.lv - 1 }) := by unfold closeR; rw [if_neg hz]
    rw [ho]
    clear ho
    have hlv : 0 < r.lv := by omega
    have hz' : (r.lv == 0) = false := by simpa using hz
    obtain ⟨W, hW⟩ : ∃ W, W = (w.alloc (.cells #[.slice A r.l.length c, .int .i64 r.lv, .slice B r.mods.length d] 31)).alloc (.cells #[.slice none 0 0, .int .i64 0, .slice none 0 0] 31) := ⟨_, rfl⟩
    have hBW : Below w.heap.size w W := by rw [hW]; exact ((Below.refl _ _).alloc (Nat.le_refl _) _).alloc (by simp) _
    have hW1 : W.heap[w.heap.size]? = some (.cells #[.slice A r.l.length c, .int .i64 r.lv, .slice B r.mods.length d] 31 (0, 0)) := by rw [hW]; exact heap_alloc2_old w _ _
    have hW2 : W.heap[w.heap.size + 1]? = some (.cells #[.slice none 0 0, .int .i64 0, .slice none 0 0] 31 (0, 0)) := by rw [hW]; exact heap_alloc2_new w _ _
    have hWl := (Array.getElem?_eq_some_iff.1 hW2).1
    have HW := Lib.hid hW
    have HW1 := Lib.hid hW1
    have HW2 := Lib.hid hW2
    clear hW hW1 hW2
    go_enter Try.func30, Try.ntmps30
    go_wp2_with fail
    rw [← HW.out]
    go_loopw [4, 5] (fun u i wr => ∃ (j : Nat) (cs : List Value), j ≤ r.l.length ∧ i = .int .i64 j ∧ Below W.heap.size W wr ∧ OwnN W.heap.size wr 46 8 u (closeL (r.l.take j) r.lv).length cs ∧ OC (fp u (own2 w.heap.size F)) wr cs (closeL (r.l.take j) r.lv)) (fun _ i _ => r.l.length - (intOf i).toNat)
    case atStart => exact ⟨0, [], Nat.zero_le _, rfl, Below.refl _ _, OwnN.nil _ _ _ _, fun i x hi => by simp [closeL] at hi⟩
    case round =>
      obtain ⟨j, cs, hj, rfl, hBl, hown, hoc⟩ := hrel
      obtain ⟨⟨a0, a1, a2⟩, af⟩ := cells3 ((hBl.block _ (by omega)).trans HW1.out)
      obtain ⟨⟨b0, b1, b2⟩, bf⟩ := cells3 ((hBl.block _ hWl).trans HW2.out)
      have af0 := af 0
      have af1 := af 1
      have bf0 := bf 0
      have bf1 := bf 1
      have bf2 := bf 2
      have hs := hBl.size
      clear af bf
      by_cases hlt : j < r.l.length
      · obtain ⟨x, hx⟩ : ∃ x, r.l[j]? = some x := ⟨_, List.getElem?_eq_getElem hlt⟩
        obtain ⟨b, o, rfl, hbl, ⟨q0, q1, q2, q3, q4, q5, q6⟩, pv, q7, hps⟩ := HA.out j x hx
        obtain ⟨Ap, cp, rfl⟩ : ∃ A c, pv = .slice A x.ps.length c := by obtain ⟨_, A, c, h, _⟩ := hps; exact ⟨A, c, h⟩
        have hbl1 := hbl.1
        have hbl2 := Nat.lt_of_lt_of_le hbl.1 hBW.size
        have rr := fun (o : Nat) (u : Value) (hu : w.cell? ⟨b, o, none⟩ = some u) => ((hBl.cell (p := ⟨b, o, none⟩) hbl2).trans (hBW.cell (p := ⟨b, o, none⟩) hbl1)).trans hu
        have r0 := rr _ _ q0
        have r1 := rr _ _ q1
        have r2 := rr _ _ q2
        have r3 := rr _ _ q3
        have r4 := rr _ _ q4
        have r5 := rr _ _ q5
        have r6 := rr _ _ q6
        have r7 := rr _ _ q7
        have hsn : closeL (r.l.take (j + 1)) r.lv = closeL (r.l.take j) r.lv ++ if decide (x.lv < r.lv) then [x] else [] := filter_snoc hx
        have hle : (closeL (r.l.take j) r.lv).length ≤ j := by
          have := List.length_filter_le (fun x : Ob => decide (x.lv < r.lv)) (r.l.take j)
          rw [List.length_take] at this; unfold closeL; omega
        have HO := Lib.hid hown
        have HC := Lib.hid hoc
        obtain ⟨Av, cv, rfl, _⟩ := own_cells hown.1
        have hBw : Below w.heap.size w wr := hBW.trans (hBl.mono hBW.size)
        have hP : PsR (fp (.slice Av (closeL (r.l.take j) r.lv).length cv) (own2 w.heap.size F)) wr (.slice Ap x.ps.length cp) x.ps := hps.keep (Fr.more hBw fun b hb => by
          rcases mem_fp.1 hb with h | h
          · exact .inr (Nat.le_trans hBW.size (hown.2 b h))
          · exact own2_sub h)
        have HP := Lib.hid hP
        clear hbl q0 q1 q2 q3 q4 q5 q6 q7 hx hps hP hown hoc rr
        by_cases hlv : x.lv < r.lv
        · rw [if_pos (by simpa using hlv)] at hsn
          have HSN := Lib.hid hsn
          clear hsn
          have hlen1 : (closeL (r.l.take j) r.lv).length + 1 ≤ 34359738368 := by omega
          go_wp2
          go_region
          go_wp2_with (at_builtin; refine wpList_app ti28 (by rfl) _ _ (by rfl) (by rfl) (HO.out.1.drew.alloc _) (by rfl) [.string x.nm, .int .i64 x.kd, .int .i64 x.ty, .int .i64 x.lv, .int .i32 x.n, .int .i64 x.md, .bool x.out, .slice Ap x.ps.length cp] (by rfl) (by exact new_src_at _ #[.string x.nm, .int .i64 x.kd, .int .i64 x.ty, .int .i64 x.lv, .int .i32 x.n, .int .i64 x.md, .bool x.out, .slice Ap x.ps.length cp] 46 (0, 0) 1 _ (by simp)) (by simp [Value.oneCell']) hlen1 ?_)
          intro A1 c1 w5 hown5 hg5 hob5
          have HO5 := Lib.hid hown5
          have HR := Lib.hid (app_rel hBl.drew hs HO.out.2 hg5 hob5)
          clear hown5 hg5 hob5
          go_wp2
          go_roundw
          case rel =>
            obtain ⟨k1, k2, k3⟩ := HR.out
            refine ⟨j + 1, cs ++ [.string x.nm, .int .i64 x.kd, .int .i64 x.ty, .int .i64 x.lv, .int .i32 x.n, .int .i64 x.md, .bool x.out, .slice Ap x.ps.length cp], by omega, by go_num, k1, ?_, ?_⟩
            · rw [HSN.out, List.length_append]
              exact ⟨HO5.out, k2⟩
            · rw [HSN.out]
              exact ((HC.out.keep (Fr.refl _ wr).drew).keep (k3 _)).snoc (by have := HO.out.1.1; omega) ((HP.out.keep (Fr.refl _ wr).drew).keep (k3 _))
          case measure => simp [intOf]; omega
        · rw [if_neg (by simpa using hlv), List.append_nil] at hsn
          have HSN := Lib.hid hsn
          clear hsn
          go_wp2
          go_region
          go_wp2
          go_roundw
          case rel =>
            refine ⟨j + 1, cs, by omega, by go_num, hBl.drew, ?_, ?_⟩
            · rw [HSN.out]; exact ⟨HO.out.1.drew, HO.out.2⟩
            · rw [HSN.out]; exact HC.out.keep (Fr.refl _ wr).drew
          case measure => simp [intOf]; omega
      · obtain rfl : j = r.l.length := by omega
        obtain ⟨Av, cv, rfl, _⟩ := own_cells hown.1
        have HO := Lib.hid hown
        have HC := Lib.hid hoc
        have X1 := Lib.hid ((hBl.block _ (by omega)).trans HW1.out)
        have X2 := Lib.hid ((hBl.block _ hWl).trans HW2.out)
        clear hown hoc
        go_wp2_with fail
        rw [List.take_of_length_le (Nat.le_refl _)]
        obtain ⟨w6, hw6⟩ : ∃ w6, w6 = (wr.setCell ⟨w.heap.size, 0, none⟩ (.slice Av (closeL r.l r.lv).length cv)).setCell ⟨w.heap.size, 1, none⟩ (.int .i64 (r.lv - 1)) := ⟨_, rfl⟩
        rw [← hw6]
        obtain ⟨w7, hw7⟩ : ∃ w7, w7 = ((w6.setCell ⟨w.heap.size + 1, 0, none⟩ (.slice Av (closeL r.l r.lv).length cv)).setCell ⟨w.heap.size + 1, 1, none⟩ (.int .i64 (r.lv - 1))).setCell ⟨w.heap.size + 1, 2, none⟩ (.slice B r.mods.length d) := ⟨_, rfl⟩
        rw [← hw7]
        have s6 : SameBut w.heap.size wr w6 := by rw [hw6]; exact ((SameBut.refl _ _).setCell 0 _).setCell 1 _
        obtain ⟨hx7, s7⟩ := block3 ((s6.block _ (by omega)).trans X2.out) _ _ _ hw7
        clear hw6 hw7
        refine bodyPost_ret (results_ref _ 2 3 Try.results30 _ _ _ _ _ _ _ rfl rfl hx7) rfl ?_
        have hO := HO.out
        have hC := HC.out
        rw [List.take_of_length_le (Nat.le_refl _)] at hO hC
        have hf7 : Fr (own2 w.heap.size F) wr (own2 w.heap.size F) w7 := (s6.fr (by unfold own2; simp)).trans (s7.fr (by unfold own2; simp))
        have hBw : Below w.heap.size w wr := hBW.trans (hBl.mono hBW.size)
        have hB7 : Below w.heap.size w w7 := (hBw.trans (s6.below (Nat.le_refl _))).trans (s7.below (Nat.le_succ _))
        have hcl : (closeL r.l r.lv).length ≤ 4194304 := Nat.le_trans (List.length_filter_le _ _) hn
        have hob : ObR (own2 w.heap.size F) wr (.slice Av (closeL r.l r.lv).length cv) (closeL r.l r.lv) := (hC.weak fun b hb => mem_fp.2 (.inr hb)).toR hO.1 (fun b hb hm => by
          have := hO.2 b hb
          unfold own2 at hm; simp at hm
          rcases hm with h | h | h
          · omega
          · omega
          · have := HF.out b h; omega) hcl
        exact ⟨_, rfl, hB7, _, _, rfl, (hob.keep hf7).weak sub_own2, HM.out.keep (Fr.of_below hB7)⟩
end Go.Proofs.Ytengenceelmijaa
