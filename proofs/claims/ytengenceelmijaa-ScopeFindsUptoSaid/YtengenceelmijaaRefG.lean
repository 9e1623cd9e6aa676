import Derived.Test.YtengenceelmijaaRefF
namespace Go.Proofs.Ytengenceelmijaa
open Go.RowKit
set_option linter.unusedVariables false

def changeR (r : Rf) (lv : Int) (x : Ob) : Int × Rf := match atI r.l lv x.nm with
  | none => (110, r)
  | some i => (0, { r with l := r.l.set i { x with lv := lv } })

/-- Three blocks of the call's own, and what was owned. -/
def own3 (g : Nat) (F : List Nat) : List Nat := g :: (g + 1) :: (g + 1 + 1) :: F
theorem own3_sub {g : Nat} {F : List Nat} {b : Nat} (h : b ∈ own3 g F) : b ∈ F ∨ g ≤ b := by
  unfold own3 at h; simp at h; rcases h with h | h | h | h
  · exact .inr (by omega)
  · exact .inr (by omega)
  · exact .inr (by omega)
  · exact .inl h
theorem own_set8' {w w' : World} {e : TypeId} {g n c b : Nat} {cs : List Value} (h : w.ownsRow 0 e 8 (.slice (some ⟨g, 0, none⟩) n c) n cs) (x : Ob) (pv : Value)
    (hw : w' = (((((((w.setCell ⟨g, b, none⟩ (.string x.nm)).setCell ⟨g, b + 1, none⟩ (.int .i64 x.kd)).setCell ⟨g, b + 2, none⟩ (.int .i64 x.ty)).setCell ⟨g, b + 3, none⟩ (.int .i64 x.lv)).setCell ⟨g, b + 4, none⟩ (.int .i32 x.n)).setCell ⟨g, b + 5, none⟩ (.int .i64 x.md)).setCell ⟨g, b + 6, none⟩ (.bool x.out)).setCell ⟨g, b + 7, none⟩ pv) :
    w'.ownsRow 0 e 8 (.slice (some ⟨g, 0, none⟩) n c) n (set8 cs b x pv) ∧ SameBut g w w' := by
  obtain ⟨h1, h2⟩ := own_set8 (w' := w'.drew) h _ _ _ _ _ _ _ _ (by rw [hw])
  exact ⟨ownsRow_same h1 fun b _ => rfl, ⟨h2.os, h2.tape, h2.output, h2.size, h2.block⟩⟩

set_option maxHeartbeats 4000000 in
set_option maxRecDepth 100000 in
theorem f34_any {F : List Nat} {w : World} {v pv : Value} {r : Rf} (lv : Int) (x : Ob) (h : RfR F w v r) (hps : PsR F w pv x.ps) (hFl : ∀ b ∈ F, b < w.heap.size) (hsm : r.l.length ≤ 1000) :
    Calls Try.prog 34 #[v, .int .i64 lv, obV x pv] w fun e w' => ∃ v', e = .returned (.tuple #[v', .int .i64 (changeR r lv x).1]) ∧ Below w.heap.size w w' ∧ RfR F w' v' (changeR r lv x).2 := by
  have hR := h
  obtain ⟨L, mv, rfl, hl, hm⟩ := h
  obtain ⟨A, c, rfl, hc, hn, hA⟩ := ob_at hl
  obtain ⟨B, d, rfl, hd, _⟩ := obs_shape hm
  obtain ⟨Ap, cp, rfl, _⟩ := ps_at hps
  have HL := Lib.hid hl
  have HM := Lib.hid hm
  have HF := Lib.hid hFl
  have HR := Lib.hid hR
  have HP := Lib.hid hps
  clear hl hm hA hFl hR hps
  obtain ⟨W, hW⟩ : ∃ W, W = ((w.alloc (.cells #[.slice A r.l.length c, .int .i64 r.lv, .slice B r.mods.length d] 31)).alloc (.cells #[.string x.nm, .int .i64 x.kd, .int .i64 x.ty, .int .i64 x.lv, .int .i32 x.n, .int .i64 x.md, .bool x.out, .slice Ap x.ps.length cp] 46)).alloc (.cells #[.slice none 0 0, .int .i64 0, .slice none 0 0] 31) := ⟨_, rfl⟩
  have hB0 : Below w.heap.size w ((w.alloc (.cells #[.slice A r.l.length c, .int .i64 r.lv, .slice B r.mods.length d] 31)).alloc (.cells #[.string x.nm, .int .i64 x.kd, .int .i64 x.ty, .int .i64 x.lv, .int .i32 x.n, .int .i64 x.md, .bool x.out, .slice Ap x.ps.length cp] 46)) := ((Below.refl w.heap.size w).alloc (Nat.le_refl _) _).alloc (by simp) _
  have hBW : Below w.heap.size w W := by rw [hW]; exact hB0.alloc (by rw [World.size_alloc, World.size_alloc]; omega) _
  have hW1 : W.heap[w.heap.size]? = some (.cells #[.slice A r.l.length c, .int .i64 r.lv, .slice B r.mods.length d] 31 (0, 0)) := by
    rw [hW, Below.heap_alloc _ _ _ (by rw [World.size_alloc, World.size_alloc]; omega)]; exact heap_alloc2_old w _ _
  have hW2 : W.heap[w.heap.size + 1]? = some (.cells #[.string x.nm, .int .i64 x.kd, .int .i64 x.ty, .int .i64 x.lv, .int .i32 x.n, .int .i64 x.md, .bool x.out, .slice Ap x.ps.length cp] 46 (0, 0)) := by
    rw [hW, Below.heap_alloc _ _ _ (by simp)]; exact heap_alloc2_new w _ _
  have hW3 : W.heap[w.heap.size + 1 + 1]? = some (.cells #[.slice none 0 0, .int .i64 0, .slice none 0 0] 31 (0, 0)) := by rw [hW]; exact heap_alloc3_new w _ _ _
  have hWl := (Array.getElem?_eq_some_iff.1 hW3).1
  have HW := Lib.hid hW
  have HW1 := Lib.hid hW1
  have HW2 := Lib.hid hW2
  have HW3 := Lib.hid hW3
  have hC := f28_any (w := W) lv x.nm (HR.out.keep (Fr.of_below hBW))
  obtain ⟨⟨a0, a1, a2⟩, _⟩ := cells3 hW1
  obtain ⟨⟨b0, _⟩, _⟩ := cells8 hW2
  clear hB0 hW hW1 hW2 hW3
  unfold obV
  rcases hat : atI r.l lv x.nm with _ | i
  · have ho : changeR r lv x = (110, r) := by unfold changeR; rw [hat]
    rw [ho]
    have hz : atZ r.l lv x.nm < 0 := by unfold atZ; rw [hat]; simp
    have HCall := Lib.hid hC
    clear ho hat hC
    go_enter Try.func34, Try.ntmps34
    go_wp2_with fail
    rw [← HW.out]
    go_wp2_with (go_at_call 28; refine HCall.out.mono ?_; rintro e wa ⟨rfl, hba⟩; obtain ⟨⟨c0, c1, c2⟩, _⟩ := cells3 ((hba.block _ (by omega)).trans HW1.out); obtain ⟨⟨d0, d1, d2⟩, df⟩ := cells3 ((hba.block _ hWl).trans HW3.out); have df0 := df 0; have df1 := df 1; have df2 := df 2; have HBA := Lib.hid hba; clear df hba)
    obtain ⟨w7, hw7⟩ : ∃ w7, w7 = ((wa.setCell ⟨w.heap.size + 1 + 1, 0, none⟩ (.slice A r.l.length c)).setCell ⟨w.heap.size + 1 + 1, 1, none⟩ (.int .i64 r.lv)).setCell ⟨w.heap.size + 1 + 1, 2, none⟩ (.slice B r.mods.length d) := ⟨_, rfl⟩
    rw [← hw7]
    obtain ⟨hx7, s7⟩ := block3 ((HBA.out.block _ hWl).trans HW3.out) _ _ _ hw7
    clear hw7
    refine bodyPost_ret (results_ref _ 6 7 Try.results34 _ _ _ _ _ _ _ rfl rfl hx7) rfl ?_
    have hB7 : Below w.heap.size w w7 := (hBW.trans (HBA.out.mono hBW.size)).trans (s7.below (by omega))
    exact ⟨_, rfl, hB7, HR.out.keep (Fr.of_below hB7)⟩
  · have ho : changeR r lv x = (0, { r with l := r.l.set i { x with lv := lv } }) := by unfold changeR; rw [hat]
    rw [ho]
    have hil := atI_lt hat
    have hz : atZ r.l lv x.nm = (i : Int) := by unfold atZ; rw [hat]
    rw [hz] at hC
    have HCall := Lib.hid hC
    obtain ⟨cs, A', c', hAe, hcl, hoc, hsrc, hone⟩ := ob_cells HL.out
    injection hAe with hAe hx hc'
    subst hAe
    have HSR := Lib.hid hsrc
    have HOC := Lib.hid hoc
    clear ho hat hC hz hsrc hoc hx hc'
    have ii : (0 : Int) ≤ (i : Int) := by omega
    have il : (i : Int) < (r.l.length : Int) := by omega
    go_enter Try.func34, Try.ntmps34
    go_wp2_with fail
    rw [← HW.out]
    go_wp2_with (first | (go_at_call 28; go_loud (refine HCall.out.mono ?_; rintro e wa ⟨rfl, hba⟩; obtain ⟨⟨c0, c1, c2⟩, _⟩ := cells3 ((hba.block _ (by omega)).trans HW1.out); have hwal := hba.size; have hwl : w.heap.size < wa.heap.size := (by omega); have hwl1 : w.heap.size + 1 < wa.heap.size := (by omega); have hwl2 : w.heap.size + 1 + 1 < wa.heap.size := (by omega); have hBa := hBW.trans (hba.mono hBW.size); have HBA := Lib.hid hba; clear hba)) | (at_builtin; go_loud (refine wpList_app ti28 (by rfl) _ _ (by rfl) (by rfl) (own_empty _ _ _) (by rfl) cs hcl ?_ hone (by omega) ?_)))
    · intro h0
      obtain ⟨ad, e, hb, hcc⟩ := HSR.out h0
      refine ⟨ad, e, fun j u hu => ?_⟩
      exact (World.cell?_of_block (a := ad.add j) (by rw [add_block]; exact ((((Below.refl wa.heap.size wa).alloc (Nat.le_refl _) (.cells #[] 46)).block _ (Nat.lt_of_lt_of_le hb hBa.size))).trans (hBa.block _ hb))).trans (hcc j u hu)
    · intro A1 c1 w3 hown3 hg3 hob3
      have k3 : Below wa.heap.size wa w3 := ((Below.refl wa.heap.size wa).alloc (Nat.le_refl _) (.cells #[] 46)).grown hg3 (by simp) (fun b hb => by cases hb; simp)
      have hown3' : w3.ownsRow 0 46 8 (.slice A1 r.l.length c1) r.l.length cs := by simpa using hown3
      have hn3 : ∀ b, (Value.slice A1 r.l.length c1).ownBlock = some b → wa.heap.size ≤ b := fun b hb => by
        (try rw [Nat.zero_add] at hob3)
        rcases hob3 with h | h
        · rw [h] at hb; cases hb; simp
        · rw [h] at hb; injection hb with hb; (try simp at hb); omega
      obtain ⟨_, _, e1, hle1, hgx⟩ := own_cells hown3'
      cases e1
      obtain ⟨g, rfl, hgb, hgl, hcell⟩ := hgx (by omega)
      have hga := hn3 g hgb
      have Z1 := ((k3.block _ hwl).trans (HBA.out.block _ (by omega))).trans HW1.out
      have Z2 := ((k3.block _ hwl1).trans (HBA.out.block _ (by omega))).trans HW2.out
      have Z3 := ((k3.block _ hwl2).trans (HBA.out.block _ (by omega))).trans HW3.out
      obtain ⟨⟨z0, z1, z2⟩, zf⟩ := cells3 Z1
      obtain ⟨⟨y0, y1, y2⟩, yf⟩ := cells3 Z3
      obtain ⟨⟨x0, x1, x2, x3, x4, x5, x6, x7⟩, xf⟩ := cells8 Z2
      have zf0 := zf 0
      have yf0 := yf 0
      have yf1 := yf 1
      have yf2 := yf 2
      have xf3 := xf 3
      have gc : ∀ q, q < 8 → ∃ u, w3.cell? ⟨g, i * 8 + q, none⟩ = some u := fun q hq => ⟨_, hcell (i * 8 + q) _ (List.getElem?_eq_getElem (by omega))⟩
      obtain ⟨u0, g0⟩ : ∃ u, w3.cell? ⟨g, i * 8, none⟩ = some u := gc 0 (by omega)
      obtain ⟨u1, g1⟩ := gc 1 (by omega)
      obtain ⟨u2, g2⟩ := gc 2 (by omega)
      obtain ⟨u3, g3⟩ := gc 3 (by omega)
      obtain ⟨u4, g4⟩ := gc 4 (by omega)
      obtain ⟨u5, g5⟩ := gc 5 (by omega)
      obtain ⟨u6, g6⟩ := gc 6 (by omega)
      obtain ⟨u7, g7⟩ := gc 7 (by omega)
      have gf : ∀ q, w3.frozen? ⟨g, q, none⟩ = false := fun q => by
        rcases hown3'.2 with ⟨e, _⟩ | ⟨_, _, _, e, _, hh, _⟩
        · cases e
        · cases e; exact frozen_of_row w3 _ q _ _ hh
      have gf0 := gf (i * 8)
      have gf1 := gf (i * 8 + 1)
      have gf2 := gf (i * 8 + 2)
      have gf3 := gf (i * 8 + 3)
      have gf4 := gf (i * 8 + 4)
      have gf5 := gf (i * 8 + 5)
      have gf6 := gf (i * 8 + 6)
      have gf7 := gf (i * 8 + 7)
      have ne0 : g ≠ w.heap.size := by omega
      have ne1 : g ≠ w.heap.size + 1 := by omega
      have ne2 : g ≠ w.heap.size + 1 + 1 := by omega
      have HO3 := Lib.hid hown3'
      have HN3 := Lib.hid hn3
      have HZ1 := Lib.hid Z1
      have HZ3 := Lib.hid Z3
      have HK3 := Lib.hid k3
      clear hown3 hown3' hn3 hcell gc gf zf yf xf Z1 Z2 Z3 k3 hg3 hob3
      have HO3' := Lib.hid hgb
      have hgl3 := hgl
      go_wp2_with fail
      obtain ⟨w4, hw4⟩ : ∃ w4, w4 = w3.setCell ⟨w.heap.size + 1, 3, none⟩ (.int .i64 lv) := ⟨_, rfl⟩
      rw [← hw4]
      obtain ⟨w5, hw5⟩ : ∃ w5, w5 = (((((((w4.setCell ⟨g, i * 8, none⟩ (.string x.nm)).setCell ⟨g, i * 8 + 1, none⟩ (.int .i64 x.kd)).setCell ⟨g, i * 8 + 2, none⟩ (.int .i64 x.ty)).setCell ⟨g, i * 8 + 3, none⟩ (.int .i64 lv)).setCell ⟨g, i * 8 + 4, none⟩ (.int .i32 x.n)).setCell ⟨g, i * 8 + 5, none⟩ (.int .i64 x.md)).setCell ⟨g, i * 8 + 6, none⟩ (.bool x.out)).setCell ⟨g, i * 8 + 7, none⟩ (.slice Ap x.ps.length cp) := ⟨_, rfl⟩
      rw [← hw5]
      obtain ⟨w6, hw6⟩ : ∃ w6, w6 = w5.setCell ⟨w.heap.size, 0, none⟩ (.slice (some ⟨g, 0, none⟩) r.l.length c1) := ⟨_, rfl⟩
      rw [← hw6]
      obtain ⟨w7, hw7⟩ : ∃ w7, w7 = ((w6.setCell ⟨w.heap.size + 1 + 1, 0, none⟩ (.slice (some ⟨g, 0, none⟩) r.l.length c1)).setCell ⟨w.heap.size + 1 + 1, 1, none⟩ (.int .i64 r.lv)).setCell ⟨w.heap.size + 1 + 1, 2, none⟩ (.slice B r.mods.length d) := ⟨_, rfl⟩
      rw [← hw7]
      have s4 : SameBut (w.heap.size + 1) w3 w4 := by rw [hw4]; exact (SameBut.refl _ _).setCell 3 _
      have hown4 : w4.ownsRow 0 46 8 (.slice (some ⟨g, 0, none⟩) r.l.length c1) r.l.length cs := ownsRow_same HO3.out fun b hb => s4.block b (by cases hb; exact ne1)
      obtain ⟨hown5, s5⟩ := own_set8' (x := { x with lv := lv }) hown4 _ hw5
      have s6 : SameBut w.heap.size w5 w6 := by rw [hw6]; exact (SameBut.refl _ _).setCell 0 _
      obtain ⟨hx7, s7⟩ := block3 (((s6.block _ (by omega)).trans ((s5.block _ (Ne.symm ne2)).trans (s4.block _ (by omega)))).trans HZ3.out) _ _ _ hw7
      clear hw4 hw5 hw6 hw7
      refine bodyPost_ret (results_ref _ 6 7 Try.results34 _ _ _ _ _ _ _ rfl rfl hx7) rfl ?_
      have hB3 : Below w.heap.size w w3 := hBa.trans (HK3.out.mono hBa.size)
      have hB5 : Below w.heap.size w w5 := (hB3.trans (s4.below (by omega))).trans (s5.below (by omega))
      have hB7 : Below w.heap.size w w7 := (hB5.trans (s6.below (Nat.le_refl _))).trans (s7.below (by omega))
      have hf3 : Fr F w (g :: own3 w.heap.size F) w3 := Fr.more hB3 fun b hb => by
        rcases List.mem_cons.1 hb with rfl | hb
        · exact .inr (by omega)
        · exact own3_sub hb
      have hf5 : Fr (g :: own3 w.heap.size F) w3 (g :: own3 w.heap.size F) w5 := (s4.fr (by simp [own3])).trans (s5.fr (by simp))
      have hf7 : Fr (own3 w.heap.size F) w5 (own3 w.heap.size F) w7 := (s6.fr (by simp [own3])).trans (s7.fr (by simp [own3]))
      have hoc5 : OC (own3 w.heap.size F) w5 (set8 cs (i * 8) { x with lv := lv } (.slice Ap x.ps.length cp)) (r.l.set i { x with lv := lv }) :=
        (((HOC.out.keep hf3).keep hf5).set8 (x := { x with lv := lv }) hcl hil ((HP.out.keep hf3).keep hf5)).weak fun b hb => List.mem_cons_of_mem _ hb
      have hob : ObR (own3 w.heap.size F) w5 (.slice (some ⟨g, 0, none⟩) r.l.length c1) (r.l.set i { x with lv := lv }) := by
        refine OC.toR (t := 46) hoc5 (by rw [List.length_set]; exact hown5) (fun b hb hm => ?_) (by simpa using hn)
        cases hb
        simp [own3] at hm
        rcases hm with h | h | h | h
        · omega
        · omega
        · omega
        · have := HF.out g h; omega
      have hL7 := (hob.keep hf7).weak (F' := F) fun b hb => by simp [own3, hb]
      rw [show r.l.length = (r.l.set i { x with lv := lv }).length by simp] at hL7
      exact ⟨_, rfl, hB7, _, _, by simp, hL7, HM.out.keep (Fr.of_below hB7)⟩
end Go.Proofs.Ytengenceelmijaa
