import Derived.Test.YtengenceelmijaaRefB
import Derived.Test.YtengenceelmijaaReg
namespace Go.Proofs.Ytengenceelmijaa
open Go.RowKit
set_option linter.unusedVariables false

theorem eight {j n : Nat} (h : j < n * 8) : ∃ i r, j = i * 8 + r ∧ i < n ∧ r < 8 := ⟨j / 8, j % 8, by omega, by omega, by omega⟩
theorem ob_cells {F : List Nat} {w : World} {v : Value} {xs : List Ob} (h : ObR F w v xs) : ∃ cs A c, v = .slice A xs.length c ∧ cs.length = xs.length * 8 ∧ OC F w cs xs ∧
    (0 < xs.length → ∃ ad, A = some ad ∧ ad.block < w.heap.size ∧ ∀ (j : Nat) (u : Value), cs[j]? = some u → w.cell? (ad.add j) = some u) ∧ ∀ u ∈ cs, u.oneCell' = true := by
  obtain ⟨A, c, rfl, hc, hl, hA⟩ := ob_at h
  cases hx : xs with
  | nil => exact ⟨[], A, c, rfl, rfl, fun i x hi => by simp at hi, fun h => absurd h (by simp), by simp⟩
  | cons x0 xs0 =>
    rw [← hx]
    obtain ⟨b, o, rfl, hg, _⟩ := hA 0 x0 (by rw [hx]; rfl)
    have hA' : ∀ i x, xs[i]? = some x → Ob7 w b (o + i * 8) x ∧ ∃ pv, w.cell? ⟨b, o + i * 8 + 7, none⟩ = some pv ∧ PsR F w pv x.ps := fun i x hi => by
      obtain ⟨b', o', e, _, h⟩ := hA i x hi
      cases e; exact h
    have hcell : ∀ i r, i < xs.length → r < 8 → ∃ u, w.cell? ⟨b, o + (i * 8 + r), none⟩ = some u ∧ u.oneCell' = true := fun i r hi hr => by
      obtain ⟨⟨h0, h1, h2, h3, h4, h5, h6⟩, pv, h7, hps⟩ := hA' i _ (List.getElem?_eq_getElem hi)
      obtain ⟨Ap, cp, rfl, _⟩ := ps_at hps
      rw [← Nat.add_assoc]
      match r, hr with
      | 0, _ => exact ⟨_, h0, rfl⟩
      | 1, _ => exact ⟨_, h1, rfl⟩
      | 2, _ => exact ⟨_, h2, rfl⟩
      | 3, _ => exact ⟨_, h3, rfl⟩
      | 4, _ => exact ⟨_, h4, rfl⟩
      | 5, _ => exact ⟨_, h5, rfl⟩
      | 6, _ => exact ⟨_, h6, rfl⟩
      | 7, _ => exact ⟨_, h7, rfl⟩
    have hget : ∀ i r, i < xs.length → r < 8 → ((List.range (xs.length * 8)).map fun j => (w.cell? ⟨b, o + j, none⟩).getD undef)[i * 8 + r]? = w.cell? ⟨b, o + (i * 8 + r), none⟩ := fun i r hi hr => by
      obtain ⟨u, hu, _⟩ := hcell i r hi hr
      rw [List.getElem?_map, List.getElem?_range (by omega), Option.map_some, hu]; rfl
    refine ⟨(List.range (xs.length * 8)).map fun j => (w.cell? ⟨b, o + j, none⟩).getD undef, _, c, rfl, by simp, fun i x hi => ?_, fun _ => ⟨_, rfl, hg.1, fun j u hu => ?_⟩, fun u hu => ?_⟩
    · have hil := (List.getElem?_eq_some_iff.1 hi).1
      obtain ⟨⟨h0, h1, h2, h3, h4, h5, h6⟩, pv, h7, hps⟩ := hA' i x hi
      have g := fun r hr => hget i r hil hr
      simp only [Nat.add_assoc] at h0 h1 h2 h3 h4 h5 h6 h7
      exact ⟨(g 0 (by omega)).trans h0, (g 1 (by omega)).trans h1, (g 2 (by omega)).trans h2, (g 3 (by omega)).trans h3, (g 4 (by omega)).trans h4, (g 5 (by omega)).trans h5, (g 6 (by omega)).trans h6, pv, (g 7 (by omega)).trans h7, hps⟩
    · have hj : j < xs.length * 8 := by have := (List.getElem?_eq_some_iff.1 hu).1; simpa using this
      obtain ⟨i, r, rfl, hi, hr⟩ := eight hj
      rw [hget i r hi hr] at hu
      rw [add_zero_addr]; exact hu
    · obtain ⟨j, hj⟩ := List.mem_iff_getElem?.1 hu
      have hjl : j < xs.length * 8 := by have := (List.getElem?_eq_some_iff.1 hj).1; simpa using this
      obtain ⟨i, r, rfl, hi, hr⟩ := eight hjl
      rw [hget i r hi hr] at hj
      obtain ⟨u', hu', h1⟩ := hcell i r hi hr
      rw [hu'] at hj; injection hj with hj; exact hj ▸ h1

def LC (F : List Nat) (w : World) (cs : List Value) (xss : List (List Ob)) : Prop := ∀ (i : Nat) (x : List Ob), xss[i]? = some x → ∃ u, cs[i]? = some u ∧ ObR F w u x
theorem obs_cells {F : List Nat} {w : World} {v : Value} {xss : List (List Ob)} (h : ObsR F w v xss) : ∃ cs A c, v = .slice A xss.length c ∧ cs.length = xss.length ∧ LC F w cs xss ∧
    (0 < xss.length → ∃ ad, A = some ad ∧ ad.block < w.heap.size ∧ ∀ (j : Nat) (u : Value), cs[j]? = some u → w.cell? (ad.add j) = some u) ∧ ∀ u ∈ cs, u.oneCell' = true := by
  obtain ⟨A, c, rfl, hc, hl, hA⟩ := obs_shape h
  cases hx : xss with
  | nil => exact ⟨[], A, c, rfl, rfl, fun i x hi => by simp at hi, fun h => absurd h (by simp), by simp⟩
  | cons x0 xs0 =>
    rw [← hx]
    obtain ⟨b, o, rfl, hg, _⟩ := hA 0 x0 (by rw [hx]; rfl)
    have hA' : ∀ i x, xss[i]? = some x → ∃ u, w.cell? ⟨b, o + i, none⟩ = some u ∧ ObR F w u x := fun i x hi => by
      obtain ⟨b', o', e, _, u, h⟩ := hA i x hi
      cases e; rw [Nat.mul_one] at h; exact ⟨u, h⟩
    have hget : ∀ i, i < xss.length → ((List.range xss.length).map fun j => (w.cell? ⟨b, o + j, none⟩).getD undef)[i]? = w.cell? ⟨b, o + i, none⟩ := fun i hi => by
      obtain ⟨u, hu, _⟩ := hA' i _ (List.getElem?_eq_getElem hi)
      rw [List.getElem?_map, List.getElem?_range (by omega), Option.map_some, hu]; rfl
    refine ⟨(List.range xss.length).map fun j => (w.cell? ⟨b, o + j, none⟩).getD undef, _, c, rfl, by simp, fun i x hi => ?_, fun _ => ⟨_, rfl, hg.1, fun j u hu => ?_⟩, fun u hu => ?_⟩
    · obtain ⟨u, h1, h2⟩ := hA' i x hi
      exact ⟨u, (hget i (List.getElem?_eq_some_iff.1 hi).1).trans h1, h2⟩
    · have hj : j < xss.length := by have := (List.getElem?_eq_some_iff.1 hu).1; simpa using this
      rw [hget j hj] at hu
      rw [add_zero_addr]; exact hu
    · obtain ⟨j, hj⟩ := List.mem_iff_getElem?.1 hu
      have hjl : j < xss.length := by have := (List.getElem?_eq_some_iff.1 hj).1; simpa using this
      rw [hget j hjl] at hj
      obtain ⟨u', hu', h1⟩ := hA' j _ (List.getElem?_eq_getElem hjl)
      obtain ⟨Ap, cp, rfl, _⟩ := ob_at h1
      rw [hu'] at hj; injection hj with hj; subst hj; rfl
theorem LC.toR {F : List Nat} {w : World} {v : Value} {cs : List Value} {xs : List (List Ob)} {t : TypeId} (h : LC F w cs xs) (ho : w.ownsRow 0 t 1 v xs.length cs) (hF : ∀ b, v.ownBlock = some b → b ∉ F) (hl : xs.length ≤ 4194304) : ObsR F w v xs := by
  obtain ⟨A, c, rfl, hc, hx⟩ := own_cells ho
  refine ⟨hl, A, c, rfl, hc, fun hne => ?_⟩
  obtain ⟨g, rfl, hb, hg, hx⟩ := hx (List.length_pos_iff.2 hne)
  refine ⟨g, 0, rfl, ⟨hg, hF g hb⟩, fun i x hi => ?_⟩
  obtain ⟨u, h0, hp⟩ := h i x hi
  rw [Nat.zero_add, Nat.mul_one]
  exact ⟨u, hx _ _ h0, hp⟩

theorem heap_alloc3_new (w : World) (a b c : Obj) : (((w.alloc a).alloc b).alloc c).heap[w.heap.size + 1 + 1]? = some c := by
  have := heap_alloc_new ((w.alloc a).alloc b) c
  simpa using this

theorem old_src {w : World} {b : Nat} {cs : Array Value} {t : TypeId} (h : w.heap[b]? = some (.cells cs t (0, 0))) (m : Nat) : 0 < m → ∃ ad, some (⟨b, 0, none⟩ : Addr) = some ad ∧ ∀ (j : Nat) (u : Value), cs.toList[j]? = some u → w.cell? (ad.add j) = some u := fun _ => ⟨_, rfl, fun j u hu => by
  rw [add_zero_addr, cell_of_row _ b (0 + j) cs t (0, 0) h]
  simpa using hu⟩
theorem own_empty_at (w : World) (t : TypeId) (sz n : Nat) (hn : n = w.heap.size) : (w.alloc (.cells #[] t)).ownsRow 0 t sz (.slice (some ⟨n, 0, none⟩) 0 0) 0 [] := by
  subst hn; exact own_empty w t sz

def declareR (r : Rf) (x : Ob) : Int × Rf :=
  if badName x.nm then (140, r)
  else if 0 ≤ atZ r.l r.lv x.nm then (51, r)
  else (0, { r with l := r.l ++ [{ x with lv := r.lv }] })

section
variable {P : Program} {ops : Array Oper} {Q : Exit → Act → World → Prop} {S : World → Prop} {T : List Nat}
/-- One of two may come up. -/
theorem wpG_two {o o' : Oper} {n : Nat} {listed : Array Bool} {a : Act} {w : World} (i j fuel : Nat) (hf : n = fuel + 1) (hr : Region.ready .any ops listed = [i, j]) (ho : ops[i]? = some o) (ho' : ops[j]? = some o')
    (h : wpList P ops (Cont (fun a' w' => (i ∉ T → S w') ∧ wpG P ops Q S T fuel (listed.setIfInBounds i true) a' w') Q) [o] a w)
    (h' : wpList P ops (Cont (fun a' w' => (j ∉ T → S w') ∧ wpG P ops Q S T fuel (listed.setIfInBounds j true) a' w') Q) [o'] a w) :
    wpG P ops Q S T n listed a w := by
  subst hf
  have key : ∀ (k : Nat) (ok : Oper), ops[k]? = some ok → wpList P ops (Cont (fun a' w' => (k ∉ T → S w') ∧ wpG P ops Q S T fuel (listed.setIfInBounds k true) a' w') Q) [ok] a w →
      wpOp P ops Q k (fun a' w' => (k ∉ T → S w') ∧ wpG P ops Q S T fuel (listed.setIfInBounds k true) a' w') a w := by
    intro k ok hok h
    unfold wpOp
    simp only [hok]
    unfold wpList at h
    split at h
    · rename_i hw
      rw [if_pos hw]
      rcases h with h | ⟨h1, h2⟩
      · refine .inl ?_
        unfold Oper.wp at h ⊢
        generalize (execOp a.eval ok).run P w = r at *
        cases r with
        | ok n w' =>
          cases n <;> simp only [Oper.upon, wpList, Cont] at h ⊢ <;>
            first
              | exact h
              | exact Calls.mono h (fun e w'' he => by cases e <;> exact he)
        | halt x w' => cases x <;> simp only [Oper.upon, Cont] at h ⊢ <;> exact h
      · exact .inr ⟨h1, h2⟩
    · rename_i hw
      rw [if_neg hw]
      exact h
  refine ⟨fun h0 => (by rw [hr] at h0; cases h0), fun k hk => ?_⟩
  rw [hr] at hk
  rcases List.mem_cons.1 hk with rfl | hk
  · exact key _ _ ho h
  · obtain rfl : k = j := by simpa using hk
    exact key _ _ ho' h'
end

set_option maxHeartbeats 4000000 in
set_option maxRecDepth 100000 in
theorem f31_any {F : List Nat} {w : World} {v pv : Value} {r : Rf} (x : Ob) (h : RfR F w v r) (hps : PsR F w pv x.ps) (h0 : 0 ≤ r.lv) (h64 : r.lv ≤ 64) (hFl : ∀ b ∈ F, b < w.heap.size) (hsm : r.l.length ≤ 1000) :
    Calls Try.prog 31 #[v, obV x pv] w fun e w' => ∃ v', e = .returned (.tuple #[v', .int .i64 (declareR r x).1]) ∧ Below w.heap.size w w' ∧ RfR F w' v' (declareR r x).2 := by
  have hR := h
  obtain ⟨lv, mv, rfl, hl, hm⟩ := h
  obtain ⟨A, c, rfl, hc, hn, hA⟩ := ob_at hl
  obtain ⟨B, d, rfl, hd, _⟩ := obs_shape hm
  obtain ⟨Ap, cp, rfl, _⟩ := ps_at hps
  have HL := Lib.hid hl
  have HM := Lib.hid hm
  have HA := Lib.hid hA
  have HF := Lib.hid hFl
  have HR := Lib.hid hR
  have HP := Lib.hid hps
  clear hl hm hA hFl hR hps
  obtain ⟨W, hW⟩ : ∃ W, W = ((w.alloc (.cells #[.slice A r.l.length c, .int .i64 r.lv, .slice B r.mods.length d] 31)).alloc (.cells #[.string x.nm, .int .i64 x.kd, .int .i64 x.ty, .int .i64 x.lv, .int .i32 x.n, .int .i64 x.md, .bool x.out, .slice Ap x.ps.length cp] 46)).alloc (.cells #[.slice none 0 0, .int .i64 0, .slice none 0 0] 31) := ⟨_, rfl⟩
  cases hbad : badName x.nm with
  | true =>
    have ho : declareR r x = (140, r) := by unfold declareR; rw [if_pos hbad]
    rw [ho]
    clear ho hW
    unfold obV
    rcases Decidable.em (x.nm.size = 0) with hz | hz
    · go_enter Try.func31, Try.ntmps31
      go_wp2_with fail
      refine bodyPost_ret (results_ref _ 4 5 Try.results31 _ _ _ _ _ _ _ rfl rfl (heap_alloc3_new w _ _ _)) rfl ?_
      have hB := (((Below.refl w.heap.size w).alloc (Nat.le_refl _) (.cells #[.slice A r.l.length c, .int .i64 r.lv, .slice B r.mods.length d] 31)).alloc (by simp) (.cells #[.string x.nm, .int .i64 x.kd, .int .i64 x.ty, .int .i64 x.lv, .int .i32 x.n, .int .i64 x.md, .bool x.out, .slice Ap x.ps.length cp] 46)).alloc (by rw [World.size_alloc, World.size_alloc]; omega) (.cells #[.slice A r.l.length c, .int .i64 r.lv, .slice B r.mods.length d] 31)
      exact ⟨_, rfl, hB, HR.out.keep (Fr.of_below hB)⟩
    · have hz' : ((x.nm.size : Int) == 0) = false := beq_eq_false_iff_ne.2 (by omega)
      have hz3 : decide ((32 : Int) < x.nm.size) = true := by
        have : 32 < x.nm.size := by simpa [badName, hz] using hbad
        simp; omega
      go_enter Try.func31, Try.ntmps31
      go_wp2_with fail
      refine bodyPost_ret (results_ref _ 4 5 Try.results31 _ _ _ _ _ _ _ rfl rfl (heap_alloc3_new w _ _ _)) rfl ?_
      have hB := (((Below.refl w.heap.size w).alloc (Nat.le_refl _) (.cells #[.slice A r.l.length c, .int .i64 r.lv, .slice B r.mods.length d] 31)).alloc (by simp) (.cells #[.string x.nm, .int .i64 x.kd, .int .i64 x.ty, .int .i64 x.lv, .int .i32 x.n, .int .i64 x.md, .bool x.out, .slice Ap x.ps.length cp] 46)).alloc (by rw [World.size_alloc, World.size_alloc]; omega) (.cells #[.slice A r.l.length c, .int .i64 r.lv, .slice B r.mods.length d] 31)
      exact ⟨_, rfl, hB, HR.out.keep (Fr.of_below hB)⟩
  | false =>
    obtain ⟨hz, hz32⟩ : x.nm.size ≠ 0 ∧ ¬ 32 < x.nm.size := by simpa [badName] using hbad
    have hz' : ((x.nm.size : Int) == 0) = false := beq_eq_false_iff_ne.2 (by omega)
    have hz3 : decide ((32 : Int) < x.nm.size) = false := by simp; omega
    have hB0 : Below w.heap.size w ((w.alloc (.cells #[.slice A r.l.length c, .int .i64 r.lv, .slice B r.mods.length d] 31)).alloc (.cells #[.string x.nm, .int .i64 x.kd, .int .i64 x.ty, .int .i64 x.lv, .int .i32 x.n, .int .i64 x.md, .bool x.out, .slice Ap x.ps.length cp] 46)) := ((Below.refl w.heap.size w).alloc (Nat.le_refl _) _).alloc (by simp) _
    have hBW : Below w.heap.size w W := by rw [hW]; exact hB0.alloc (by rw [World.size_alloc, World.size_alloc]; omega) _
    have hW1 : W.heap[w.heap.size]? = some (.cells #[.slice A r.l.length c, .int .i64 r.lv, .slice B r.mods.length d] 31 (0, 0)) := by
      rw [hW, Below.heap_alloc _ _ _ (by rw [World.size_alloc, World.size_alloc]; omega)]; exact heap_alloc2_old w _ _
    have hW2 : W.heap[w.heap.size + 1]? = some (.cells #[.string x.nm, .int .i64 x.kd, .int .i64 x.ty, .int .i64 x.lv, .int .i32 x.n, .int .i64 x.md, .bool x.out, .slice Ap x.ps.length cp] 46 (0, 0)) := by
      rw [hW, Below.heap_alloc _ _ _ (by simp)]; exact heap_alloc2_new w _ _
    have hW3 : W.heap[w.heap.size + 1 + 1]? = some (.cells #[.slice none 0 0, .int .i64 0, .slice none 0 0] 31 (0, 0)) := by rw [hW]; exact heap_alloc3_new w _ _ _
    have hWl := (Array.getElem?_eq_some_iff.1 hW3).1
    have HW := Lib.hid hW
    have HW1 := Lib.hid hW1
    have HW2 := Lib.hid hW2
    have HW3 := Lib.hid hW3
    have HCall := Lib.hid (f28_any (w := W) r.lv x.nm (HR.out.keep (Fr.of_below hBW)))
    have HBad := Lib.hid hbad
    obtain ⟨⟨a0, a1, a2⟩, _⟩ := cells3 hW1
    obtain ⟨⟨b0, _⟩, _⟩ := cells8 hW2
    clear hB0 hW hW1 hW2 hW3 hbad
    by_cases hat : 0 ≤ atZ r.l r.lv x.nm
    · have ho : declareR r x = (51, r) := by unfold declareR; rw [HBad.out, if_neg (by simp), if_pos hat]
      rw [ho]
      clear ho
      unfold obV
      go_enter Try.func31, Try.ntmps31
      go_wp2_with fail
      rw [← HW.out]
      go_wp2_with (go_at_call 28; refine HCall.out.mono ?_; rintro e wa ⟨rfl, hba⟩; obtain ⟨⟨c0, c1, c2⟩, _⟩ := cells3 ((hba.block _ (by omega)).trans HW1.out); obtain ⟨⟨d0, d1, d2⟩, df⟩ := cells3 ((hba.block _ hWl).trans HW3.out); have df0 := df 0; have df1 := df 1; have df2 := df 2; have HBA := Lib.hid hba; clear df hba)
      obtain ⟨w7, hw7⟩ : ∃ w7, w7 = ((wa.setCell ⟨w.heap.size + 1 + 1, 0, none⟩ (.slice A r.l.length c)).setCell ⟨w.heap.size + 1 + 1, 1, none⟩ (.int .i64 r.lv)).setCell ⟨w.heap.size + 1 + 1, 2, none⟩ (.slice B r.mods.length d) := ⟨_, rfl⟩
      rw [← hw7]
      obtain ⟨hx7, s7⟩ := block3 ((HBA.out.block _ hWl).trans HW3.out) _ _ _ hw7
      clear hw7
      refine bodyPost_ret (results_ref _ 4 5 Try.results31 _ _ _ _ _ _ _ rfl rfl hx7) rfl ?_
      have hB7 : Below w.heap.size w w7 := (hBW.trans (HBA.out.mono hBW.size)).trans (s7.below (by omega))
      exact ⟨_, rfl, hB7, HR.out.keep (Fr.of_below hB7)⟩
    · have ho : declareR r x = (0, { r with l := r.l ++ [{ x with lv := r.lv }] }) := by unfold declareR; rw [HBad.out, if_neg (by simp), if_neg hat]
      rw [ho]
      clear ho
      unfold obV
      have hat' : atZ r.l r.lv x.nm < 0 := by omega
      go_enter Try.func31, Try.ntmps31
      go_wp2_with fail
      rw [← HW.out]
      go_wp2_with (go_at_call 28; refine HCall.out.mono ?_; rintro e wa ⟨rfl, hba⟩; have HBA := Lib.hid hba; clear hba)
      go_loopw [6, 7] (fun u i wr => ∃ (j m : Nat), j ≤ r.l.length ∧ m ≤ j ∧ u = .int .i64 m ∧ i = .int .i64 j ∧ Below W.heap.size W wr) (fun _ i _ => r.l.length - (intOf i).toNat)
      case atStart => exact ⟨0, 0, Nat.zero_le _, Nat.le_refl _, rfl, rfl, HBA.out⟩
      case round =>
        obtain ⟨j, m, hj, hm, rfl, rfl, hBl⟩ := hrel
        obtain ⟨⟨c0, c1, c2⟩, cf⟩ := cells3 ((hBl.block _ (by omega)).trans HW1.out)
        have cf0 := cf 0
        have hs := hBl.size
        clear cf
        by_cases hlt : j < r.l.length
        · obtain ⟨y, hy⟩ : ∃ y, r.l[j]? = some y := ⟨_, List.getElem?_eq_getElem hlt⟩
          obtain ⟨b, o, rfl, hbl, ⟨q0, q1, q2, q3, q4, q5, q6⟩, qv, q7, hqs⟩ := HA.out j y hy
          have hbl1 := hbl.1
          have hbl2 := Nat.lt_of_lt_of_le hbl.1 hBW.size
          have r3 := ((hBl.cell (p := ⟨b, o + j * 8 + 3, none⟩) hbl2).trans (hBW.cell (p := ⟨b, o + j * 8 + 3, none⟩) hbl1)).trans q3
          clear hbl q0 q1 q2 q3 q4 q5 q6 q7 hy hqs
          by_cases h3 : y.lv = r.lv
          · have h3' : (y.lv == r.lv) = true := by simpa using h3
            clear h3
            go_wp2
            go_region
            go_wp2
            go_roundw
            case rel => exact ⟨j + 1, m + 1, by omega, by omega, by go_num, by go_num, hBl.drew⟩
            case measure => simp [intOf]; omega
          · have h3' : (y.lv == r.lv) = false := by simpa using h3
            clear h3
            go_wp2
            go_region
            go_wp2
            go_roundw
            case rel => exact ⟨j + 1, m, by omega, by omega, rfl, by go_num, hBl.drew⟩
            case measure => simp [intOf]; omega
        · obtain rfl : j = r.l.length := by omega
          have hm1 : m ≤ 1000 := by omega
          have X1 := (hBl.block _ (by omega)).trans HW1.out
          have X2 := (hBl.block _ (by omega)).trans HW2.out
          have X3 := (hBl.block _ hWl).trans HW3.out
          obtain ⟨_, ef⟩ := cells8 X2
          obtain ⟨⟨e0, e1, e2, e3, e4, e5, e6, e7⟩, _⟩ := cells8 X2
          have ef3 := ef 3
          obtain ⟨w2, hw2⟩ : ∃ w2, w2 = wr.setCell ⟨w.heap.size + 1, 3, none⟩ (.int .i64 r.lv) := ⟨_, rfl⟩
          have s2 : SameBut (w.heap.size + 1) wr w2 := by rw [hw2]; exact (SameBut.refl _ _).setCell 3 _
          have Y1 := (s2.block w.heap.size (by omega)).trans X1
          have Y3 := (s2.block (w.heap.size + 1 + 1) (by omega)).trans X3
          have Y2 : w2.heap[w.heap.size + 1]? = some (.cells #[.string x.nm, .int .i64 x.kd, .int .i64 x.ty, .int .i64 r.lv, .int .i32 x.n, .int .i64 x.md, .bool x.out, .slice Ap x.ps.length cp] 46 (0, 0)) := by
            rw [hw2]; exact heap_setCell_same wr _ 3 _ 46 _ X2
          have HY1 := Lib.hid Y1
          have HY2 := Lib.hid Y2
          have HY3 := Lib.hid Y3
          have HW2' := Lib.hid hw2
          clear X1 X2 X3 ef Y1 Y2 Y3 hw2
          go_wp2_with fail
          rw [← HW2'.out]
          obtain ⟨⟨p0, p1, p2⟩, pf⟩ := cells3 HY1.out
          obtain ⟨⟨x0, x1, x2, x3, x4, x5, x6, x7⟩, _⟩ := cells8 HY2.out
          have pf0 := pf 0
          have hBr : Below w.heap.size w wr := hBW.trans (hBl.mono hBW.size)
          have hB2 : Below w.heap.size w w2 := hBr.trans (s2.below (by omega))
          have hlt2 : w.heap.size + 1 + 1 < w2.heap.size := by rw [s2.size]; omega
          clear pf
          obtain ⟨cs, A', c', hAe, hcl, hoc, hsrc, hone⟩ := ob_cells HL.out
          injection hAe with hAe hx hc'
          subst hAe
          have HSR := Lib.hid hsrc
          have HOC := Lib.hid hoc
          clear hsrc hoc hx hc'
          refine wp_region_G (fun w' => w'.cell? ⟨w.heap.size, 0, none⟩ = some (.slice A r.l.length c) ∧ w'.cell? ⟨w.heap.size + 1, 0, none⟩ = some (.string x.nm) ∧ w'.cell? ⟨w.heap.size + 1, 1, none⟩ = some (.int .i64 x.kd) ∧ w'.cell? ⟨w.heap.size + 1, 2, none⟩ = some (.int .i64 x.ty) ∧ w'.cell? ⟨w.heap.size + 1, 3, none⟩ = some (.int .i64 r.lv) ∧ w'.cell? ⟨w.heap.size + 1, 4, none⟩ = some (.int .i32 x.n) ∧ w'.cell? ⟨w.heap.size + 1, 5, none⟩ = some (.int .i64 x.md) ∧ w'.cell? ⟨w.heap.size + 1, 6, none⟩ = some (.bool x.out) ∧ w'.cell? ⟨w.heap.size + 1, 7, none⟩ = some (.slice Ap x.ps.length cp)) [8] (by kernel_rfl) ?_
          have hS : w2.drew.cell? ⟨w.heap.size, 0, none⟩ = some (.slice A r.l.length c) ∧ w2.drew.cell? ⟨w.heap.size + 1, 0, none⟩ = some (.string x.nm) ∧ w2.drew.cell? ⟨w.heap.size + 1, 1, none⟩ = some (.int .i64 x.kd) ∧ w2.drew.cell? ⟨w.heap.size + 1, 2, none⟩ = some (.int .i64 x.ty) ∧ w2.drew.cell? ⟨w.heap.size + 1, 3, none⟩ = some (.int .i64 r.lv) ∧ w2.drew.cell? ⟨w.heap.size + 1, 4, none⟩ = some (.int .i32 x.n) ∧ w2.drew.cell? ⟨w.heap.size + 1, 5, none⟩ = some (.int .i64 x.md) ∧ w2.drew.cell? ⟨w.heap.size + 1, 6, none⟩ = some (.bool x.out) ∧ w2.drew.cell? ⟨w.heap.size + 1, 7, none⟩ = some (.slice Ap x.ps.length cp) := ⟨p0, x0, x1, x2, x3, x4, x5, x6, x7⟩
          refine wpG_range 1 2 7 (by kernel_rfl) rfl (by kernel_rfl) (by decide) hS (fun K hK => ?_)
          simp only [List.drop_succ_cons, List.drop_zero, List.take_succ_cons, List.take_zero]
          iterate 2 (refine wpPure_plain (v := ?_) rfl (fun y hy => ?_) ?_; rotate_left; (obtain ⟨h0, h1, h2, h3, h4, h5, h6, h7, h8⟩ := hy; go_simp; rfl))
          refine wpPure_nil ?_
          go_simp
          refine hK _ ?_
          clear hK K
          refine wpG_range 4 1 6 (by kernel_rfl) rfl (by kernel_rfl) (by decide) hS (fun K hK => ?_)
          simp only [List.drop_succ_cons, List.drop_zero, List.take_succ_cons, List.take_zero]
          refine wpPure_plain (v := ?_) rfl (fun y hy => ?_) ?_; rotate_left
          · obtain ⟨h0, h1, h2, h3, h4, h5, h6, h7, h8⟩ := hy; go_simp; rfl
          refine wpPure_nil ?_
          go_simp
          refine hK _ ?_
          clear hK K
          have SK : ∀ w' : World, (∀ b, b < w2.heap.size → w'.heap[b]? = w2.heap[b]?) → (w'.cell? ⟨w.heap.size, 0, none⟩ = some (.slice A r.l.length c) ∧ w'.cell? ⟨w.heap.size + 1, 0, none⟩ = some (.string x.nm) ∧ w'.cell? ⟨w.heap.size + 1, 1, none⟩ = some (.int .i64 x.kd) ∧ w'.cell? ⟨w.heap.size + 1, 2, none⟩ = some (.int .i64 x.ty) ∧ w'.cell? ⟨w.heap.size + 1, 3, none⟩ = some (.int .i64 r.lv) ∧ w'.cell? ⟨w.heap.size + 1, 4, none⟩ = some (.int .i32 x.n) ∧ w'.cell? ⟨w.heap.size + 1, 5, none⟩ = some (.int .i64 x.md) ∧ w'.cell? ⟨w.heap.size + 1, 6, none⟩ = some (.bool x.out) ∧ w'.cell? ⟨w.heap.size + 1, 7, none⟩ = some (.slice Ap x.ps.length cp)) := fun w' hk => by
            have k0 := fun o => World.cell?_of_block (a := ⟨w.heap.size, o, none⟩) (hk w.heap.size (by omega))
            have k1 := fun o => World.cell?_of_block (a := ⟨w.heap.size + 1, o, none⟩) (hk (w.heap.size + 1) (by omega))
            exact ⟨(k0 0).trans p0, (k1 0).trans x0, (k1 1).trans x1, (k1 2).trans x2, (k1 3).trans x3, (k1 4).trans x4, (k1 5).trans x5, (k1 6).trans x6, (k1 7).trans x7⟩
          have HSK := Lib.hid SK
          have hsrc : ∀ w' : World, (∀ b, b < w2.heap.size → w'.heap[b]? = w2.heap[b]?) → 0 < r.l.length → ∃ ad, A = some ad ∧ ∀ (j : Nat) (u : Value), cs[j]? = some u → w'.cell? (ad.add j) = some u := fun w' hk h0 => by
            obtain ⟨ad, e, hb, hc⟩ := HSR.out h0
            refine ⟨ad, e, fun j u hu => ?_⟩
            have hb2 := hB2.size
            exact (World.cell?_of_block (a := ad.add j) (by rw [add_block]; exact (hk _ (by omega)).trans (hB2.block _ hb))).trans (hc j u hu)
          have HSRC := Lib.hid hsrc
          clear SK hsrc hS
          have b2 : Below w2.heap.size w2 w2.drew := (Below.refl _ _).drew
          have TAIL : ∀ (w5 w6 w7 : World) (A2 : Option Addr) (c2 : Nat), Below w.heap.size w w5 → w5.ownsRow 0 46 8 (.slice A2 (r.l.length + 1) c2) (r.l.length + 1) (cs ++ [.string x.nm, .int .i64 x.kd, .int .i64 x.ty, .int .i64 r.lv, .int .i32 x.n, .int .i64 x.md, .bool x.out, .slice Ap x.ps.length cp]) → (∀ b, (Value.slice A2 (r.l.length + 1) c2).ownBlock = some b → w.heap.size + 1 + 1 < b) →
              SameBut w.heap.size w5 w6 → SameBut (w.heap.size + 1 + 1) w6 w7 → ∃ v', Ending.returned (.tuple #[.agg #[.slice A2 (r.l.length + 1) c2, .int .i64 r.lv, .slice B r.mods.length d], .int .i64 0]) = .returned (.tuple #[v', .int .i64 0]) ∧ Below w.heap.size w w7 ∧ RfR F w7 v' { r with l := r.l ++ [{ x with lv := r.lv }] } := by
            intro w5 w6 w7 A2 c2 hB5 hown hnew s6 s7
            have hB7 : Below w.heap.size w w7 := (hB5.trans (s6.below (Nat.le_refl _))).trans (s7.below (by omega))
            have hf5 : Fr F w (w.heap.size :: (w.heap.size + 1 + 1) :: F) w5 := Fr.more hB5 fun b hb => by
              simp at hb
              rcases hb with h | h | h
              · exact .inr (by omega)
              · exact .inr (by omega)
              · exact .inl h
            have hf7 : Fr (w.heap.size :: (w.heap.size + 1 + 1) :: F) w5 (w.heap.size :: (w.heap.size + 1 + 1) :: F) w7 := (s6.fr (by simp)).trans (s7.fr (by simp))
            have hob : ObR (w.heap.size :: (w.heap.size + 1 + 1) :: F) w5 (.slice A2 (r.l.length + 1) c2) (r.l ++ [{ x with lv := r.lv }]) := by
              have := ((HOC.out.keep hf5).snoc (x := { x with lv := r.lv }) (by omega) (HP.out.keep hf5)).toR (v := .slice A2 (r.l.length + 1) c2) (t := 46) (by rw [List.length_append]; exact hown) (fun b hb hm => by
                have := hnew b hb
                simp at hm
                rcases hm with h | h | h
                · omega
                · omega
                · have := HF.out b h; omega) (by simp; omega)
              exact this
            exact ⟨_, rfl, hB7, _, _, rfl, (hob.keep hf7).weak fun b hb => by simp [hb], HM.out.keep (Fr.of_below hB7)⟩
          have TAIL := Lib.hid TAIL
          refine wpG_two 0 5 5 rfl (by kernel_rfl) rfl rfl ?_ ?_
          · go_wp2
            have k2 : Below w2.heap.size w2 (w2.alloc (.cells #[] 46)).drew := ((Below.refl _ _).alloc (Nat.le_refl _) _).drew
            refine Cont.mk ⟨fun _ => HSK.out _ k2.block, ?_⟩
            refine wpG_two 3 5 4 rfl (by kernel_rfl) rfl rfl ?_ ?_
            · refine wpList_app ti28 rfl _ _ rfl (by rfl) (own_empty _ _ _) (by rfl) cs hcl (HSRC.out _ k2.block) hone (by omega) ?_
              intro A1 c1 w3 hown3 hg3 hob3
              have k3 : Below w2.heap.size w2 w3 := k2.grown hg3 k2.size (fun b hb => by cases hb; simp)
              refine wpList_nil (Cont.mk ⟨fun _ => HSK.out _ k3.block, ?_⟩)
              have hown3' : w3.ownsRow 0 46 8 (.slice A1 r.l.length c1) r.l.length cs := by simpa using hown3
              have hn3 : ∀ b, (Value.slice A1 r.l.length c1).ownBlock = some b → w2.heap.size ≤ b := fun b hb => by
                rw [Nat.zero_add] at hob3
                rcases hob3 with h | h
                · rw [h] at hb; cases hb; simp
                · rw [h] at hb; injection hb with hb; simp at hb; omega
              have HO3 := Lib.hid hown3'
              have HN3 := Lib.hid hn3
              have hs3 := k3.size
              clear hown3 hob3 hg3 hn3 hown3'
              refine wpG_one 5 3 rfl (by kernel_rfl) rfl ?_
              go_wp2
              have k4 : Below w2.heap.size w2 (w3.alloc (.cells #[.string x.nm, .int .i64 x.kd, .int .i64 x.ty, .int .i64 r.lv, .int .i32 x.n, .int .i64 x.md, .bool x.out, .slice Ap x.ps.length cp] 46)) := k3.alloc hs3 _
              refine Cont.mk ⟨fun _ => HSK.out _ k4.block, ?_⟩
              refine wpG_one 6 2 rfl (by kernel_rfl) rfl ?_
              refine wpList_app ti28 rfl _ _ rfl (by rfl) (HO3.out.alloc _) (by rfl) [.string x.nm, .int .i64 x.kd, .int .i64 x.ty, .int .i64 r.lv, .int .i32 x.n, .int .i64 x.md, .bool x.out, .slice Ap x.ps.length cp] rfl (new_src w3 #[.string x.nm, .int .i64 x.kd, .int .i64 x.ty, .int .i64 r.lv, .int .i32 x.n, .int .i64 x.md, .bool x.out, .slice Ap x.ps.length cp] 46 (0, 0) 1) (by simp [Value.oneCell']) (by omega) ?_
              intro A2 c2 w5 hown5 hg5 hob5
              have k5 : Below w2.heap.size w2 w5 := k4.grown hg5 (by simp; omega) HN3.out
              have hn5 : ∀ b, (Value.slice A2 (r.l.length + 1) c2).ownBlock = some b → w2.heap.size ≤ b := fun b hb => by
                rcases hob5 with h | h
                · exact HN3.out b (h ▸ hb)
                · rw [h] at hb; injection hb with hb; have := hs3; (try simp at hb); omega
              refine wpList_nil (Cont.mk ⟨fun _ => HSK.out _ k5.block, ?_⟩)
              have HO5 := Lib.hid hown5
              have HN5 := Lib.hid hn5
              clear hown5 hg5 hob5 hn5 HO3 HN3 hs3 k3
              have hBw5 : Below w.heap.size w w5 := hB2.trans (k5.mono hB2.size)
              have Z1 := (k5.block w.heap.size (by omega)).trans HY1.out
              have Z3 := (k5.block (w.heap.size + 1 + 1) (by omega)).trans HY3.out
              obtain ⟨⟨z0, z1, z2⟩, zf⟩ := cells3 Z1
              obtain ⟨⟨y0, y1, y2⟩, yf⟩ := cells3 Z3
              have zf0 := zf 0
              have yf0 := yf 0
              have yf1 := yf 1
              have yf2 := yf 2
              have HZ1 := Lib.hid Z1
              have HZ3 := Lib.hid Z3
              have h5l : w.heap.size + 1 + 1 < w5.heap.size := by have := k5.size; omega
              have HK5 := Lib.hid k5
              clear zf yf Z1 Z3 k5
              refine wpG_one 7 1 rfl (by kernel_rfl) rfl ?_
              go_wp2
              refine Cont.mk ⟨fun _ => HSK.out _ HK5.out.block, ?_⟩
              refine wpG_one 8 0 rfl (by kernel_rfl) rfl ?_
              go_wp2
              refine Cont.mk ⟨fun h => absurd (by simp) h, ?_⟩
              refine wpG_done (by kernel_rfl) (NoPanic.normal ?_) _
              go_wp2_with fail
              obtain ⟨w6, hw6⟩ : ∃ w6, w6 = w5.setCell ⟨w.heap.size, 0, none⟩ (.slice A2 (r.l.length + 1) c2) := ⟨_, rfl⟩
              rw [← hw6]
              obtain ⟨w7, hw7⟩ : ∃ w7, w7 = ((w6.setCell ⟨w.heap.size + 1 + 1, 0, none⟩ (.slice A2 (r.l.length + 1) c2)).setCell ⟨w.heap.size + 1 + 1, 1, none⟩ (.int .i64 r.lv)).setCell ⟨w.heap.size + 1 + 1, 2, none⟩ (.slice B r.mods.length d) := ⟨_, rfl⟩
              rw [← hw7]
              have s6 : SameBut w.heap.size w5 w6 := by rw [hw6]; exact (SameBut.refl _ _).setCell 0 _
              obtain ⟨hx7, s7⟩ := block3 ((s6.block _ (by omega)).trans HZ3.out) _ _ _ hw7
              clear hw6 hw7
              refine bodyPost_ret (results_ref _ 4 5 Try.results31 _ _ _ _ _ _ _ rfl rfl hx7) rfl ?_
              exact TAIL.out w5 w6 w7 A2 c2 hBw5 HO5.out (fun b hb => by have := HN5.out b hb; omega) s6 s7
            · go_wp2
              have k4 : Below w2.heap.size w2 ((w2.alloc (.cells #[] 46)).alloc (.cells #[.string x.nm, .int .i64 x.kd, .int .i64 x.ty, .int .i64 r.lv, .int .i32 x.n, .int .i64 x.md, .bool x.out, .slice Ap x.ps.length cp] 46)).drew := (((Below.refl _ _).alloc (Nat.le_refl _) _).alloc (by simp) _).drew
              refine Cont.mk ⟨fun _ => HSK.out _ k4.block, ?_⟩
              refine wpG_one 3 3 rfl (by kernel_rfl) rfl ?_
              refine wpList_app ti28 rfl _ _ rfl (by rfl) ((own_empty w2 46 8).alloc _) (by rfl) cs hcl (HSRC.out _ k4.block) hone (by omega) ?_
              intro A1 c1 w3 hown3 hg3 hob3
              have k3 : Below w2.heap.size w2 w3 := k4.grown hg3 k4.size (fun b hb => by cases hb; simp)
              refine wpList_nil (Cont.mk ⟨fun _ => HSK.out _ k3.block, ?_⟩)
              have hown3' : w3.ownsRow 0 46 8 (.slice A1 r.l.length c1) r.l.length cs := by simpa using hown3
              have hn3 : ∀ b, (Value.slice A1 r.l.length c1).ownBlock = some b → w2.heap.size ≤ b := fun b hb => by
                rw [Nat.zero_add] at hob3
                rcases hob3 with h | h
                · rw [h] at hb; cases hb; simp
                · rw [h] at hb; injection hb with hb; simp at hb; omega
              have HO3 := Lib.hid hown3'
              have HN3 := Lib.hid hn3
              have hs3 := k3.size
              have hsr : w3.heap[w2.heap.size + 1]? = some (.cells #[.string x.nm, .int .i64 x.kd, .int .i64 x.ty, .int .i64 r.lv, .int .i32 x.n, .int .i64 x.md, .bool x.out, .slice Ap x.ps.length cp] 46) := (hg3.block _ (by simp) (by simp [Value.ownBlock])).trans (heap_alloc2_new w2 (.cells #[] 46) (.cells #[.string x.nm, .int .i64 x.kd, .int .i64 x.ty, .int .i64 r.lv, .int .i32 x.n, .int .i64 x.md, .bool x.out, .slice Ap x.ps.length cp] 46))
              clear hown3 hob3 hg3 hn3 hown3'
              simp only [Nat.zero_add]
              refine wpG_one 6 2 rfl (by kernel_rfl) rfl ?_
              refine wpList_app ti28 rfl _ _ rfl (by rfl) HO3.out (by rfl) [.string x.nm, .int .i64 x.kd, .int .i64 x.ty, .int .i64 r.lv, .int .i32 x.n, .int .i64 x.md, .bool x.out, .slice Ap x.ps.length cp] rfl (old_src hsr 1) (by simp [Value.oneCell']) (by omega) ?_
              intro A2 c2 w5 hown5 hg5 hob5
              have k5 : Below w2.heap.size w2 w5 := k3.grown hg5 (hs3) HN3.out
              have hn5 : ∀ b, (Value.slice A2 (r.l.length + 1) c2).ownBlock = some b → w2.heap.size ≤ b := fun b hb => by
                rcases hob5 with h | h
                · exact HN3.out b (h ▸ hb)
                · rw [h] at hb; injection hb with hb; have := hs3; (try simp at hb); omega
              refine wpList_nil (Cont.mk ⟨fun _ => HSK.out _ k5.block, ?_⟩)
              have HO5 := Lib.hid hown5
              have HN5 := Lib.hid hn5
              clear hown5 hg5 hob5 hn5 HO3 HN3 hs3 k3
              have hBw5 : Below w.heap.size w w5 := hB2.trans (k5.mono hB2.size)
              have Z1 := (k5.block w.heap.size (by omega)).trans HY1.out
              have Z3 := (k5.block (w.heap.size + 1 + 1) (by omega)).trans HY3.out
              obtain ⟨⟨z0, z1, z2⟩, zf⟩ := cells3 Z1
              obtain ⟨⟨y0, y1, y2⟩, yf⟩ := cells3 Z3
              have zf0 := zf 0
              have yf0 := yf 0
              have yf1 := yf 1
              have yf2 := yf 2
              have HZ1 := Lib.hid Z1
              have HZ3 := Lib.hid Z3
              have h5l : w.heap.size + 1 + 1 < w5.heap.size := by have := k5.size; omega
              have HK5 := Lib.hid k5
              clear zf yf Z1 Z3 k5
              refine wpG_one 7 1 rfl (by kernel_rfl) rfl ?_
              go_wp2
              refine Cont.mk ⟨fun _ => HSK.out _ HK5.out.block, ?_⟩
              refine wpG_one 8 0 rfl (by kernel_rfl) rfl ?_
              go_wp2
              refine Cont.mk ⟨fun h => absurd (by simp) h, ?_⟩
              refine wpG_done (by kernel_rfl) (NoPanic.normal ?_) _
              go_wp2_with fail
              obtain ⟨w6, hw6⟩ : ∃ w6, w6 = w5.setCell ⟨w.heap.size, 0, none⟩ (.slice A2 (r.l.length + 1) c2) := ⟨_, rfl⟩
              rw [← hw6]
              obtain ⟨w7, hw7⟩ : ∃ w7, w7 = ((w6.setCell ⟨w.heap.size + 1 + 1, 0, none⟩ (.slice A2 (r.l.length + 1) c2)).setCell ⟨w.heap.size + 1 + 1, 1, none⟩ (.int .i64 r.lv)).setCell ⟨w.heap.size + 1 + 1, 2, none⟩ (.slice B r.mods.length d) := ⟨_, rfl⟩
              rw [← hw7]
              have s6 : SameBut w.heap.size w5 w6 := by rw [hw6]; exact (SameBut.refl _ _).setCell 0 _
              obtain ⟨hx7, s7⟩ := block3 ((s6.block _ (by omega)).trans HZ3.out) _ _ _ hw7
              clear hw6 hw7
              refine bodyPost_ret (results_ref _ 4 5 Try.results31 _ _ _ _ _ _ _ rfl rfl hx7) rfl ?_
              exact TAIL.out w5 w6 w7 A2 c2 hBw5 HO5.out (fun b hb => by have := HN5.out b hb; omega) s6 s7
          · go_wp2
            have k2 : Below w2.heap.size w2 (w2.alloc (.cells #[.string x.nm, .int .i64 x.kd, .int .i64 x.ty, .int .i64 r.lv, .int .i32 x.n, .int .i64 x.md, .bool x.out, .slice Ap x.ps.length cp] 46)).drew := ((Below.refl _ _).alloc (Nat.le_refl _) _).drew
            refine Cont.mk ⟨fun _ => HSK.out _ k2.block, ?_⟩
            refine wpG_one 0 4 rfl (by kernel_rfl) rfl ?_
            go_wp2
            have k4 : Below w2.heap.size w2 ((w2.alloc (.cells #[.string x.nm, .int .i64 x.kd, .int .i64 x.ty, .int .i64 r.lv, .int .i32 x.n, .int .i64 x.md, .bool x.out, .slice Ap x.ps.length cp] 46)).alloc (.cells #[] 46)).drew := (((Below.refl _ _).alloc (Nat.le_refl _) _).alloc (by simp) _).drew
            refine Cont.mk ⟨fun _ => HSK.out _ k4.block, ?_⟩
            refine wpG_one 3 3 rfl (by kernel_rfl) rfl ?_
            refine wpList_app ti28 rfl _ _ rfl (by rfl) (own_empty_at (w2.alloc (.cells #[.string x.nm, .int .i64 x.kd, .int .i64 x.ty, .int .i64 r.lv, .int .i32 x.n, .int .i64 x.md, .bool x.out, .slice Ap x.ps.length cp] 46)) 46 8 _ (by simp)) (by rfl) cs hcl (HSRC.out _ k4.block) hone (by omega) ?_
            intro A1 c1 w3 hown3 hg3 hob3
            have k3 : Below w2.heap.size w2 w3 := k4.grown hg3 k4.size (fun b hb => by cases hb; simp)
            refine wpList_nil (Cont.mk ⟨fun _ => HSK.out _ k3.block, ?_⟩)
            have hown3' : w3.ownsRow 0 46 8 (.slice A1 r.l.length c1) r.l.length cs := by simpa using hown3
            have hn3 : ∀ b, (Value.slice A1 r.l.length c1).ownBlock = some b → w2.heap.size ≤ b := fun b hb => by
              rw [Nat.zero_add] at hob3
              rcases hob3 with h | h
              · rw [h] at hb; cases hb; simp
              · rw [h] at hb; injection hb with hb; simp at hb; omega
            have HO3 := Lib.hid hown3'
            have HN3 := Lib.hid hn3
            have hs3 := k3.size
            have hsr : w3.heap[w2.heap.size]? = some (.cells #[.string x.nm, .int .i64 x.kd, .int .i64 x.ty, .int .i64 r.lv, .int .i32 x.n, .int .i64 x.md, .bool x.out, .slice Ap x.ps.length cp] 46) := (hg3.block _ (by simp; omega) (by simp [Value.ownBlock])).trans (heap_alloc2_old w2 (.cells #[.string x.nm, .int .i64 x.kd, .int .i64 x.ty, .int .i64 r.lv, .int .i32 x.n, .int .i64 x.md, .bool x.out, .slice Ap x.ps.length cp] 46) (.cells #[] 46))
            clear hown3 hob3 hg3 hn3 hown3'
            simp only [Nat.zero_add]
            refine wpG_one 6 2 rfl (by kernel_rfl) rfl ?_
            refine wpList_app ti28 rfl _ _ rfl (by rfl) HO3.out (by rfl) [.string x.nm, .int .i64 x.kd, .int .i64 x.ty, .int .i64 r.lv, .int .i32 x.n, .int .i64 x.md, .bool x.out, .slice Ap x.ps.length cp] rfl (old_src hsr 1) (by simp [Value.oneCell']) (by omega) ?_
            intro A2 c2 w5 hown5 hg5 hob5
            have k5 : Below w2.heap.size w2 w5 := k3.grown hg5 (hs3) HN3.out
            have hn5 : ∀ b, (Value.slice A2 (r.l.length + 1) c2).ownBlock = some b → w2.heap.size ≤ b := fun b hb => by
              rcases hob5 with h | h
              · exact HN3.out b (h ▸ hb)
              · rw [h] at hb; injection hb with hb; have := hs3; (try simp at hb); omega
            refine wpList_nil (Cont.mk ⟨fun _ => HSK.out _ k5.block, ?_⟩)
            have HO5 := Lib.hid hown5
            have HN5 := Lib.hid hn5
            clear hown5 hg5 hob5 hn5 HO3 HN3 hs3 k3
            have hBw5 : Below w.heap.size w w5 := hB2.trans (k5.mono hB2.size)
            have Z1 := (k5.block w.heap.size (by omega)).trans HY1.out
            have Z3 := (k5.block (w.heap.size + 1 + 1) (by omega)).trans HY3.out
            obtain ⟨⟨z0, z1, z2⟩, zf⟩ := cells3 Z1
            obtain ⟨⟨y0, y1, y2⟩, yf⟩ := cells3 Z3
            have zf0 := zf 0
            have yf0 := yf 0
            have yf1 := yf 1
            have yf2 := yf 2
            have HZ1 := Lib.hid Z1
            have HZ3 := Lib.hid Z3
            have h5l : w.heap.size + 1 + 1 < w5.heap.size := by have := k5.size; omega
            have HK5 := Lib.hid k5
            clear zf yf Z1 Z3 k5
            refine wpG_one 7 1 rfl (by kernel_rfl) rfl ?_
            go_wp2
            refine Cont.mk ⟨fun _ => HSK.out _ HK5.out.block, ?_⟩
            refine wpG_one 8 0 rfl (by kernel_rfl) rfl ?_
            go_wp2
            refine Cont.mk ⟨fun h => absurd (by simp) h, ?_⟩
            refine wpG_done (by kernel_rfl) (NoPanic.normal ?_) _
            go_wp2_with fail
            obtain ⟨w6, hw6⟩ : ∃ w6, w6 = w5.setCell ⟨w.heap.size, 0, none⟩ (.slice A2 (r.l.length + 1) c2) := ⟨_, rfl⟩
            rw [← hw6]
            obtain ⟨w7, hw7⟩ : ∃ w7, w7 = ((w6.setCell ⟨w.heap.size + 1 + 1, 0, none⟩ (.slice A2 (r.l.length + 1) c2)).setCell ⟨w.heap.size + 1 + 1, 1, none⟩ (.int .i64 r.lv)).setCell ⟨w.heap.size + 1 + 1, 2, none⟩ (.slice B r.mods.length d) := ⟨_, rfl⟩
            rw [← hw7]
            have s6 : SameBut w.heap.size w5 w6 := by rw [hw6]; exact (SameBut.refl _ _).setCell 0 _
            obtain ⟨hx7, s7⟩ := block3 ((s6.block _ (by omega)).trans HZ3.out) _ _ _ hw7
            clear hw6 hw7
            refine bodyPost_ret (results_ref _ 4 5 Try.results31 _ _ _ _ _ _ _ rfl rfl hx7) rfl ?_
            exact TAIL.out w5 w6 w7 A2 c2 hBw5 HO5.out (fun b hb => by have := HN5.out b hb; omega) s6 s7
end Go.Proofs.Ytengenceelmijaa
