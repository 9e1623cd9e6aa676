import Derived.Test.YtkjfbjgcfkmhkaaDo
namespace Go.Proofs.Ytkjfbjgcfkmhkaa
open Go.RowKit
set_option linter.unusedVariables false
set_option linter.unusedSimpArgs false

section
variable {P : Program} {ops : Array Oper} {Q : Exit → Act → World → Prop} {S : World → Prop} {T : List Nat}
/-- One of two may come up. -/
theorem wpG_two {o o' : Oper} {n : Nat} {listed : Array Bool} {a : Act} {w : World} (i j fuel : Nat) (hf : n = fuel + 1) (hr : Region.ready .any ops listed = [i, j]) (ho : ops[i]? = some o) (ho' : ops[j]? = some o')
    (h : wpList P ops (Cont (fun a' w' => (i ∉ T → S w') ∧ wpG P ops Q S T fuel (listed.setIfInBounds i true) a' w') Q) [o] a w)
    (h' : wpList P ops (Cont (fun a' w' => (j ∉ T → S w') ∧ wpG P ops Q S T fuel (listed.setIfInBounds j true) a' w') Q) [o'] a w) :
    wpG P ops Q S T n listed a w := by
  subst hf
  have key : ∀ (k : Nat) (ok : Oper), ops[k]? = some ok → wpList P ops (Cont (fun a' w' => (k ∉ T → S w') ∧ wpG P ops Q S T fuel (listed.setIfInBounds k true) a' w') Q) [ok] a w →
      wpOp P ops Q k (fun a' w' => (k ∉ T → S w') ∧ wpG P ops Q S T fuel (listed.setIfInBounds k true) a' w') a w := by
    intro k ok hok h
    unfold wpOp
    simp only [hok]
    unfold wpList at h
    split at h
    · rename_i hw
      rw [if_pos hw]
      rcases h with h | ⟨h1, h2⟩
      · refine .inl ?_
        unfold Oper.wp at h ⊢
        generalize (execOp a.eval ok).run P w = r at *
        cases r with
        | ok n w' =>
          cases n <;> simp only [Oper.upon, wpList, Cont] at h ⊢ <;>
            first
              | exact h
              | exact Calls.mono h (fun e w'' he => by cases e <;> exact he)
        | halt x w' => cases x <;> simp only [Oper.upon, Cont] at h ⊢ <;> exact h
      · exact .inr ⟨h1, h2⟩
    · rename_i hw
      rw [if_neg hw]
      exact h
  refine ⟨fun h0 => (by rw [hr] at h0; cases h0), fun k hk => ?_⟩
  rw [hr] at hk
  rcases List.mem_cons.1 hk with rfl | hk
  · exact key _ _ ho h
  · obtain rfl : k = j := by simpa using hk
    exact key _ _ ho' h'
end
theorem old_src {w : World} {b : Nat} {cs : Array Value} {t : TypeId} (h : w.heap[b]? = some (.cells cs t (0, 0))) (m : Nat) : 0 < m → ∃ ad, some (⟨b, 0, none⟩ : Addr) = some ad ∧ ∀ (j : Nat) (u : Value), cs.toList[j]? = some u → w.cell? (ad.add j) = some u := fun _ => ⟨_, rfl, fun j u hu => by
  rw [add_zero_addr, cell_of_row w b (0 + j) cs t (0, 0) h, Nat.zero_add]
  simpa using hu⟩

theorem f34_any (x : Int) (w : World) : Calls Try.prog 34 #[.int .i64 x] w fun e w' => e = .returned (.bool (farB x)) ∧ w = w' := by
  unfold farB
  by_cases h : (1099511627776 : Int) < x
  · go_enter Try.func34, Try.ntmps34
    go_wp2
    go_ret
    exact ⟨by simp [h], rfl⟩
  · by_cases h2 : x < -1099511627776
    · go_enter Try.func34, Try.ntmps34
      go_wp2
      go_ret
      exact ⟨by simp [h2], rfl⟩
    · go_enter Try.func34, Try.ntmps34
      go_wp2
      go_ret
      exact ⟨by simp [h, h2], rfl⟩
theorem results_ref (fn : Func) (r t : Nat) (hr : fn.results = #[.cell r 28, .tmp t]) (tmps : Array Value) (w : World) (g : Nat) (c0 c1 c2 c3 c4 c5 c6 u : Value) (hp : tmps.getD r undef = .pointer (some ⟨g, 0, none⟩)) (ht : tmps.getD t undef = u)
    (hg : w.heap[g]? = some (.cells #[c0, c1, c2, c3, c4, c5, c6] 28 (0, 0))) :
    (results fn tmps).run Try.prog w = .ok (.tuple #[.agg #[c0, c1, c2, c3, c4, c5, c6], u]) w := by
  have hp' : tmps[r]?.getD undef = .pointer (some ⟨g, 0, none⟩) := by simpa using hp
  have ht' : tmps[t]?.getD undef = u := by simpa using ht
  obtain ⟨⟨h0, h1, h2, h3, h4, h5, h6⟩, _⟩ := cells7 hg
  simp [results, hr, hp', ht', asAddr, go_sem, h0, h1, h2, h3, h4, h5, h6]
def zero7 : Array Value := #[.int .i64 0, .int .i64 0, .int .i64 0, .int .i64 0, .int .i64 0, .bool false, .slice none 0 0]
theorem f10_any (w : World) : Calls Try.prog 10 #[] w fun e w' => e = .returned (refV st0 (.slice none 0 0)) ∧ Below w.heap.size w w' := by
  go_enter Try.func10, Try.ntmps10
  go_wp2
  refine bodyPost_ret (v := refV st0 (.slice none 0 0)) (by simp [results, Try.results10, go_sem, refV, st0]) rfl ⟨rfl, (Below.refl _ _).alloc (Nat.le_refl _) _⟩


def skc (k : Sk) : List Value := [.int .i64 k.x, .int .i64 k.y, .int .i64 k.u, .int .i64 k.v]
theorem skc_len (k : Sk) : (skc k).length = 4 := rfl
theorem add_block (a : Addr) (j : Nat) : (a.add j).block = a.block := by unfold Addr.add; split <;> rfl
theorem ESk_iff {w : World} {b o : Nat} {k : Sk} : ESk w b o k ↔ ∀ (r : Nat) (u : Value), (skc k)[r]? = some u → w.cell? ⟨b, o + r, none⟩ = some u := by
  constructor
  · rintro ⟨h0, h1, h2, h3⟩ r u hu
    match r, hu with
    | 0, hu => simp [skc] at hu; subst hu; exact h0
    | 1, hu => simp [skc] at hu; subst hu; exact h1
    | 2, hu => simp [skc] at hu; subst hu; exact h2
    | 3, hu => simp [skc] at hu; subst hu; exact h3
    | n + 4, hu => simp [skc] at hu
  · intro h
    exact ⟨h 0 _ rfl, h 1 _ rfl, h 2 _ rfl, h 3 _ rfl⟩
theorem SkR.src {F : List Nat} {w : World} {A : Option Addr} {c : Nat} {l : List Sk} (h : SkR F w (.slice A l.length c) l) :
    0 < l.length → ∃ ad, A = some ad ∧ ad.block < w.heap.size ∧ ∀ (j : Nat) (u : Value), (l.flatMap skc)[j]? = some u → w.cell? (ad.add j) = some u := by
  intro h0
  obtain ⟨_, A', c', he, _, hx⟩ := h
  injection he with he _ _
  subst he
  obtain ⟨b, o, rfl, hg, hx⟩ := hx (by rintro rfl; simp at h0)
  exact ⟨_, rfl, hg.1, flat_from (by decide) skc_len fun i x hi r u hu => ESk_iff.1 (hx i x hi) r u hu⟩
theorem SkR.of_own {F : List Nat} {w : World} {v : Value} {l : List Sk} (h : w.ownsRow 0 70 4 v l.length (l.flatMap skc)) (hF : ∀ b, v.ownBlock = some b → b ∉ F) (hl : l.length ≤ 4194304) : SkR F w v l := by
  obtain ⟨A, c, rfl, hc, hx⟩ := own_cells h
  refine ⟨hl, A, c, rfl, hc, fun hne => ?_⟩
  obtain ⟨g, rfl, hb, hg, hx⟩ := hx (List.length_pos_iff.2 hne)
  refine ⟨g, 0, rfl, ⟨hg, hF g hb⟩, fun i x hi => ESk_iff.2 fun r u hu => ?_⟩
  have hr : r < 4 := by have := (List.getElem?_eq_some_iff.1 hu).1; rwa [skc_len] at this
  rw [Nat.zero_add]
  exact hx _ u (by rw [flat_at (by decide) skc_len hi hr]; exact hu)
theorem skc_one (l : List Sk) : ∀ u ∈ l.flatMap skc, u.oneCell' = true := by
  intro u hu
  obtain ⟨p, _, hp⟩ := List.mem_flatMap.1 hu
  simp [skc] at hp
  rcases hp with rfl | rfl | rfl | rfl <;> rfl
theorem info70 : (Try.prog.info? 70).map (fun i => (i.zero, i.size, i.bytes)) = some (some (.agg #[.int .i64 0, .int .i64 0, .int .i64 0, .int .i64 0]), 4, 32) := by kernel_rfl
theorem ti26 : TI Try.prog 26 70 (.agg #[.int .i64 0, .int .i64 0, .int .i64 0, .int .i64 0]) 4 32 := ⟨Try.underlying26, info70, rfl, by decide, by decide⟩
theorem sk_at {F : List Nat} {w : World} {v : Value} {l : List Sk} (h : SkR F w v l) : ∃ A c, v = .slice A l.length c ∧ l.length ≤ c ∧ l.length ≤ 4194304 ∧ ∀ i x, l[i]? = some x → ∃ b o, A = some ⟨b, o, none⟩ ∧ Good F w b ∧ ESk w b (o + i * 4) x := by
  obtain ⟨hl, A, c, rfl, hc, hx⟩ := h
  refine ⟨A, c, rfl, hc, hl, fun i x hi => ?_⟩
  obtain ⟨b, o, rfl, hb, h⟩ := hx (by rintro rfl; simp at hi)
  exact ⟨b, o, rfl, hb, h i x hi⟩

theorem own_empty_at (w : World) (t : TypeId) (sz n : Nat) (hn : n = w.heap.size) : (w.alloc (.cells #[] t)).ownsRow 0 t sz (.slice (some ⟨n, 0, none⟩) 0 0) 0 [] := by
  subst hn; exact own_empty w t sz
/-- The seven cells of a turtle of the document's, written over another's. -/
theorem block7 {w w' : World} {g : Nat} {c0 c1 c2 c3 c4 c5 c6 : Value} (hg : w.heap[g]? = some (.cells #[c0, c1, c2, c3, c4, c5, c6] 28 (0, 0))) (v0 v1 v2 v3 v4 v5 v6 : Value)
    (hw : w' = ((((((w.setCell ⟨g, 0, none⟩ v0).setCell ⟨g, 1, none⟩ v1).setCell ⟨g, 2, none⟩ v2).setCell ⟨g, 3, none⟩ v3).setCell ⟨g, 4, none⟩ v4).setCell ⟨g, 5, none⟩ v5).setCell ⟨g, 6, none⟩ v6) :
    w'.heap[g]? = some (.cells #[v0, v1, v2, v3, v4, v5, v6] 28 (0, 0)) ∧ ∀ B, B ≤ g → Below B w w' := by
  subst hw
  have h0 := heap_setCell_same w g 0 _ 28 v0 hg
  have h1 := heap_setCell_same _ g 1 _ 28 v1 h0
  have h2 := heap_setCell_same _ g 2 _ 28 v2 h1
  have h3 := heap_setCell_same _ g 3 _ 28 v3 h2
  have h4 := heap_setCell_same _ g 4 _ 28 v4 h3
  have h5 := heap_setCell_same _ g 5 _ 28 v5 h4
  have h6 := heap_setCell_same _ g 6 _ 28 v6 h5
  exact ⟨by simpa using h6, fun B hB => ((((((((Below.refl B w).setCell (p := ⟨g, 0, none⟩) hB _).setCell (p := ⟨g, 1, none⟩) hB _).setCell (p := ⟨g, 2, none⟩) hB _).setCell (p := ⟨g, 3, none⟩) hB _).setCell (p := ⟨g, 4, none⟩) hB _).setCell (p := ⟨g, 5, none⟩) hB _).setCell (p := ⟨g, 6, none⟩) hB _)⟩

def RefPost (F : List Nat) (w : World) (q : St × Int) (e : Ending) (w' : World) : Prop := ∃ lv, e = .returned (.tuple #[refV q.1 lv, .int .i64 q.2]) ∧ Below w.heap.size w w' ∧ SkR F w' lv q.1.l

set_option maxHeartbeats 2000000 in
theorem f26_any {F : List Nat} {w : World} {s : St} {lv : Value} {x y : Int} (h : SkR F w lv s.l) (hF : ∀ b ∈ F, b < w.heap.size) (hl : s.l.length ≤ 1000000) :
    Calls Try.prog 26 #[refV s lv, .int .i64 x, .int .i64 y] w (RefPost F w (moveT s x y)) := by
  have hR := h
  obtain ⟨A, c, rfl, hc, _, _⟩ := sk_at h
  obtain ⟨W, hW⟩ : ∃ W, W = (w.alloc (.cells #[.int .i64 s.x, .int .i64 s.y, .int .i64 s.dx, .int .i64 s.dy, .int .i64 s.step, .bool s.down, .slice A s.l.length c] 28)).alloc (.cells #[.int .i64 0, .int .i64 0, .int .i64 0, .int .i64 0, .int .i64 0, .bool false, .slice none 0 0] 28) := ⟨_, rfl⟩
  have hBW : Below w.heap.size w W := by rw [hW]; exact ((Below.refl _ _).alloc (Nat.le_refl _) _).alloc (by simp) _
  have hX : W.heap[w.heap.size]? = some (.cells #[.int .i64 s.x, .int .i64 s.y, .int .i64 s.dx, .int .i64 s.dy, .int .i64 s.step, .bool s.down, .slice A s.l.length c] 28 (0, 0)) := by rw [hW]; exact heap_alloc2_old w _ _
  have hY : W.heap[w.heap.size + 1]? = some (.cells #[.int .i64 0, .int .i64 0, .int .i64 0, .int .i64 0, .int .i64 0, .bool false, .slice none 0 0] 28 (0, 0)) := by rw [hW]; exact heap_alloc2_new w _ _
  obtain ⟨⟨x0, x1, x2, x3, x4, x5, x6⟩, xf⟩ := cells7 hX
  obtain ⟨⟨y0, y1, y2, y3, y4, y5, y6⟩, yf⟩ := cells7 hY
  have xf0 := xf 0
  have xf1 := xf 1
  have xf6 := xf 6
  have yf0 := yf 0
  have yf1 := yf 1
  have yf2 := yf 2
  have yf3 := yf 3
  have yf4 := yf 4
  have yf5 := yf 5
  have yf6 := yf 6
  have hWs : W.heap.size = w.heap.size + 1 + 1 := by rw [hW]; simp
  have hlt : w.heap.size + 1 < W.heap.size := by omega
  have HW := Lib.hid hW
  have HBW := Lib.hid hBW
  have HX := Lib.hid hX
  have HY := Lib.hid hY
  have HR := Lib.hid hR
  have HWs := Lib.hid hWs
  have HF := Lib.hid hF
  clear hW hBW hX hY hR h xf yf hWs hF
  obtain ⟨g, hg⟩ : ∃ g, g = w.heap.size := ⟨_, rfl⟩
  rw [← hg] at x0 x1 x2 x3 x4 x5 x6 y0 y1 y2 y3 y4 y5 y6 xf0 xf1 xf6 yf0 yf1 yf2 yf3 yf4 yf5 yf6 hlt HX HY HWs
  have HG := Lib.hid hg
  clear hg
  have HC := Lib.hid (fun n w => f34_any n w)
  cases hfar : farB x || farB y with
  | true =>
    have hm : moveT s x y = (s, 90) := by unfold moveT; rw [hfar, if_pos rfl]
    rw [hm]
    have fin : ∀ W', W' = ((((((W.setCell ⟨g + 1, 0, none⟩ (.int .i64 s.x)).setCell ⟨g + 1, 1, none⟩ (.int .i64 s.y)).setCell ⟨g + 1, 2, none⟩ (.int .i64 s.dx)).setCell ⟨g + 1, 3, none⟩ (.int .i64 s.dy)).setCell ⟨g + 1, 4, none⟩ (.int .i64 s.step)).setCell ⟨g + 1, 5, none⟩ (.bool s.down)).setCell ⟨g + 1, 6, none⟩ (.slice A s.l.length c) →
        W'.heap[g + 1]? = some (.cells #[.int .i64 s.x, .int .i64 s.y, .int .i64 s.dx, .int .i64 s.dy, .int .i64 s.step, .bool s.down, .slice A s.l.length c] 28 (0, 0)) ∧ RefPost F w (s, 90) (.returned (.tuple #[refV s (.slice A s.l.length c), .int .i64 90])) W' := fun W' hW' => by
      obtain ⟨h1, h2⟩ := block7 HY.out _ _ _ _ _ _ _ hW'
      have hB : Below w.heap.size w W' := HBW.out.trans (h2 _ (by rw [HG.out]; omega))
      exact ⟨h1, _, rfl, hB, HR.out.keep (Fr.of_below hB)⟩
    have FIN := Lib.hid fin
    clear fin hm
    rcases hfx : farB x with _ | _
    all_goals
      rw [hfx] at hfar
      have h1 := HC.out x
      rw [hfx] at h1
      have H1 := Lib.hid h1
      try rw [Bool.false_or] at hfar
      have h2 := HC.out y
      try rw [hfar] at h2
      have H2 := Lib.hid h2
      clear h1 h2 hfx hfar
      unfold refV
      go_enter Try.func26, Try.ntmps26
      go_wp2_with fail
      rw [← HW.out, ← HG.out]
      refine (H1.out _).mono ?_
      rintro e w' ⟨rfl, rfl⟩
      go_wp2_with (go_at_call 34; refine (H2.out _).mono ?_; rintro e w' ⟨rfl, rfl⟩)
      obtain ⟨W', hW'⟩ : ∃ W', W' = ((((((W.setCell ⟨g + 1, 0, none⟩ (.int .i64 s.x)).setCell ⟨g + 1, 1, none⟩ (.int .i64 s.y)).setCell ⟨g + 1, 2, none⟩ (.int .i64 s.dx)).setCell ⟨g + 1, 3, none⟩ (.int .i64 s.dy)).setCell ⟨g + 1, 4, none⟩ (.int .i64 s.step)).setCell ⟨g + 1, 5, none⟩ (.bool s.down)).setCell ⟨g + 1, 6, none⟩ (.slice A s.l.length c) := ⟨_, rfl⟩
      rw [← hW']
      obtain ⟨q1, q2⟩ := FIN.out W' hW'
      exact bodyPost_ret (results_ref _ 6 7 Try.results26 _ _ _ _ _ _ _ _ _ _ _ rfl rfl q1) rfl q2
  | false =>
    rw [Bool.or_eq_false_iff] at hfar
    have h1 := HC.out x
    have h2 := HC.out y
    rw [hfar.1] at h1
    rw [hfar.2] at h2
    have H1 := Lib.hid h1
    have H2 := Lib.hid h2
    have hfr : (farB x || farB y) = false := by rw [hfar.1, hfar.2]; rfl
    clear h1 h2 hfar
    cases hmv : s.down && (decide (x ≠ s.x) || decide (y ≠ s.y)) with
    | false =>
      have hm : moveT s x y = ({ s with x := x, y := y, l := s.l }, 0) := by unfold moveT; rw [hfr, if_neg (by simp), hmv]; rfl
      rw [hm]
      have fin : ∀ W', W' = (((((((((W.setCell ⟨g, 0, none⟩ (.int .i64 x)).setCell ⟨g, 1, none⟩ (.int .i64 y)).setCell ⟨g + 1, 0, none⟩ (.int .i64 x)).setCell ⟨g + 1, 1, none⟩ (.int .i64 y)).setCell ⟨g + 1, 2, none⟩ (.int .i64 s.dx)).setCell ⟨g + 1, 3, none⟩ (.int .i64 s.dy)).setCell ⟨g + 1, 4, none⟩ (.int .i64 s.step)).setCell ⟨g + 1, 5, none⟩ (.bool s.down))).setCell ⟨g + 1, 6, none⟩ (.slice A s.l.length c) →
          W'.heap[g + 1]? = some (.cells #[.int .i64 x, .int .i64 y, .int .i64 s.dx, .int .i64 s.dy, .int .i64 s.step, .bool s.down, .slice A s.l.length c] 28 (0, 0)) ∧ RefPost F w ({ s with x := x, y := y, l := s.l }, 0) (.returned (.tuple #[refV { s with x := x, y := y, l := s.l } (.slice A s.l.length c), .int .i64 0])) W' := fun W' hW' => by
        have hy2 : ((W.setCell ⟨g, 0, none⟩ (.int .i64 x)).setCell ⟨g, 1, none⟩ (.int .i64 y)).heap[g + 1]? = _ := ((Below.heap_setCell _ _ _ _ (by show g + 1 ≠ g; omega)).trans (Below.heap_setCell _ _ _ _ (by show g + 1 ≠ g; omega))).trans HY.out
        obtain ⟨h1, h2⟩ := block7 hy2 _ _ _ _ _ _ _ hW'
        have hgw : w.heap.size ≤ g := by rw [HG.out]; omega
        have hB0 := ((HBW.out.setCell (p := ⟨g, 0, none⟩) hgw (.int .i64 x)).setCell (p := ⟨g, 1, none⟩) hgw (.int .i64 y))
        have hB : Below w.heap.size w W' := hB0.trans (h2 _ (by omega))
        exact ⟨h1, _, rfl, hB, HR.out.keep (Fr.of_below hB)⟩
      have FIN := Lib.hid fin
      clear fin hm hfr
      unfold refV
      rcases hdn : s.down with _ | _
      · rw [hdn] at x5 FIN HW
        clear hmv hdn
        go_enter Try.func26, Try.ntmps26
        go_wp2_with fail
        rw [← HW.out, ← HG.out]
        refine (H1.out _).mono ?_
        rintro e w' ⟨rfl, rfl⟩
        go_wp2_with (go_at_call 34; refine (H2.out _).mono ?_; rintro e w' ⟨rfl, rfl⟩)
        obtain ⟨W', hW'⟩ : ∃ W', W' = (((((((((W.setCell ⟨g, 0, none⟩ (.int .i64 x)).setCell ⟨g, 1, none⟩ (.int .i64 y)).setCell ⟨g + 1, 0, none⟩ (.int .i64 x)).setCell ⟨g + 1, 1, none⟩ (.int .i64 y)).setCell ⟨g + 1, 2, none⟩ (.int .i64 s.dx)).setCell ⟨g + 1, 3, none⟩ (.int .i64 s.dy)).setCell ⟨g + 1, 4, none⟩ (.int .i64 s.step)).setCell ⟨g + 1, 5, none⟩ (.bool false))).setCell ⟨g + 1, 6, none⟩ (.slice A s.l.length c) := ⟨_, rfl⟩
        rw [← hW']
        obtain ⟨q1, q2⟩ := FIN.out W' hW'
        exact bodyPost_ret (results_ref _ 6 7 Try.results26 _ _ _ _ _ _ _ _ _ _ _ rfl rfl q1) rfl q2
      · rw [hdn] at x5 FIN hmv HW
        rw [Bool.true_and, Bool.or_eq_false_iff] at hmv
        have e1 : (x != s.x) = false := by simpa using hmv.1
        have e2 : (y != s.y) = false := by simpa using hmv.2
        clear hmv hdn
        go_enter Try.func26, Try.ntmps26
        go_wp2_with fail
        rw [← HW.out, ← HG.out]
        refine (H1.out _).mono ?_
        rintro e w' ⟨rfl, rfl⟩
        go_wp2_with (go_at_call 34; refine (H2.out _).mono ?_; rintro e w' ⟨rfl, rfl⟩)
        obtain ⟨W', hW'⟩ : ∃ W', W' = (((((((((W.setCell ⟨g, 0, none⟩ (.int .i64 x)).setCell ⟨g, 1, none⟩ (.int .i64 y)).setCell ⟨g + 1, 0, none⟩ (.int .i64 x)).setCell ⟨g + 1, 1, none⟩ (.int .i64 y)).setCell ⟨g + 1, 2, none⟩ (.int .i64 s.dx)).setCell ⟨g + 1, 3, none⟩ (.int .i64 s.dy)).setCell ⟨g + 1, 4, none⟩ (.int .i64 s.step)).setCell ⟨g + 1, 5, none⟩ (.bool true))).setCell ⟨g + 1, 6, none⟩ (.slice A s.l.length c) := ⟨_, rfl⟩
        rw [← hW']
        obtain ⟨q1, q2⟩ := FIN.out W' hW'
        exact bodyPost_ret (results_ref _ 6 7 Try.results26 _ _ _ _ _ _ _ _ _ _ _ rfl rfl q1) rfl q2
    | true =>
      have hm : moveT s x y = ({ s with x := x, y := y, l := s.l ++ [⟨s.x, s.y, x, y⟩] }, 0) := by unfold moveT; rw [hfr, if_neg (by simp), hmv]; rfl
      rw [hm]
      rw [Bool.and_eq_true] at hmv
      obtain ⟨hdn, hmv⟩ := hmv
      rw [hdn] at x5 HW HX
      have hsrc : ∀ w' : World, (∀ b, b < W.heap.size → w'.heap[b]? = W.heap[b]?) → 0 < s.l.length → ∃ ad, A = some ad ∧ ∀ (j : Nat) (u : Value), (s.l.flatMap skc)[j]? = some u → w'.cell? (ad.add j) = some u := fun w' hk h0 => by
        obtain ⟨ad, e, hb, hc⟩ := HR.out.src h0
        have := HBW.out.size
        exact ⟨ad, e, fun j u hu => (World.cell?_of_block (a := ad.add j) (by rw [add_block]; exact (hk _ (by omega)).trans (HBW.out.block _ hb))).trans (hc j u hu)⟩
      have hsk : ∀ w' : World, (∀ b, b < W.heap.size → w'.heap[b]? = W.heap[b]?) → (w'.cell? ⟨g, 0, none⟩ = some (.int .i64 s.x) ∧ w'.cell? ⟨g, 1, none⟩ = some (.int .i64 s.y) ∧ w'.cell? ⟨g, 6, none⟩ = some (.slice A s.l.length c)) := fun w' hk => by
        have k := fun o => World.cell?_of_block (w := W) (w' := w') (a := ⟨g, o, none⟩) (hk g (by omega))
        exact ⟨(k 0).trans x0, (k 1).trans x1, (k 6).trans x6⟩
      have htail : ∀ (w5 : World) (A2 : Option Addr) (c2 : Nat), Below W.heap.size W w5 → w5.ownsRow 0 70 4 (.slice A2 (s.l.length + 1) c2) (s.l.length + 1) (s.l.flatMap skc ++ skc ⟨s.x, s.y, x, y⟩) → (∀ b, (Value.slice A2 (s.l.length + 1) c2).ownBlock = some b → W.heap.size ≤ b) →
          ∀ W', W' = (((((((((w5.setCell ⟨g, 6, none⟩ (.slice A2 (s.l.length + 1) c2)).setCell ⟨g, 0, none⟩ (.int .i64 x)).setCell ⟨g, 1, none⟩ (.int .i64 y)).setCell ⟨g + 1, 0, none⟩ (.int .i64 x)).setCell ⟨g + 1, 1, none⟩ (.int .i64 y)).setCell ⟨g + 1, 2, none⟩ (.int .i64 s.dx)).setCell ⟨g + 1, 3, none⟩ (.int .i64 s.dy)).setCell ⟨g + 1, 4, none⟩ (.int .i64 s.step)).setCell ⟨g + 1, 5, none⟩ (.bool true)).setCell ⟨g + 1, 6, none⟩ (.slice A2 (s.l.length + 1) c2) →
          W'.heap[g + 1]? = some (.cells #[.int .i64 x, .int .i64 y, .int .i64 s.dx, .int .i64 s.dy, .int .i64 s.step, .bool true, .slice A2 (s.l.length + 1) c2] 28 (0, 0)) ∧ RefPost F w ({ s with x := x, y := y, down := true, l := s.l ++ [⟨s.x, s.y, x, y⟩] }, 0) (.returned (.tuple #[refV { s with x := x, y := y, down := true, l := s.l ++ [⟨s.x, s.y, x, y⟩] } (.slice A2 (s.l.length + 1) c2), .int .i64 0])) W' := by
        intro w5 A2 c2 k5 hown hn W' hW'
        have hgw : w.heap.size ≤ g := by rw [HG.out]; omega
        have hy2 : (((w5.setCell ⟨g, 6, none⟩ (.slice A2 (s.l.length + 1) c2)).setCell ⟨g, 0, none⟩ (.int .i64 x)).setCell ⟨g, 1, none⟩ (.int .i64 y)).heap[g + 1]? = _ := ((Below.heap_setCell _ _ _ _ (by show g + 1 ≠ g; omega)).trans ((Below.heap_setCell _ _ _ _ (by show g + 1 ≠ g; omega)).trans ((Below.heap_setCell _ _ _ _ (by show g + 1 ≠ g; omega)).trans (k5.block _ hlt)))).trans HY.out
        obtain ⟨h1, h2⟩ := block7 hy2 _ _ _ _ _ _ _ hW'
        have hB5 : Below w.heap.size w w5 := HBW.out.trans (k5.mono HBW.out.size)
        have hB : Below w.heap.size w W' := (((hB5.setCell (p := ⟨g, 6, none⟩) hgw _).setCell (p := ⟨g, 0, none⟩) hgw _).setCell (p := ⟨g, 1, none⟩) hgw _).trans (h2 _ (by omega))
        have hk : ∀ b, b ≠ g → b ≠ g + 1 → W'.heap[b]? = w5.heap[b]? := fun b hb hb1 => by
          rw [hW']
          iterate 10 (refine (Below.heap_setCell _ _ _ _ (by first | exact hb | exact hb1)).trans ?_)
          rfl
        refine ⟨h1, _, rfl, hB, SkR.of_own (by show W'.ownsRow 0 70 4 _ (s.l ++ [(⟨s.x, s.y, x, y⟩ : Sk)]).length ((s.l ++ [(⟨s.x, s.y, x, y⟩ : Sk)]).flatMap skc); rw [List.length_append, List.flatMap_append]; exact ownsRow_same (by simpa using hown) fun b hb => hk b (by have := hn b hb; omega) (by have := hn b hb; omega)) (fun b hb hm => ?_) (by simp; omega)⟩
        have := hn b hb
        have := HF.out b hm
        omega
      have HSRC := Lib.hid hsrc
      have HSK := Lib.hid hsk
      have HTL := Lib.hid htail
      clear hm hfr hsrc hsk htail
      unfold refV
      rw [hdn]
      rcases hd1 : decide (x ≠ s.x) with _ | _
      all_goals
        rw [hd1] at hmv
        have e1 := hd1
        try (rw [Bool.false_or] at hmv; have e2 : (y != s.y) = true := by simpa using hmv)
        try (have e1 : (x != s.x) = false := by simpa using hd1)
        try (have e1 : (x != s.x) = true := by simpa using hd1)
        clear hd1 hmv
        go_enter Try.func26, Try.ntmps26
        go_wp2_with fail
        rw [← HW.out, ← HG.out]
        refine (H1.out _).mono ?_
        rintro e w' ⟨rfl, rfl⟩
        go_wp2_with (go_at_call 34; refine (H2.out _).mono ?_; rintro e w' ⟨rfl, rfl⟩)
        refine wp_region_G (fun w' => w'.cell? ⟨g, 0, none⟩ = some (.int .i64 s.x) ∧ w'.cell? ⟨g, 1, none⟩ = some (.int .i64 s.y) ∧ w'.cell? ⟨g, 6, none⟩ = some (.slice A s.l.length c)) [14] (by kernel_rfl) ?_
        have hS : W.drew.cell? ⟨g, 0, none⟩ = some (.int .i64 s.x) ∧ W.drew.cell? ⟨g, 1, none⟩ = some (.int .i64 s.y) ∧ W.drew.cell? ⟨g, 6, none⟩ = some (.slice A s.l.length c) := ⟨x0, x1, x6⟩
        refine wpG_range 1 2 13 (by kernel_rfl) rfl (by kernel_rfl) (by decide) hS (fun K hK => ?_)
        simp only [List.drop_succ_cons, List.drop_zero, List.take_succ_cons, List.take_zero]
        iterate 2 (refine wpPure_plain (v := ?_) rfl (fun y hy => ?_) ?_; rotate_left; (obtain ⟨h0, h1, h2⟩ := hy; go_simp; rfl))
        refine wpPure_nil ?_
        go_simp
        refine hK _ ?_
        clear hK K
        refine wpG_range 4 7 6 (by kernel_rfl) rfl (by kernel_rfl) (by decide) hS (fun K hK => ?_)
        simp only [List.drop_succ_cons, List.drop_zero, List.take_succ_cons, List.take_zero]
        iterate 7 (refine wpPure_plain (v := ?_) rfl (fun y hy => ?_) ?_; rotate_left; (obtain ⟨h0, h1, h2⟩ := hy; go_simp; rfl))
        refine wpPure_nil ?_
        go_simp
        refine hK _ ?_
        clear hK K hS
        refine wpG_two 0 11 5 rfl (by kernel_rfl) rfl rfl ?_ ?_
        · go_wp2
          have k2 : Below W.heap.size W (W.alloc (.cells #[] 70)).drew := ((Below.refl _ _).alloc (Nat.le_refl _) _).drew
          refine Cont.mk ⟨fun _ => HSK.out _ k2.block, ?_⟩
          refine wpG_two 3 11 4 rfl (by kernel_rfl) rfl rfl ?_ ?_
          · refine wpList_app ti26 rfl _ _ rfl (by rfl) (own_empty _ _ _) (by rfl) (s.l.flatMap skc) (flat_len skc_len s.l) (HSRC.out _ k2.block) (skc_one s.l) (by omega) ?_
            intro A1 c1 w3 hown3 hg3 hob3
            have k3 : Below W.heap.size W w3 := k2.grown hg3 k2.size (fun b hb => by cases hb; simp)
            refine wpList_nil (Cont.mk ⟨fun _ => HSK.out _ k3.block, ?_⟩)
            have hown3' : w3.ownsRow 0 70 4 (.slice A1 s.l.length c1) s.l.length (s.l.flatMap skc) := by simpa using hown3
            have hn3 : ∀ b, (Value.slice A1 s.l.length c1).ownBlock = some b → W.heap.size ≤ b := fun b hb => by
              rw [Nat.zero_add] at hob3
              rcases hob3 with h | h
              · rw [h] at hb; cases hb; simp
              · rw [h] at hb; injection hb with hb; simp at hb; omega
            have HO3 := Lib.hid hown3'
            have HN3 := Lib.hid hn3
            have hs3 := k3.size
            clear hown3 hob3 hg3 hn3 hown3'
            simp only [Nat.zero_add]
            refine wpG_one 11 3 rfl (by kernel_rfl) rfl ?_
            go_wp2
            have k4 : Below W.heap.size W (w3.alloc (.cells #[.int .i64 s.x, .int .i64 s.y, .int .i64 x, .int .i64 y] 70)) := k3.alloc hs3 _
            refine Cont.mk ⟨fun _ => HSK.out _ k4.block, ?_⟩
            refine wpG_one 12 2 rfl (by kernel_rfl) rfl ?_
            refine wpList_app ti26 rfl _ _ rfl (by rfl) (HO3.out.alloc _) (by rfl) (skc ⟨s.x, s.y, x, y⟩) rfl (new_src w3 #[.int .i64 s.x, .int .i64 s.y, .int .i64 x, .int .i64 y] 70 (0, 0) 1) (by simp [skc, Value.oneCell']) (by omega) ?_
            intro A2 c2 w5 hown5 hg5 hob5
            have k5 : Below W.heap.size W w5 := k4.grown hg5 (by simp; omega) HN3.out
            have hn5 : ∀ b, (Value.slice A2 (s.l.length + 1) c2).ownBlock = some b → W.heap.size ≤ b := fun b hb => by
              rcases hob5 with h | h
              · exact HN3.out b (h ▸ hb)
              · rw [h] at hb; injection hb with hb; (try simp at hb); omega
            refine wpList_nil (Cont.mk ⟨fun _ => HSK.out _ k5.block, ?_⟩)
            have HO5 := Lib.hid hown5
            have HN5 := Lib.hid hn5
            have HK5 := Lib.hid k5
            clear k4 k5
            clear hg5 hob5 HO3 HN3 hs3 k3 hown5 hn5
            obtain ⟨⟨z0, z1, z2, z3, z4, z5, z6⟩, zf⟩ := cells7 ((HK5.out.block g (by omega)).trans HX.out)
            obtain ⟨⟨r0, r1, r2, r3, r4, r5, r6⟩, rf⟩ := cells7 ((HK5.out.block (g + 1) hlt).trans HY.out)
            have zf0 := zf 0
            have zf1 := zf 1
            have zf6 := zf 6
            have rf0 := rf 0
            have rf1 := rf 1
            have rf2 := rf 2
            have rf3 := rf 3
            have rf4 := rf 4
            have rf5 := rf 5
            have rf6 := rf 6
            have h5l : g + 1 < w5.heap.size := by have := HK5.out.size; omega
            clear zf rf
            refine wpG_one 13 1 rfl (by kernel_rfl) rfl ?_
            go_wp2
            refine Cont.mk ⟨fun _ => HSK.out _ HK5.out.block, ?_⟩
            refine wpG_one 14 0 rfl (by kernel_rfl) rfl ?_
            go_wp2
            refine Cont.mk ⟨fun h => absurd (by simp) h, ?_⟩
            refine wpG_done (by kernel_rfl) (NoPanic.normal ?_) _
            go_wp2_with fail
            obtain ⟨W', hW'⟩ : ∃ W', W' = (((((((((w5.setCell ⟨g, 6, none⟩ (.slice A2 (s.l.length + 1) c2)).setCell ⟨g, 0, none⟩ (.int .i64 x)).setCell ⟨g, 1, none⟩ (.int .i64 y)).setCell ⟨g + 1, 0, none⟩ (.int .i64 x)).setCell ⟨g + 1, 1, none⟩ (.int .i64 y)).setCell ⟨g + 1, 2, none⟩ (.int .i64 s.dx)).setCell ⟨g + 1, 3, none⟩ (.int .i64 s.dy)).setCell ⟨g + 1, 4, none⟩ (.int .i64 s.step)).setCell ⟨g + 1, 5, none⟩ (.bool true)).setCell ⟨g + 1, 6, none⟩ (.slice A2 (s.l.length + 1) c2) := ⟨_, rfl⟩
            rw [← hW']
            obtain ⟨q1, q2⟩ := HTL.out w5 A2 c2 HK5.out HO5.out HN5.out W' hW'
            exact bodyPost_ret (results_ref _ 6 7 Try.results26 _ _ _ _ _ _ _ _ _ _ _ rfl rfl q1) rfl q2
          · go_wp2
            have k4 : Below W.heap.size W ((W.alloc (.cells #[] 70)).alloc (.cells #[.int .i64 s.x, .int .i64 s.y, .int .i64 x, .int .i64 y] 70)).drew := (((Below.refl _ _).alloc (Nat.le_refl _) _).alloc (by simp) _).drew
            refine Cont.mk ⟨fun _ => HSK.out _ k4.block, ?_⟩
            refine wpG_one 3 3 rfl (by kernel_rfl) rfl ?_
            refine wpList_app ti26 rfl _ _ rfl (by rfl) ((own_empty W 70 4).alloc _) (by rfl) (s.l.flatMap skc) (flat_len skc_len s.l) (HSRC.out _ k4.block) (skc_one s.l) (by omega) ?_
            intro A1 c1 w3 hown3 hg3 hob3
            have k3 : Below W.heap.size W w3 := k4.grown hg3 k4.size (fun b hb => by cases hb; simp)
            refine wpList_nil (Cont.mk ⟨fun _ => HSK.out _ k3.block, ?_⟩)
            have hown3' : w3.ownsRow 0 70 4 (.slice A1 s.l.length c1) s.l.length (s.l.flatMap skc) := by simpa using hown3
            have hn3 : ∀ b, (Value.slice A1 s.l.length c1).ownBlock = some b → W.heap.size ≤ b := fun b hb => by
              rw [Nat.zero_add] at hob3
              rcases hob3 with h | h
              · rw [h] at hb; cases hb; simp
              · rw [h] at hb; injection hb with hb; simp at hb; omega
            have HO3 := Lib.hid hown3'
            have HN3 := Lib.hid hn3
            have hs3 := k3.size
            have hsr : w3.heap[W.heap.size + 1]? = some (.cells #[.int .i64 s.x, .int .i64 s.y, .int .i64 x, .int .i64 y] 70) := (hg3.block _ (by simp) (by simp [Value.ownBlock])).trans (heap_alloc2_new W (.cells #[] 70) (.cells #[.int .i64 s.x, .int .i64 s.y, .int .i64 x, .int .i64 y] 70))
            clear hown3 hob3 hg3 hn3 hown3'
            simp only [Nat.zero_add]
            refine wpG_one 12 2 rfl (by kernel_rfl) rfl ?_
            refine wpList_app ti26 rfl _ _ rfl (by rfl) HO3.out (by rfl) (skc ⟨s.x, s.y, x, y⟩) rfl (old_src hsr 1) (by simp [skc, Value.oneCell']) (by omega) ?_
            intro A2 c2 w5 hown5 hg5 hob5
            have k5 : Below W.heap.size W w5 := k3.grown hg5 (hs3) HN3.out
            have hn5 : ∀ b, (Value.slice A2 (s.l.length + 1) c2).ownBlock = some b → W.heap.size ≤ b := fun b hb => by
              rcases hob5 with h | h
              · exact HN3.out b (h ▸ hb)
              · rw [h] at hb; injection hb with hb; have := hs3; (try simp at hb); omega
            refine wpList_nil (Cont.mk ⟨fun _ => HSK.out _ k5.block, ?_⟩)
            have HO5 := Lib.hid hown5
            have HN5 := Lib.hid hn5
            have HK5 := Lib.hid k5
            clear k4 k5
            clear hg5 hob5 HO3 HN3 hs3 k3 hown5 hn5
            obtain ⟨⟨z0, z1, z2, z3, z4, z5, z6⟩, zf⟩ := cells7 ((HK5.out.block g (by omega)).trans HX.out)
            obtain ⟨⟨r0, r1, r2, r3, r4, r5, r6⟩, rf⟩ := cells7 ((HK5.out.block (g + 1) hlt).trans HY.out)
            have zf0 := zf 0
            have zf1 := zf 1
            have zf6 := zf 6
            have rf0 := rf 0
            have rf1 := rf 1
            have rf2 := rf 2
            have rf3 := rf 3
            have rf4 := rf 4
            have rf5 := rf 5
            have rf6 := rf 6
            have h5l : g + 1 < w5.heap.size := by have := HK5.out.size; omega
            clear zf rf
            refine wpG_one 13 1 rfl (by kernel_rfl) rfl ?_
            go_wp2
            refine Cont.mk ⟨fun _ => HSK.out _ HK5.out.block, ?_⟩
            refine wpG_one 14 0 rfl (by kernel_rfl) rfl ?_
            go_wp2
            refine Cont.mk ⟨fun h => absurd (by simp) h, ?_⟩
            refine wpG_done (by kernel_rfl) (NoPanic.normal ?_) _
            go_wp2_with fail
            obtain ⟨W', hW'⟩ : ∃ W', W' = (((((((((w5.setCell ⟨g, 6, none⟩ (.slice A2 (s.l.length + 1) c2)).setCell ⟨g, 0, none⟩ (.int .i64 x)).setCell ⟨g, 1, none⟩ (.int .i64 y)).setCell ⟨g + 1, 0, none⟩ (.int .i64 x)).setCell ⟨g + 1, 1, none⟩ (.int .i64 y)).setCell ⟨g + 1, 2, none⟩ (.int .i64 s.dx)).setCell ⟨g + 1, 3, none⟩ (.int .i64 s.dy)).setCell ⟨g + 1, 4, none⟩ (.int .i64 s.step)).setCell ⟨g + 1, 5, none⟩ (.bool true)).setCell ⟨g + 1, 6, none⟩ (.slice A2 (s.l.length + 1) c2) := ⟨_, rfl⟩
            rw [← hW']
            obtain ⟨q1, q2⟩ := HTL.out w5 A2 c2 HK5.out HO5.out HN5.out W' hW'
            exact bodyPost_ret (results_ref _ 6 7 Try.results26 _ _ _ _ _ _ _ _ _ _ _ rfl rfl q1) rfl q2
        · go_wp2
          have k2 : Below W.heap.size W (W.alloc (.cells #[.int .i64 s.x, .int .i64 s.y, .int .i64 x, .int .i64 y] 70)).drew := ((Below.refl _ _).alloc (Nat.le_refl _) _).drew
          refine Cont.mk ⟨fun _ => HSK.out _ k2.block, ?_⟩
          refine wpG_one 0 4 rfl (by kernel_rfl) rfl ?_
          · go_wp2
            have k4 : Below W.heap.size W ((W.alloc (.cells #[.int .i64 s.x, .int .i64 s.y, .int .i64 x, .int .i64 y] 70)).alloc (.cells #[] 70)).drew := (((Below.refl _ _).alloc (Nat.le_refl _) _).alloc (by simp) _).drew
            refine Cont.mk ⟨fun _ => HSK.out _ k4.block, ?_⟩
            refine wpG_one 3 3 rfl (by kernel_rfl) rfl ?_
            refine wpList_app ti26 rfl _ _ rfl (by rfl) (own_empty_at (W.alloc (.cells #[.int .i64 s.x, .int .i64 s.y, .int .i64 x, .int .i64 y] 70)) 70 4 _ (by simp)) (by rfl) (s.l.flatMap skc) (flat_len skc_len s.l) (HSRC.out _ k4.block) (skc_one s.l) (by omega) ?_
            intro A1 c1 w3 hown3 hg3 hob3
            have k3 : Below W.heap.size W w3 := k4.grown hg3 k4.size (fun b hb => by cases hb; simp)
            refine wpList_nil (Cont.mk ⟨fun _ => HSK.out _ k3.block, ?_⟩)
            have hown3' : w3.ownsRow 0 70 4 (.slice A1 s.l.length c1) s.l.length (s.l.flatMap skc) := by simpa using hown3
            have hn3 : ∀ b, (Value.slice A1 s.l.length c1).ownBlock = some b → W.heap.size ≤ b := fun b hb => by
              rw [Nat.zero_add] at hob3
              rcases hob3 with h | h
              · rw [h] at hb; cases hb; simp
              · rw [h] at hb; injection hb with hb; simp at hb; omega
            have HO3 := Lib.hid hown3'
            have HN3 := Lib.hid hn3
            have hs3 := k3.size
            have hsr : w3.heap[W.heap.size]? = some (.cells #[.int .i64 s.x, .int .i64 s.y, .int .i64 x, .int .i64 y] 70) := (hg3.block _ (by simp; omega) (by simp [Value.ownBlock])).trans (heap_alloc2_old W (.cells #[.int .i64 s.x, .int .i64 s.y, .int .i64 x, .int .i64 y] 70) (.cells #[] 70))
            clear hown3 hob3 hg3 hn3 hown3'
            simp only [Nat.zero_add]
            refine wpG_one 12 2 rfl (by kernel_rfl) rfl ?_
            refine wpList_app ti26 rfl _ _ rfl (by rfl) HO3.out (by rfl) (skc ⟨s.x, s.y, x, y⟩) rfl (old_src hsr 1) (by simp [skc, Value.oneCell']) (by omega) ?_
            intro A2 c2 w5 hown5 hg5 hob5
            have k5 : Below W.heap.size W w5 := k3.grown hg5 (hs3) HN3.out
            have hn5 : ∀ b, (Value.slice A2 (s.l.length + 1) c2).ownBlock = some b → W.heap.size ≤ b := fun b hb => by
              rcases hob5 with h | h
              · exact HN3.out b (h ▸ hb)
              · rw [h] at hb; injection hb with hb; have := hs3; (try simp at hb); omega
            refine wpList_nil (Cont.mk ⟨fun _ => HSK.out _ k5.block, ?_⟩)
            have HO5 := Lib.hid hown5
            have HN5 := Lib.hid hn5
            have HK5 := Lib.hid k5
            clear k4 k5
            clear hg5 hob5 HO3 HN3 hs3 k3 hown5 hn5
            obtain ⟨⟨z0, z1, z2, z3, z4, z5, z6⟩, zf⟩ := cells7 ((HK5.out.block g (by omega)).trans HX.out)
            obtain ⟨⟨r0, r1, r2, r3, r4, r5, r6⟩, rf⟩ := cells7 ((HK5.out.block (g + 1) hlt).trans HY.out)
            have zf0 := zf 0
            have zf1 := zf 1
            have zf6 := zf 6
            have rf0 := rf 0
            have rf1 := rf 1
            have rf2 := rf 2
            have rf3 := rf 3
            have rf4 := rf 4
            have rf5 := rf 5
            have rf6 := rf 6
            have h5l : g + 1 < w5.heap.size := by have := HK5.out.size; omega
            clear zf rf
            refine wpG_one 13 1 rfl (by kernel_rfl) rfl ?_
            go_wp2
            refine Cont.mk ⟨fun _ => HSK.out _ HK5.out.block, ?_⟩
            refine wpG_one 14 0 rfl (by kernel_rfl) rfl ?_
            go_wp2
            refine Cont.mk ⟨fun h => absurd (by simp) h, ?_⟩
            refine wpG_done (by kernel_rfl) (NoPanic.normal ?_) _
            go_wp2_with fail
            obtain ⟨W', hW'⟩ : ∃ W', W' = (((((((((w5.setCell ⟨g, 6, none⟩ (.slice A2 (s.l.length + 1) c2)).setCell ⟨g, 0, none⟩ (.int .i64 x)).setCell ⟨g, 1, none⟩ (.int .i64 y)).setCell ⟨g + 1, 0, none⟩ (.int .i64 x)).setCell ⟨g + 1, 1, none⟩ (.int .i64 y)).setCell ⟨g + 1, 2, none⟩ (.int .i64 s.dx)).setCell ⟨g + 1, 3, none⟩ (.int .i64 s.dy)).setCell ⟨g + 1, 4, none⟩ (.int .i64 s.step)).setCell ⟨g + 1, 5, none⟩ (.bool true)).setCell ⟨g + 1, 6, none⟩ (.slice A2 (s.l.length + 1) c2) := ⟨_, rfl⟩
            rw [← hW']
            obtain ⟨q1, q2⟩ := HTL.out w5 A2 c2 HK5.out HO5.out HN5.out W' hW'
            exact bodyPost_ret (results_ref _ 6 7 Try.results26 _ _ _ _ _ _ _ _ _ _ _ rfl rfl q1) rfl q2
end Go.Proofs.Ytkjfbjgcfkmhkaa
