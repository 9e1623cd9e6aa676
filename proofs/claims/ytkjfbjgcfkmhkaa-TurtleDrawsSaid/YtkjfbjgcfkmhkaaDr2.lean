import Derived.Test.YtkjfbjgcfkmhkaaDrw
namespace Go.Proofs.Ytkjfbjgcfkmhkaa
open Go.RowKit Go.Shelf
set_option linter.unusedVariables false
set_option linter.unusedSimpArgs false
attribute [local go_sem] Oper.semAt_some

def DrawPost (w : World) (q : St × Nat × Int) (e : Ending) (w' : World) : Prop := ∃ p F', e = .returned (.tuple #[.pointer (some ⟨p, 0, none⟩), .int .i64 q.2.1, .int .i64 q.2.2]) ∧ Below w.heap.size w w' ∧ Tu F' w' p q.1 ∧ ∀ b ∈ F', w.heap.size ≤ b

/-- Between two rounds. -/
structure Inv (w : World) (z6 p B8 : Nat) (pre : List (Int × Int)) (s : St) (F' : List Nat) (W : World) : Prop where
  runs : Runs st0 pre s
  tu : Tu F' W p s
  new : ∀ b ∈ F', b = p ∨ z6 ≤ b
  q8 : W.heap[B8]? = some (Obj.cells #[.pointer (some ⟨p, 0, none⟩)] 24 (0, 0))
  q9 : W.heap[B8 + 1]? = some (Obj.cells #[.int .i64 (pre.length : Nat)] 3 (0, 0))
  r2 : W.heap[w.heap.size]? = some (Obj.cells #[.pointer none] 24 (0, 0))
  r3 : W.heap[w.heap.size + 1]? = some (Obj.cells #[.int .i64 0] 3 (0, 0))
  r4 : W.heap[w.heap.size + 1 + 1]? = some (Obj.cells #[.int .i64 0] 34 (0, 0))
  below : Below w.heap.size w W
  size : z6 ≤ W.heap.size
/-- A round has said no. -/
structure InvX (w : World) (z6 p : Nat) (pre : List (Int × Int)) (s : St) (x : Int × Int) (F' : List Nat) (W : World) : Prop where
  runs : Runs st0 pre s
  no : (doT s x.1 x.2).2 ≠ 0
  tu : Tu F' W p (doT s x.1 x.2).1
  new : ∀ b ∈ F', b = p ∨ z6 ≤ b
  r2 : W.heap[w.heap.size]? = some (Obj.cells #[.pointer (some ⟨p, 0, none⟩)] 24 (0, 0))
  r3 : W.heap[w.heap.size + 1]? = some (Obj.cells #[.int .i64 (pre.length : Nat)] 3 (0, 0))
  r4 : W.heap[w.heap.size + 1 + 1]? = some (Obj.cells #[.int .i64 (doT s x.1 x.2).2] 34 (0, 0))
  below : Below w.heap.size w W
  size : z6 ≤ W.heap.size
theorem block_kept {W W' : World} {row : Option Nat} {k : Nat} {o : Obj} (h : W.heap[k]? = some o) (hc : o.isCells = true) (hg : W.grownBy W' row) (hr : ∀ r, row = some r → ∃ o : Obj, W.heap[r]? = some o ∧ o.isCells = false) : W'.heap[k]? = some o :=
  (grownBy_keeps_cells hg hr h hc).trans h
theorem Inv.grown {w : World} {z6 p B8 : Nat} {pre : List (Int × Int)} {s : St} {F' : List Nat} {W W' : World} (h : Inv w z6 p B8 pre s F' W) {row : Option Nat} (hz : w.heap.size ≤ z6) (hg : W.grownBy W' row) (hr : ∀ r, row = some r → z6 ≤ r ∧ ∃ o : Obj, W.heap[r]? = some o ∧ o.isCells = false) : Inv w z6 p B8 pre s F' W' :=
  ⟨h.runs, h.tu.grown hg fun r e => (hr r e).2, h.new, block_kept h.q8 rfl hg fun r e => (hr r e).2, block_kept h.q9 rfl hg fun r e => (hr r e).2, block_kept h.r2 rfl hg fun r e => (hr r e).2, block_kept h.r3 rfl hg fun r e => (hr r e).2, block_kept h.r4 rfl hg fun r e => (hr r e).2,
   h.below.grown hg (Nat.le_trans hz h.size) (fun k e => Nat.le_trans hz (hr k e).1), Nat.le_trans h.size hg.size⟩
theorem InvX.grown {w : World} {z6 p : Nat} {pre : List (Int × Int)} {s : St} {x : Int × Int} {F' : List Nat} {W W' : World} (h : InvX w z6 p pre s x F' W) {row : Option Nat} (hz : w.heap.size ≤ z6) (hg : W.grownBy W' row) (hr : ∀ r, row = some r → z6 ≤ r ∧ ∃ o : Obj, W.heap[r]? = some o ∧ o.isCells = false) : InvX w z6 p pre s x F' W' :=
  ⟨h.runs, h.no, h.tu.grown hg fun r e => (hr r e).2, h.new, block_kept h.r2 rfl hg fun r e => (hr r e).2, block_kept h.r3 rfl hg fun r e => (hr r e).2, block_kept h.r4 rfl hg fun r e => (hr r e).2,
   h.below.grown hg (Nat.le_trans hz h.size) (fun k e => Nat.le_trans hz (hr k e).1), Nat.le_trans h.size hg.size⟩
theorem cell1 {w : World} {g : Nat} {t : TypeId} {c0 : Value} (hg : w.heap[g]? = some (.cells #[c0] t (0, 0))) : cel w g 0 c0 ∧ w.frozen? ⟨g, 0, none⟩ = false :=
  ⟨by rw [cel, cell_of_row w g _ _ _ _ hg]; rfl, frozen_of_row w g 0 _ _ hg⟩
theorem set1 {w : World} {g : Nat} {t : TypeId} {c0 v : Value} (hg : w.heap[g]? = some (.cells #[c0] t (0, 0))) : (w.setCell ⟨g, 0, none⟩ v).heap[g]? = some (.cells #[v] t (0, 0)) := by
  rw [heap_setCell_same w g 0 _ t v hg]; rfl

theorem upto_split (zs : List Int) {k n : Nat} (h : k ≤ n) : ∃ r, upto zs n = upto zs k ++ r := by
  induction n with
  | zero => exact ⟨[], by rw [show k = 0 by omega]; simp⟩
  | succ n ih =>
    by_cases hk : k = n + 1
    · exact ⟨[], by rw [hk]; simp⟩
    · obtain ⟨r, hr⟩ := ih (by omega)
      exact ⟨r ++ [pr zs n], by rw [upto_succ, hr, List.append_assoc]⟩

theorem cel_set {w : World} {b g : Nat} {v u : Value} (h : cel w b 0 v) (hb : b ≠ g) : cel (w.setCell ⟨g, 0, none⟩ u) b 0 v := (World.cell?_of_block (Below.heap_setCell _ _ _ _ (show b ≠ (⟨g, 0, none⟩ : Addr).block from hb))).trans h
/-- Three stores. -/
def Set3 (W1 W2 : World) (g1 g2 g3 : Nat) (t1 t2 t3 : TypeId) (v1 v2 v3 : Value) : Prop :=
  W2.os = W1.os ∧ W2.tape = W1.tape ∧ W2.output = W1.output ∧ W2.heap.size = W1.heap.size ∧ (∀ b, b ≠ g1 → b ≠ g2 → b ≠ g3 → W2.heap[b]? = W1.heap[b]?) ∧ W2.heap[g1]? = some (Obj.cells #[v1] t1 (0, 0)) ∧ W2.heap[g2]? = some (Obj.cells #[v2] t2 (0, 0)) ∧ W2.heap[g3]? = some (Obj.cells #[v3] t3 (0, 0))
theorem set3_abc {W1 : World} {g1 g2 g3 : Nat} {t1 t2 t3 : TypeId} {c1 c2 c3 : Value} (v1 v2 v3 : Value) (h12 : g1 ≠ g2) (h13 : g1 ≠ g3) (h23 : g2 ≠ g3)
    (z1 : W1.heap[g1]? = some (Obj.cells #[c1] t1 (0, 0))) (z2 : W1.heap[g2]? = some (Obj.cells #[c2] t2 (0, 0))) (z3 : W1.heap[g3]? = some (Obj.cells #[c3] t3 (0, 0))) :
    Set3 W1 (((W1.setCell ⟨g1, 0, none⟩ v1).setCell ⟨g2, 0, none⟩ v2).setCell ⟨g3, 0, none⟩ v3) g1 g2 g3 t1 t2 t3 v1 v2 v3 := by
  refine ⟨rfl, rfl, rfl, by simp, fun b b1 b2 b3 => ?_, ?_, ?_, ?_⟩
  · rw [Below.heap_setCell _ _ _ _ (show b ≠ (⟨g3, 0, none⟩ : Addr).block from b3), Below.heap_setCell _ _ _ _ (show b ≠ (⟨g2, 0, none⟩ : Addr).block from b2), Below.heap_setCell _ _ _ _ (show b ≠ (⟨g1, 0, none⟩ : Addr).block from b1)]
  · rw [Below.heap_setCell _ _ _ _ (show g1 ≠ (⟨g3, 0, none⟩ : Addr).block from h13), Below.heap_setCell _ _ _ _ (show g1 ≠ (⟨g2, 0, none⟩ : Addr).block from h12)]
    exact set1 z1
  · rw [Below.heap_setCell _ _ _ _ (show g2 ≠ (⟨g3, 0, none⟩ : Addr).block from h23)]
    exact set1 (by rw [Below.heap_setCell _ _ _ _ (show g2 ≠ (⟨g1, 0, none⟩ : Addr).block from h12.symm)]; exact z2)
  · exact set1 (by rw [Below.heap_setCell _ _ _ _ (show g3 ≠ (⟨g2, 0, none⟩ : Addr).block from h23.symm), Below.heap_setCell _ _ _ _ (show g3 ≠ (⟨g1, 0, none⟩ : Addr).block from h13.symm)]; exact z3)
set_option maxRecDepth 100000 in
set_option maxHeartbeats 2000000 in
theorem f14_any {F : List Nat} {w : World} {v : Value} {es : List (Int × Int)} (h : EvR F w v es) (hl : es.length ≤ 2000000) :
    Calls Try.prog 14 #[v] w (DrawPost w (draw st0 (prs (nums es)))) := by
  refine (callsIn_wide (n := 9)).1 ?_
  obtain ⟨A, c, rfl, hc, _, hA⟩ := ev_at h
  have HA := Lib.hid hA
  clear hA h
  have hro : Fence.wide.round = none := rfl
  have h14 : Fence.wide.fn 14 := trivial
  refine callsIn_of_wp_marks Try.func14 rfl h14 ?_ hro
  simp only [Try.ntmps14, List.size_toArray, List.length_cons, List.length_nil, Nat.reduceAdd, Nat.reduceSub, Array.replicate_succ, Array.replicate_zero, List.push_toArray, List.append_toArray, List.nil_append, List.cons_append]
  gi_wp2
  obtain ⟨W3, hW3⟩ : ∃ W3, W3 = ((w.alloc (Obj.cells #[Value.pointer none] 24)).alloc (Obj.cells #[Value.int IntKind.i64 0] 3)).alloc (Obj.cells #[Value.int IntKind.i64 0] 34) := ⟨_, rfl⟩
  rw [← hW3]
  have hB3 : Below w.heap.size w W3 := by rw [hW3]; exact (((Below.refl _ w).alloc (Nat.le_refl _) _).alloc (by simp) _).alloc (by simp; omega) _
  have hs3 : W3.heap.size = w.heap.size + 3 := by rw [hW3]; simp
  have hr2 : W3.heap[w.heap.size]? = some (Obj.cells #[Value.pointer none] 24 (0, 0)) := by rw [hW3, Below.heap_alloc _ _ _ (by simp; omega), Below.heap_alloc _ _ _ (by simp)]; exact heap_alloc_new _ _
  have hr3 : W3.heap[w.heap.size + 1]? = some (Obj.cells #[Value.int IntKind.i64 0] 3 (0, 0)) := by rw [hW3, Below.heap_alloc _ _ _ (by simp)]; have := heap_alloc_new (w.alloc (Obj.cells #[Value.pointer none] 24)) (Obj.cells #[Value.int IntKind.i64 0] 3 (0, 0)); simpa using this
  have hr4 : W3.heap[w.heap.size + 1 + 1]? = some (Obj.cells #[Value.int IntKind.i64 0] 34 (0, 0)) := by rw [hW3]; have := heap_alloc_new ((w.alloc (Obj.cells #[Value.pointer none] 24)).alloc (Obj.cells #[Value.int IntKind.i64 0] 3)) (Obj.cells #[Value.int IntKind.i64 0] 34 (0, 0)); simpa using this
  have HB3 := Lib.hid hB3
  have HS3 := Lib.hid hs3
  have HR2 := Lib.hid hr2
  have HR3 := Lib.hid hr3
  have HR4 := Lib.hid hr4
  clear hW3 hB3 hs3 hr2 hr3 hr4
  gi_loopw [5, 15] (fun a i wr => ∃ (j : Nat) (B : Option Addr) (d : Nat), j ≤ es.length ∧ i = .int .i64 j ∧ a = .slice B (nums (es.take j)).length d ∧ Hid (wr.ownsRow 0 21 1 (.slice B (nums (es.take j)).length d) (nums (es.take j)).length ((nums (es.take j)).map (Value.int .i32))) ∧ Hid (∀ b, (Value.slice B (nums (es.take j)).length d).ownBlock = some b → W3.heap.size ≤ b) ∧ Hid (Below W3.heap.size W3 wr)) (fun _ i _ => es.length - (intOf i).toNat)
  case atStart => exact ⟨0, none, 0, Nat.zero_le _, rfl, rfl, Lib.hid (World.ownsRow_nil _ _ _ _), Lib.hid (fun b hb => by simp [Value.ownBlock] at hb), Lib.hid (Below.refl _ _)⟩
  case round =>
    obtain ⟨j, B, d, hj, rfl, rfl, hown, hnew, hBl⟩ := hrel
    by_cases hlt : j < es.length
    · obtain ⟨z, hz⟩ : ∃ z, es[j]? = some z := ⟨_, List.getElem?_eq_getElem hlt⟩
      obtain ⟨b2, o2, rfl, hgd, e0, e1⟩ := HA.out j z hz
      have hBw : Below w.heap.size w wr := HB3.out.trans (hBl.out.mono (by have := HS3.out; omega))
      have t0 := (hBw.cell (p := ⟨b2, o2 + j * 2, none⟩) hgd.1).trans e0
      have t1 := (hBw.cell (p := ⟨b2, o2 + j * 2 + 1, none⟩) hgd.1).trans e1
      have HZ := Lib.hid (nums_succ hz)
      have HNL := Lib.hid (nums_len es j)
      clear e0 e1 hz hgd hBw
      by_cases hz0 : z.1 = 0
      · gi_wp2_with (gi_at_builtin; refine wpListIn_app ti53 rfl _ _ rfl (by rfl) ((hown.out.alloc (.cells #[.int .i64 0, .int .i32 z.2] 72)).alloc (.cells #[.int .i32 z.2] 21)) (by rfl) [.int .i32 z.2] rfl (new_src_at (wr.alloc (.cells #[.int .i64 0, .int .i32 z.2] 72)) #[.int .i32 z.2] 21 (0, 0) 1 (wr.heap.size + 1) (by simp)) (by simp [Value.oneCell']) (by have := HNL.out; omega) ?_; intro A1 c1 w5 hown5 hg5 hob5)
        have hn5 : ∀ b, (Value.slice A1 ((nums (List.take j es)).length + 1) c1).ownBlock = some b → W3.heap.size ≤ b := fun b hb => by
          have h0 := hBl.out.size
          rcases hob5 with h | h
          · exact hnew.out b (h ▸ hb)
          · rw [h] at hb; injection hb with hb; simp at hb; omega
        have hB5 : Below W3.heap.size W3 w5 := ((hBl.out.alloc hBl.out.size (.cells #[.int .i64 0, .int .i32 z.2] 72)).alloc (by have := hBl.out.size; simp; omega) (.cells #[.int .i32 z.2] 21)).grown hg5 (by have := hBl.out.size; simp; omega) (fun b hb => hnew.out b hb)
        go_roundw
        case rel =>
          have e : nums (es.take (j + 1)) = nums (es.take j) ++ [z.2] := by rw [HZ.out, if_pos hz0]
          refine ⟨j + 1, A1, c1, by omega, by simp, by rw [e]; simp, Lib.hid ?_, Lib.hid ?_, Lib.hid hB5⟩
          · rw [e, List.map_append, List.length_append]; exact hown5
          · rw [e, List.length_append]; exact hn5
        case measure => simp [intOf]; omega
      · have hz0' : (z.1 == 0) = false := by simpa using hz0
        gi_wp2
        go_roundw
        case rel =>
          have e : nums (es.take (j + 1)) = nums (es.take j) := by rw [HZ.out, if_neg hz0, List.append_nil]
          refine ⟨j + 1, B, d, by omega, by simp, by rw [e], Lib.hid ?_, Lib.hid ?_, Lib.hid (hBl.out.alloc hBl.out.size _)⟩
          · rw [e]; exact hown.out.alloc _
          · rw [e]; exact hnew.out
        case measure => simp [intOf]; omega
    · obtain rfl : j = es.length := by omega
      have hnl := nums_len es es.length
      rw [List.take_length] at hown hnew hnl ⊢
      clear HA
      generalize nums es = zs at *
      gi_wp2_with (first | (refine ⟨trivial, ?_⟩; gi_at_call 9; refine (callsIn_wide.2 (f9_any _)).mono ?_; rintro e w4 ⟨rfl, hB4, hT4⟩; have HB4 := Lib.hid hB4; have HT4 := Lib.hid hT4; clear hB4 hT4) | (refine ⟨trivial, ?_⟩; gi_at_call 19; refine (f19_in _ _ trivial rfl _ _ _ _).mono ?_; rintro e w6 ⟨rfl, hw6⟩; have HW6 := Lib.hid hw6; clear hw6))
      have hpB : wr.heap.size < w4.heap.size := HT4.out.lt wr.heap.size (by simp)
      have hwr : w.heap.size + 3 ≤ wr.heap.size := by have := HS3.out; have := hBl.out.size; omega
      have hs6 : w6.heap.size = w4.heap.size + 3 := by rw [HW6.out]; simp
      have hB46 : Below w4.heap.size w4 w6 := by rw [HW6.out]; exact (((Below.refl _ w4).alloc (Nat.le_refl _) _).alloc (by simp) _).alloc (by simp; omega) _
      have q8 : w6.heap[w4.heap.size]? = some (Obj.cells #[.pointer (some ⟨wr.heap.size, 0, none⟩)] 24 (0, 0)) := by rw [HW6.out, Below.heap_alloc _ _ _ (by simp; omega), Below.heap_alloc _ _ _ (by simp)]; exact heap_alloc_new _ _
      have q9 : w6.heap[w4.heap.size + 1]? = some (Obj.cells #[Value.int .i64 0] 3 (0, 0)) := by rw [HW6.out, Below.heap_alloc _ _ _ (by simp)]; have := heap_alloc_new (w4.alloc (Obj.cells #[.pointer (some ⟨wr.heap.size, 0, none⟩)] 24)) (Obj.cells #[Value.int IntKind.i64 0] 3 (0, 0)); simpa using this
      have qs : w6.heap[w4.heap.size + 1 + 1]? = some (Obj.cells #[Value.slice B zs.length d] 53 (0, 0)) := by rw [HW6.out]; have := heap_alloc_new ((w4.alloc (Obj.cells #[.pointer (some ⟨wr.heap.size, 0, none⟩)] 24)).alloc (Obj.cells #[Value.int IntKind.i64 0] 3)) (Obj.cells #[Value.slice B zs.length d] 53 (0, 0)); simpa using this
      have hB36 : Below wr.heap.size wr w6 := HB4.out.trans (hB46.mono (by omega))
      have hBall : Below w.heap.size w w6 := (HB3.out.trans (hBl.out.mono (by have := HS3.out; omega))).trans (hB36.mono (by omega))
      have hB03 : Below W3.heap.size W3 w6 := hBl.out.trans (hB36.mono hBl.out.size)
      have r2 := (hB03.block w.heap.size (by have := HS3.out; omega)).trans HR2.out
      have r3 := (hB03.block (w.heap.size + 1) (by have := HS3.out; omega)).trans HR3.out
      have r4 := (hB03.block (w.heap.size + 1 + 1) (by have := HS3.out; omega)).trans HR4.out
      have hT6 : Tu [wr.heap.size] w6 wr.heap.size st0 := HT4.out.below hB46
      have hrow : ∀ b, (Value.slice B zs.length d).ownBlock = some b → W3.heap.size ≤ b ∧ b < wr.heap.size := fun b hb => ⟨hnew.out b hb, ownsRow_lt hown.out hb⟩
      have hown6 : w6.ownsRow 0 21 1 (.slice B zs.length d) zs.length (zs.map (Value.int .i32)) := ownsRow_same hown.out fun b hb => hB36.block b (hrow b hb).2
      have hL : ∀ b, (b = w4.heap.size + 1 + 1 ∨ (Value.slice B zs.length d).ownBlock = some b) → b < w6.heap.size := fun b hb => by
        rcases hb with rfl | hb
        · omega
        · have := (hrow b hb).2; omega
      have hI : I32R (fun b => b = w4.heap.size + 1 + 1 ∨ (Value.slice B zs.length d).ownBlock = some b) w6 (.slice B zs.length d) zs := by
        obtain ⟨A', c', he, hc', hx⟩ := own_cells hown6
        injection he with he1 _ he2
        subst he1; subst he2
        refine ⟨by omega, B, d, rfl, hc', fun h0 => ?_⟩
        obtain ⟨g, rfl, hg, hgl, hx⟩ := hx h0
        refine ⟨g, 0, rfl, ⟨.inr hg, hgl⟩, fun j hj => ?_⟩
        have := hx j (.int .i32 (zs[j]?.getD 0)) (by rw [List.getElem?_map, List.getElem?_eq_getElem hj]; rfl)
        simpa using this
      have hs48 : w4.heap.size + 3 ≤ w6.heap.size := by omega
      clear HB3 HS3 HR2 HR3 HR4 hBl hown hnew HB4 HW6 HT4 hB46 hs6 hB36 hB03 hown6 hj hlt
      generalize hp : wr.heap.size = p at *
      generalize hB8 : w4.heap.size = B8 at *
      generalize hz6 : w6.heap.size = z6 at *
      clear hp hB8
      refine wpIn_rangeFunc_ownF hro (by decide) (gf := 32) (lb := #[.pointer (some ⟨B8 + 1 + 1, 0, none⟩)]) rfl trivial (enters_of Try.func32 (by kernel_rfl) rfl)
        (pairs_stops Fence.wide 8 trivial hro (by decide) (fun b => b = B8 + 1 + 1 ∨ (Value.slice B zs.length d).ownBlock = some b) (B8 + 1 + 1) d B zs w6 (by rw [hz6]; exact hL) (.inl rfl) (cell1 qs).1 hI)
        (fun h k => h.trans k) (fun W l o o' hl _ _ _ => ⟨by simp, fun b hb _ => World.putObj_heap_other (fun e => by have := hL b hb; omega)⟩) (Below.refl _ _) (fun _ => rfl)
        (fun pre W => ∃ s F', Inv w z6 p B8 pre s F' W) (fun c pre W => c = .ret ∧ ∃ pre' x s F', pre = pre' ++ [x] ∧ InvX w z6 p pre' s x F' W)
        (fun pre A B row ⟨s, F', h⟩ hg hr => ⟨s, F', h.grown (by omega) hg (by rw [hz6] at hr; exact hr)⟩)
        (fun c pre A B row ⟨hc, pre', x, s, F', e, h⟩ hg hr => ⟨hc, pre', x, s, F', e, h.grown (by omega) hg (by rw [hz6] at hr; exact hr)⟩)
        ⟨st0, [p], rfl, hT6, fun b hb => .inl (by simpa using hb), q8, q9, r2, r3, r4, hBall, by omega⟩
        (fun x => { tmps := #[Value.slice A es.length c, undef, Value.pointer (some ⟨w.heap.size, 0, none⟩), Value.pointer (some ⟨w.heap.size + 1, 0, none⟩), Value.pointer (some ⟨w.heap.size + 1 + 1, 0, none⟩), Value.slice B zs.length d, undef, u7,
          Value.pointer (some ⟨B8, 0, none⟩), Value.pointer (some ⟨B8 + 1, 0, none⟩), .int .i32 x.1, .int .i32 x.2, undef, Value.slice A es.length c,
          Value.int IntKind.i64 ↑es.length, Value.int IntKind.i64 ↑es.length, Value.bool false, u17, u18, u19, u20, u21, u22, u23, u24, u25, u26, u27, Value.pointer (some ⟨p, 0, none⟩), Value.slice B zs.length d,
          Value.func (Fn.func 32) #[] #[Value.pointer (some ⟨B8 + 1 + 1, 0, none⟩)], .int .i32 x.1, .int .i32 x.2, undef, undef, undef, undef, undef, undef, undef, undef, undef, undef, undef, undef, undef], defers := [] }) ?assign ?body ?done ?stop
      case assign =>
        intro l x W K hK
        gi_wp2
        exact hK
      case body =>
        rintro l pre x W ⟨s, F', h⟩ hN
        have hF : ∀ b, b < z6 → b ≠ p → b ∉ F' := fun b hb hn hm => by rcases h.new b hm with e | e <;> omega
        have hln := h.runs.len
        simp only [show st0.l = [] from rfl, List.length_nil] at hln
        have H12 := Lib.hid (f12_any x.1 x.2 h.tu (by omega))
        obtain ⟨q, hq⟩ : ∃ q, q = doT s x.1 x.2 := ⟨_, rfl⟩
        rw [← hq] at H12
        have c8 := (cell1 h.q8).1
        have hzl := h.size
        obtain ⟨much, hmu⟩ : ∃ m, m = q.2 := ⟨_, rfl⟩
        by_cases hz : q.2 = 0
        · have HG : Hid (∀ (W1 : World) (F1 : List Nat), Fr F' W F1 W1 → Tu F1 W1 p q.1 → W1.heap[B8 + 1]? = some (Obj.cells #[.int .i64 (pre.length : Nat)] 3 (0, 0)) ∧ ∀ v : Value, v = .int .i64 ((pre.length : Int) + 1) →
              KeepsOthers W (W1.setCell ⟨B8 + 1, 0, none⟩ v) ∧ Kept (fun b => b = B8 + 1 + 1 ∨ (Value.slice B zs.length d).ownBlock = some b) W (W1.setCell ⟨B8 + 1, 0, none⟩ v) ∧ ∃ s' F2, Inv w z6 p B8 (pre ++ [x]) s' F2 (W1.setCell ⟨B8 + 1, 0, none⟩ v)) := Lib.hid (by
            intro W1 F1 hf ht
            have k : ∀ b, b < z6 → b ≠ p → W1.heap[b]? = W.heap[b]? := fun b hb hn => hf.block b (by omega) (hF b hb hn)
            have n1 : ∀ b ∈ F1, b = p ∨ z6 ≤ b := fun b hb => by
              rcases hf.sub b hb with e | e
              · exact h.new b e
              · exact .inr (by omega)
            have z9 := (k (B8 + 1) (by omega) (by omega)).trans h.q9
            refine ⟨z9, fun v hv => ?_⟩
            have kk : ∀ b, b ≠ B8 + 1 → (W1.setCell ⟨B8 + 1, 0, none⟩ v).heap[b]? = W1.heap[b]? := fun b hb => Below.heap_setCell _ _ _ _ hb
            refine ⟨(hf.others h.tu).trans (KeepsOthers.setCell _ _ _), ⟨by simp; exact hf.size, fun b hb hbl => ?_⟩, q.1, F1, ?_⟩
            · have hbz := hL b hb
              have hb9 : b ≠ B8 + 1 ∧ b ≠ p := by
                rcases hb with rfl | hb
                · omega
                · have := (hrow b hb).2; omega
              exact (kk b hb9.1).trans (k b hbz hb9.2)
            · refine ⟨by rw [hq]; exact h.runs.snoc (by rw [← hq]; exact hz), ht.same fun b hb => kk b ?_, n1, ?_, ?_, ?_, ?_, ?_, ?_, ?_⟩
              · rcases n1 b hb with e | e <;> omega
              · exact (kk B8 (by omega)).trans ((k B8 (by omega) (by omega)).trans h.q8)
              · rw [set1 z9, hv]; simp
              · exact (kk _ (by omega)).trans ((k _ (by omega) (by omega)).trans h.r2)
              · exact (kk _ (by omega)).trans ((k _ (by omega) (by omega)).trans h.r3)
              · exact (kk _ (by omega)).trans ((k _ (by omega) (by omega)).trans h.r4)
              · refine Below.setCell ⟨hf.os.trans h.below.os, hf.tape.trans h.below.tape, hf.output.trans h.below.output, Nat.le_trans h.below.size hf.size, fun b hb => ?_⟩ (by show w.heap.size ≤ B8 + 1; omega) _
                exact (k b (by omega) (by omega)).trans (h.below.block b hb)
              · simp; have := hf.size; omega)
          rw [hz] at hmu
          clear hq hF hln hL hrow hwr
          gi_wp2_with (refine ⟨trivial, ?_⟩; gi_at_call 12; refine (CallsIn.inRound l (callsIn_wide.2 H12.out)).mono ?_; rintro e W1 ⟨rfl, F1, hf, ht⟩; obtain ⟨z9, hg⟩ := HG.out W1 F1 hf ht; obtain ⟨c9, f9⟩ := cell1 z9; have HGG := Lib.hid hg; clear hg z9 HG H12; try rw [hz])
          exact HGG.out _ rfl
        · have hz' : (q.2 != 0) = true := by simpa using hz
          have HG : Hid (∀ (W1 : World) (F1 : List Nat), Fr F' W F1 W1 → Tu F1 W1 p q.1 → W1.heap[B8]? = some (Obj.cells #[.pointer (some ⟨p, 0, none⟩)] 24 (0, 0)) ∧ W1.heap[B8 + 1]? = some (Obj.cells #[.int .i64 (pre.length : Nat)] 3 (0, 0)) ∧ W1.heap[w.heap.size]? = some (Obj.cells #[.pointer none] 24 (0, 0)) ∧ W1.heap[w.heap.size + 1]? = some (Obj.cells #[.int .i64 0] 3 (0, 0)) ∧ W1.heap[w.heap.size + 1 + 1]? = some (Obj.cells #[.int .i64 0] 34 (0, 0)) ∧
              ∀ W2 : World, W2.os = W1.os → W2.tape = W1.tape → W2.output = W1.output → W2.heap.size = W1.heap.size → (∀ b, b ≠ w.heap.size → b ≠ w.heap.size + 1 → b ≠ w.heap.size + 1 + 1 → W2.heap[b]? = W1.heap[b]?) → W2.heap[w.heap.size]? = some (Obj.cells #[.pointer (some ⟨p, 0, none⟩)] 24 (0, 0)) → W2.heap[w.heap.size + 1]? = some (Obj.cells #[.int .i64 (pre.length : Nat)] 3 (0, 0)) → W2.heap[w.heap.size + 1 + 1]? = some (Obj.cells #[.int .i64 q.2] 34 (0, 0)) →
                KeepsOthers W W2 ∧ Code.ret = Code.ret ∧ ∃ pre' x' s F'', pre ++ [x] = pre' ++ [x'] ∧ InvX w z6 p pre' s x' F'' W2) := Lib.hid (by
            intro W1 F1 hf ht
            have k : ∀ b, b < z6 → b ≠ p → W1.heap[b]? = W.heap[b]? := fun b hb hn => hf.block b (by omega) (hF b hb hn)
            have n1 : ∀ b ∈ F1, b = p ∨ z6 ≤ b := fun b hb => by
              rcases hf.sub b hb with e | e
              · exact h.new b e
              · exact .inr (by omega)
            have e2 := (k w.heap.size (by omega) (by omega)).trans h.r2
            have e3 := (k (w.heap.size + 1) (by omega) (by omega)).trans h.r3
            have e4 := (k (w.heap.size + 1 + 1) (by omega) (by omega)).trans h.r4
            refine ⟨(k B8 (by omega) (by omega)).trans h.q8, (k (B8 + 1) (by omega) (by omega)).trans h.q9, e2, e3, e4, ?_⟩
            intro W2 o1 o2 o3 o4 ob p2 p3 p4
            refine ⟨(hf.others h.tu).trans ⟨Nat.le_of_eq o4.symm, fun b o ho hc => ?_⟩, rfl, pre, x, s, F1, rfl, h.runs, by rw [← hq]; exact hz, ?_, n1, p2, p3, by rw [← hq]; exact p4, ?_, by have := hf.size; omega⟩
            · refine (ob b ?_ ?_ ?_).trans ho <;> rintro rfl
              · rw [e2] at ho; injection ho with ho; rw [← ho] at hc; cases hc
              · rw [e3] at ho; injection ho with ho; rw [← ho] at hc; cases hc
              · rw [e4] at ho; injection ho with ho; rw [← ho] at hc; cases hc
            · rw [← hq]
              exact ht.same fun b hb => by rcases n1 b hb with e | e <;> exact ob b (by omega) (by omega) (by omega)
            · refine ⟨o1.trans (hf.os.trans h.below.os), o2.trans (hf.tape.trans h.below.tape), o3.trans (hf.output.trans h.below.output), by have := h.below.size; have := hf.size; omega, fun b hb => ?_⟩
              exact (ob b (by omega) (by omega) (by omega)).trans ((k b (by omega) (by omega)).trans (h.below.block b hb)))
          clear hq hF hln hL hrow hmu much
          gi_wp2_with (refine ⟨trivial, ?_⟩; gi_at_call 12; refine (CallsIn.inRound l (callsIn_wide.2 H12.out)).mono ?_; rintro e W1 ⟨rfl, F1, hf, ht⟩; obtain ⟨z8, z9, z2, z3, z4, hg⟩ := HG.out W1 F1 hf ht; obtain ⟨c9, f9⟩ := cell1 z9; obtain ⟨c8', f8⟩ := cell1 z8; obtain ⟨d2, f2⟩ := cell1 z2; obtain ⟨d3, f3⟩ := cell1 z3; obtain ⟨d4, f4⟩ := cell1 z4; have HGG := Lib.hid hg; have HZ2 := Lib.hid z2; have HZ3 := Lib.hid z3; have HZ4 := Lib.hid z4; clear hg z9 HG H12 z8 z2 z3 z4 hf ht c8)
          have HG6 : Hid (∀ W5, Set3 W1 W5 w.heap.size (w.heap.size + 1) (w.heap.size + 1 + 1) 24 3 34 (.pointer (some ⟨p, 0, none⟩)) (.int .i64 (pre.length : Nat)) (.int .i64 q.2) → KeepsOthers W W5.drew ∧ Code.ret = Code.ret ∧ ∃ pre' x' s F', pre ++ [x] = pre' ++ [x'] ∧ InvX w z6 p pre' s x' F' W5.drew) := Lib.hid (by
            rintro W5 ⟨a1, a2, a3, a4, a5, a6, a7, a8⟩
            obtain ⟨b1, _, b2⟩ := HGG.out W5.drew a1 a2 a3 a4 a5 a6 a7 a8
            exact ⟨b1, rfl, b2⟩)
          have HG7 := Lib.hid (HG6.out _ (set3_abc (.pointer (some ⟨p, 0, none⟩)) (.int .i64 (pre.length : Nat)) (.int .i64 q.2) (by omega) (by omega) (by omega) HZ2.out HZ3.out HZ4.out))
          clear HG6
          clear HGG HZ2 HZ3 HZ4
          refine wpIn_region_G (fun w' => cel w' B8 0 (.pointer (some ⟨p, 0, none⟩)) ∧ cel w' (B8 + 1) 0 (.int .i64 (pre.length : Nat))) [] (by kernel_rfl) ?_
          refine wpGIn_range 0 3 3 (by kernel_rfl) (by kernel_rfl) rfl (by kernel_rfl) (by decide) ⟨c8', c9⟩ (fun K hK => ?_)
          simp only [List.drop_succ_cons, List.drop_zero, List.take_succ_cons, List.take_zero]
          iterate 3 (refine wpPureIn_plain (v := ?_) rfl (fun _ => rfl) (fun y hy => ?_) ?_; rotate_left; (obtain ⟨y1, y2⟩ := hy; go_simp; rfl))
          refine wpPureIn_nil ?_
          go_simp
          refine hK _ ?_
          clear hK K
          refine wpGIn_one 3 2 rfl (by kernel_rfl) rfl ?_
          gi_wp2
          first | refine Cont.mk ⟨fun _ => ⟨cel_set (c8') (by omega), cel_set (c9) (by omega)⟩, ?_⟩ | refine Cont.mk ⟨⟨cel_set (c8') (by omega), cel_set (c9) (by omega)⟩, ?_⟩
          refine wpGIn_one 4 1 rfl (by kernel_rfl) rfl ?_
          gi_wp2
          first | refine Cont.mk ⟨fun _ => ⟨cel_set (cel_set (c8') (by omega)) (by omega), cel_set (cel_set (c9) (by omega)) (by omega)⟩, ?_⟩ | refine Cont.mk ⟨⟨cel_set (cel_set (c8') (by omega)) (by omega), cel_set (cel_set (c9) (by omega)) (by omega)⟩, ?_⟩
          refine wpGIn_one 5 0 rfl (by kernel_rfl) rfl ?_
          gi_wp2
          first | refine Cont.mk ⟨fun _ => ⟨cel_set (cel_set (cel_set (c8') (by omega)) (by omega)) (by omega), cel_set (cel_set (cel_set (c9) (by omega)) (by omega)) (by omega)⟩, ?_⟩ | refine Cont.mk ⟨⟨cel_set (cel_set (cel_set (c8') (by omega)) (by omega)) (by omega), cel_set (cel_set (cel_set (c9) (by omega)) (by omega)) (by omega)⟩, ?_⟩
          refine wpGIn_done (by kernel_rfl) (NoPanic.normal ?_) _
          gi_wp2
          exact ⟨HG7.out.1, rfl, HG7.out.2.2⟩
      case done =>
        rintro D ys W hD rfl ⟨s, F', h⟩ hK
        obtain ⟨c8, f8⟩ := cell1 h.q8
        obtain ⟨c9, f9⟩ := cell1 h.q9
        obtain ⟨d2, g2⟩ := cell1 h.r2
        obtain ⟨d3, g3⟩ := cell1 h.r3
        obtain ⟨d4, g4⟩ := cell1 h.r4
        have HD : Hid (∀ W5, Set3 W W5 w.heap.size (w.heap.size + 1) (w.heap.size + 1 + 1) 24 3 34 (.pointer (some ⟨p, 0, none⟩)) (.int .i64 ((prs zs).length : Nat)) (.int .i64 0) → W5.drew.heap[D]? = some (.deferred (some [])) ∧ (W5.drew.putObj D (.deferred none)).heap[w.heap.size]? = some (Obj.cells #[.pointer (some ⟨p, 0, none⟩)] 24 (0, 0)) ∧ (W5.drew.putObj D (.deferred none)).heap[w.heap.size + 1]? = some (Obj.cells #[.int .i64 ((prs zs).length : Nat)] 3 (0, 0)) ∧ (W5.drew.putObj D (.deferred none)).heap[w.heap.size + 1 + 1]? = some (Obj.cells #[.int .i64 0] 34 (0, 0)) ∧ ∀ e, e = .returned (.tuple #[.pointer (some ⟨p, 0, none⟩), .int .i64 ((prs zs).length : Nat), .int .i64 0]) → DrawPost w (draw st0 (prs zs)) e (W5.drew.putObj D (.deferred none))) := Lib.hid (by
          rintro W5 ⟨a1, a2, a3, a4, a5, a6, a7, a8⟩
          have hp : ∀ b, b ≠ D → (W5.drew.putObj D (.deferred none)).heap[b]? = W5.heap[b]? := fun b hb => World.putObj_heap_other hb
          have hDz : z6 ≤ D := by omega
          have hDl : D < W.heap.size := (Array.getElem?_eq_some_iff.1 hK).1
          have hFD : ∀ b ∈ F', b ≠ D := fun b hb e => by
            subst e
            obtain ⟨o, ho, hc⟩ := h.tu.cells b hb
            rw [hK] at ho; injection ho with ho; rw [← ho] at hc; cases hc
          refine ⟨(a5 D (by omega) (by omega) (by omega)).trans hK, (hp _ (by omega)).trans a6, (hp _ (by omega)).trans a7, (hp _ (by omega)).trans a8, ?_⟩
          rintro e rfl
          refine ⟨p, F', by rw [h.runs.all], ?_, ?_, fun b hb => ?_⟩
          · refine ⟨a1.trans h.below.os, a2.trans h.below.tape, a3.trans h.below.output, by have := h.below.size; simp; omega, fun b hb => ?_⟩
            exact (hp b (by omega)).trans ((a5 b (by omega) (by omega) (by omega)).trans (h.below.block b hb))
          · rw [h.runs.all]
            refine h.tu.same fun b hb => (hp b (hFD b hb)).trans (a5 b ?_ ?_ ?_) <;> rcases h.new b hb with e | e <;> omega
          · rcases h.new b hb with e | e <;> omega)
        have HD7 := Lib.hid (HD.out _ (set3_abc (.pointer (some ⟨p, 0, none⟩)) (.int .i64 ((prs zs).length : Nat)) (.int .i64 0) (by omega) (by omega) (by omega) h.r2 h.r3 h.r4))
        clear HD h hK hD hL hrow
        gi_wp2
        refine wpIn_region_G (fun w' => cel w' B8 0 (.pointer (some ⟨p, 0, none⟩)) ∧ cel w' (B8 + 1) 0 (.int .i64 ((prs zs).length : Nat))) [] (by kernel_rfl) ?_
        refine wpGIn_range 0 2 3 (by kernel_rfl) (by kernel_rfl) rfl (by kernel_rfl) (by decide) ⟨c8, c9⟩ (fun K hK => ?_)
        simp only [List.drop_succ_cons, List.drop_zero, List.take_succ_cons, List.take_zero]
        iterate 2 (refine wpPureIn_plain (v := ?_) rfl (fun _ => rfl) (fun y hy => ?_) ?_; rotate_left; (obtain ⟨y1, y2⟩ := hy; go_simp; rfl))
        refine wpPureIn_nil ?_
        go_simp
        refine hK _ ?_
        clear hK K
        refine wpGIn_one 2 2 rfl (by kernel_rfl) rfl ?_
        gi_wp2
        first | refine Cont.mk ⟨fun _ => ⟨cel_set (c8) (by omega), cel_set (c9) (by omega)⟩, ?_⟩ | refine Cont.mk ⟨⟨cel_set (c8) (by omega), cel_set (c9) (by omega)⟩, ?_⟩
        refine wpGIn_one 3 1 rfl (by kernel_rfl) rfl ?_
        gi_wp2
        first | refine Cont.mk ⟨fun _ => ⟨cel_set (cel_set (c8) (by omega)) (by omega), cel_set (cel_set (c9) (by omega)) (by omega)⟩, ?_⟩ | refine Cont.mk ⟨⟨cel_set (cel_set (c8) (by omega)) (by omega), cel_set (cel_set (c9) (by omega)) (by omega)⟩, ?_⟩
        refine wpGIn_one 4 0 rfl (by kernel_rfl) rfl ?_
        gi_wp2
        first | refine Cont.mk ⟨fun _ => ⟨cel_set (cel_set (cel_set (c8) (by omega)) (by omega)) (by omega), cel_set (cel_set (cel_set (c9) (by omega)) (by omega)) (by omega)⟩, ?_⟩ | refine Cont.mk ⟨⟨cel_set (cel_set (cel_set (c8) (by omega)) (by omega)) (by omega), cel_set (cel_set (cel_set (c9) (by omega)) (by omega)) (by omega)⟩, ?_⟩
        refine wpGIn_done (by kernel_rfl) (NoPanic.normal ?_) _
        gi_wp2
        obtain ⟨k1, k2, k3, k4, k5⟩ := HD7.out
        refine ⟨by simp, .inl ⟨_, _, rfl, run_takeDeferred k1, ?_⟩⟩
        refine ⟨_, ?_, k5 _ rfl⟩
        simp [results, Try.f14, go_sem, (cell1 k2).1, (cell1 k3).1, (cell1 k4).1]
      case stop =>
        rintro D c pre W hD ⟨k, hk, rfl⟩ ⟨rfl, pre', x, s, F', he, h⟩ hK
        gi_wp2
        refine ⟨by simp, .inl ⟨_, _, rfl, run_takeDeferred hK, ?_⟩⟩
        have hX := h.grown (row := some D) (by omega) (grownBy_putObj' W D (.deferred none)) (fun r e => by cases e; exact ⟨by omega, _, hK, rfl⟩)
        obtain ⟨rs, hrs⟩ := upto_split zs hk
        have hd : draw st0 (prs zs) = ((doT s x.1 x.2).1, pre'.length, (doT s x.1 x.2).2) := by
          unfold prs
          rw [hrs, he, List.append_assoc]
          exact h.runs.stop x h.no rs
        refine ⟨.tuple #[.pointer (some ⟨p, 0, none⟩), .int .i64 (pre'.length : Nat), .int .i64 (doT s x.1 x.2).2], ?_, ?_⟩
        · simp [results, Try.f14, go_sem, (cell1 hX.r2).1, (cell1 hX.r3).1, (cell1 hX.r4).1]
        · refine ⟨p, F', by rw [hd], hX.below, by rw [hd]; exact hX.tu, fun b hb => ?_⟩
          rcases hX.new b hb with e | e <;> omega
end Go.Proofs.Ytkjfbjgcfkmhkaa
