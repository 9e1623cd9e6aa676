import Derived.Test.YtkjfbjgcfkmhkaaDr2
import Derived.Test.YtkjfbjgcfkmhkaaRDo
namespace Go.Proofs.Ytkjfbjgcfkmhkaa
open Go.RowKit
set_option linter.unusedVariables false
set_option linter.unusedSimpArgs false

def RDrawPost (w : World) (q : St × Nat × Int) (e : Ending) (w' : World) : Prop := ∃ lv, e = .returned (.tuple #[refV q.1 lv, .int .i64 q.2.1, .int .i64 q.2.2]) ∧ Below w.heap.size w w' ∧ SkR [] w' lv q.1.l
theorem set7 {w : World} {g : Nat} {t : TypeId} {c0 c1 c2 c3 c4 c5 c6 : Value} (hg : w.heap[g]? = some (.cells #[c0, c1, c2, c3, c4, c5, c6] t (0, 0))) (v0 v1 v2 v3 v4 v5 v6 : Value) :
    (((((((w.setCell ⟨g, 0, none⟩ v0).setCell ⟨g, 1, none⟩ v1).setCell ⟨g, 2, none⟩ v2).setCell ⟨g, 3, none⟩ v3).setCell ⟨g, 4, none⟩ v4).setCell ⟨g, 5, none⟩ v5).setCell ⟨g, 6, none⟩ v6).heap[g]? = some (.cells #[v0, v1, v2, v3, v4, v5, v6] t (0, 0)) := by
  have h0 : (w.setCell ⟨g, 0, none⟩ v0).heap[g]? = some (Obj.cells #[v0, c1, c2, c3, c4, c5, c6] t (0, 0)) := by rw [heap_setCell_same _ g 0 _ t v0 hg]; rfl
  have h1 : ((w.setCell ⟨g, 0, none⟩ v0).setCell ⟨g, 1, none⟩ v1).heap[g]? = some (Obj.cells #[v0, v1, c2, c3, c4, c5, c6] t (0, 0)) := by rw [heap_setCell_same _ g 1 _ t v1 h0]; rfl
  have h2 : (((w.setCell ⟨g, 0, none⟩ v0).setCell ⟨g, 1, none⟩ v1).setCell ⟨g, 2, none⟩ v2).heap[g]? = some (Obj.cells #[v0, v1, v2, c3, c4, c5, c6] t (0, 0)) := by rw [heap_setCell_same _ g 2 _ t v2 h1]; rfl
  have h3 : ((((w.setCell ⟨g, 0, none⟩ v0).setCell ⟨g, 1, none⟩ v1).setCell ⟨g, 2, none⟩ v2).setCell ⟨g, 3, none⟩ v3).heap[g]? = some (Obj.cells #[v0, v1, v2, v3, c4, c5, c6] t (0, 0)) := by rw [heap_setCell_same _ g 3 _ t v3 h2]; rfl
  have h4 : (((((w.setCell ⟨g, 0, none⟩ v0).setCell ⟨g, 1, none⟩ v1).setCell ⟨g, 2, none⟩ v2).setCell ⟨g, 3, none⟩ v3).setCell ⟨g, 4, none⟩ v4).heap[g]? = some (Obj.cells #[v0, v1, v2, v3, v4, c5, c6] t (0, 0)) := by rw [heap_setCell_same _ g 4 _ t v4 h3]; rfl
  have h5 : ((((((w.setCell ⟨g, 0, none⟩ v0).setCell ⟨g, 1, none⟩ v1).setCell ⟨g, 2, none⟩ v2).setCell ⟨g, 3, none⟩ v3).setCell ⟨g, 4, none⟩ v4).setCell ⟨g, 5, none⟩ v5).heap[g]? = some (Obj.cells #[v0, v1, v2, v3, v4, v5, c6] t (0, 0)) := by rw [heap_setCell_same _ g 5 _ t v5 h4]; rfl
  have h6 : (((((((w.setCell ⟨g, 0, none⟩ v0).setCell ⟨g, 1, none⟩ v1).setCell ⟨g, 2, none⟩ v2).setCell ⟨g, 3, none⟩ v3).setCell ⟨g, 4, none⟩ v4).setCell ⟨g, 5, none⟩ v5).setCell ⟨g, 6, none⟩ v6).heap[g]? = some (Obj.cells #[v0, v1, v2, v3, v4, v5, v6] t (0, 0)) := by rw [heap_setCell_same _ g 6 _ t v6 h5]; rfl
  exact h6
theorem below7 {n : Nat} {w0 w : World} (h : Below n w0 w) {g : Nat} (hg : n ≤ g) (v0 v1 v2 v3 v4 v5 v6 : Value) :
    Below n w0 (((((((w.setCell ⟨g, 0, none⟩ v0).setCell ⟨g, 1, none⟩ v1).setCell ⟨g, 2, none⟩ v2).setCell ⟨g, 3, none⟩ v3).setCell ⟨g, 4, none⟩ v4).setCell ⟨g, 5, none⟩ v5).setCell ⟨g, 6, none⟩ v6) :=
  ((((((h.setCell (p := ⟨g, 0, none⟩) hg v0).setCell (p := ⟨g, 1, none⟩) hg v1).setCell (p := ⟨g, 2, none⟩) hg v2).setCell (p := ⟨g, 3, none⟩) hg v3).setCell (p := ⟨g, 4, none⟩) hg v4).setCell (p := ⟨g, 5, none⟩) hg v5).setCell (p := ⟨g, 6, none⟩) hg v6
theorem results_ref3 (fn : Func) (r t u : Nat) (hr : fn.results = #[.cell r 28, .tmp t, .tmp u]) (tmps : Array Value) (w : World) (g : Nat) (c0 c1 c2 c3 c4 c5 c6 x y : Value) (hp : tmps.getD r undef = .pointer (some ⟨g, 0, none⟩)) (ht : tmps.getD t undef = x) (hu : tmps.getD u undef = y)
    (hg : w.heap[g]? = some (.cells #[c0, c1, c2, c3, c4, c5, c6] 28 (0, 0))) :
    (results fn tmps).run Try.prog w = .ok (.tuple #[.agg #[c0, c1, c2, c3, c4, c5, c6], x, y]) w := by
  have hp' : tmps[r]?.getD undef = .pointer (some ⟨g, 0, none⟩) := by simpa using hp
  have ht' : tmps[t]?.getD undef = x := by simpa using ht
  have hu' : tmps[u]?.getD undef = y := by simpa using hu
  obtain ⟨⟨h0, h1, h2, h3, h4, h5, h6⟩, _⟩ := cells7 hg
  simp [results, hr, hp', ht', hu', asAddr, go_sem, h0, h1, h2, h3, h4, h5, h6]
theorem ne_set {w : World} {b g : Nat} (hb : b ≠ g) (i : Nat) (v : Value) : (w.setCell ⟨g, i, none⟩ v).heap[b]? = w.heap[b]? := Below.heap_setCell _ _ _ _ (show b ≠ (⟨g, i, none⟩ : Addr).block from hb)
theorem fr1 {F : List Nat} {w : World} {g : Nat} (hg : g ∈ F) (i : Nat) (v : Value) : Fr F w F (w.setCell ⟨g, i, none⟩ v) :=
  ⟨rfl, rfl, rfl, by simp, fun b _ hb => ne_set (fun e => hb (by rw [e]; exact hg)) i v, fun _ h => .inl h⟩
theorem fr7 {F : List Nat} {w : World} {g : Nat} (hg : g ∈ F) (v0 v1 v2 v3 v4 v5 v6 : Value) :
    Fr F w F (((((((w.setCell ⟨g, 0, none⟩ v0).setCell ⟨g, 1, none⟩ v1).setCell ⟨g, 2, none⟩ v2).setCell ⟨g, 3, none⟩ v3).setCell ⟨g, 4, none⟩ v4).setCell ⟨g, 5, none⟩ v5).setCell ⟨g, 6, none⟩ v6) :=
  ((((((fr1 hg 0 v0).trans (fr1 hg 1 v1)).trans (fr1 hg 2 v2)).trans (fr1 hg 3 v3)).trans (fr1 hg 4 v4)).trans (fr1 hg 5 v5)).trans (fr1 hg 6 v6)
theorem SkR.sub {F F' : List Nat} {w : World} {v : Value} {l : List Sk} (h : SkR F w v l) (hs : ∀ b ∈ F', b ∈ F) : SkR F' w v l := Sl.imp h (fun _ hb => ⟨hb.1, fun hm => hb.2 (hs _ hm)⟩) fun _ _ _ _ he => he
theorem SkR.free {F : List Nat} {w : World} {v : Value} {l : List Sk} (h : SkR F w v l) : SkR [] w v l := Sl.imp h (fun _ hb => ⟨hb.1, by simp⟩) fun _ _ _ _ he => he
theorem nums_rng {es : List (Int × Int)} (h : ∀ e ∈ es, -2147483648 ≤ e.2 ∧ e.2 ≤ 2147483647) (j : Nat) : -2147483648 ≤ (nums es)[j]?.getD 0 ∧ (nums es)[j]?.getD 0 ≤ 2147483647 := by
  cases hj : (nums es)[j]? with
  | none => simp
  | some z =>
    have hm := List.mem_of_getElem? hj
    unfold nums at hm
    rw [List.mem_filterMap] at hm
    obtain ⟨e, he, hz⟩ := hm
    by_cases h0 : e.1 = 0
    · rw [if_pos h0] at hz; injection hz with hz; rw [← hz]; exact h e he
    · rw [if_neg h0] at hz; cases hz
theorem Runs.bd {xs : List (Int × Int)} : ∀ {s t : St}, Bd s → Runs s xs t → Bd t := by
  induction xs with
  | nil => rintro s t h rfl; exact h
  | cons y ys ih => rintro s t h ⟨_, h2⟩; exact ih (h.doT _ _) h2
def cells7V (s : St) (lv : Value) : Array Value := #[.int .i64 s.x, .int .i64 s.y, .int .i64 s.dx, .int .i64 s.dy, .int .i64 s.step, .bool s.down, lv]

set_option maxRecDepth 100000 in
set_option maxHeartbeats 2000000 in
theorem f15_any {F : List Nat} {w : World} {v : Value} {es : List (Int × Int)} (h : EvR F w v es) (hl : es.length ≤ 2000000) (hrg : ∀ e ∈ es, -2147483648 ≤ e.2 ∧ e.2 ≤ 2147483647) :
    Calls Try.prog 15 #[v] w (RDrawPost w (draw st0 (prs (nums es)))) := by
  obtain ⟨A, c, rfl, hc, _, hA⟩ := ev_at h
  have HA := Lib.hid hA
  clear hA h
  go_enter Try.func15, Try.ntmps15
  go_wp2_with fail
  go_loopw [5, 6] (fun a i wr => ∃ (j : Nat) (B : Option Addr) (d : Nat), j ≤ es.length ∧ i = .int .i64 j ∧ a = .slice B (nums (es.take j)).length d ∧ Hid (wr.ownsRow 0 21 1 (.slice B (nums (es.take j)).length d) (nums (es.take j)).length ((nums (es.take j)).map (Value.int .i32))) ∧ Hid (∀ b, (Value.slice B (nums (es.take j)).length d).ownBlock = some b → w.heap.size + 1 ≤ b) ∧ Hid (Below (w.heap.size + 1) (w.alloc (.cells zero7 28)) wr)) (fun _ i _ => es.length - (intOf i).toNat)
  case atStart => exact ⟨0, none, 0, Nat.zero_le _, rfl, rfl, Lib.hid (World.ownsRow_nil _ _ _ _), Lib.hid (fun b hb => by simp [Value.ownBlock] at hb), Lib.hid (Below.refl _ _)⟩
  case round =>
    obtain ⟨j, B, d, hj, rfl, rfl, hown, hnew, hBl⟩ := hrel
    by_cases hlt : j < es.length
    · obtain ⟨z, hz⟩ : ∃ z, es[j]? = some z := ⟨_, List.getElem?_eq_getElem hlt⟩
      obtain ⟨b2, o2, rfl, hgd, e0, e1⟩ := HA.out j z hz
      have hBw : Below w.heap.size w wr := ((Below.refl _ w).alloc (Nat.le_refl _) _).trans (hBl.out.mono (by omega))
      have t0 := (hBw.cell (p := ⟨b2, o2 + j * 2, none⟩) hgd.1).trans e0
      have t1 := (hBw.cell (p := ⟨b2, o2 + j * 2 + 1, none⟩) hgd.1).trans e1
      have hb2 : b2 < wr.heap.size := Nat.lt_of_lt_of_le hgd.1 hBw.size
      have HZ := Lib.hid (nums_succ hz)
      have HNL := Lib.hid (nums_len es j)
      have hsz := hBl.out.size
      simp only [World.size_alloc] at hsz
      clear e0 e1 hz hgd hBw
      by_cases hz0 : z.1 = 0
      · go_wp2_with (at_builtin; refine wpList_app ti53 rfl _ _ rfl (by rfl) (hown.out.alloc (.cells #[.int .i32 z.2] 21)) (by rfl) [.int .i32 z.2] rfl (new_src wr #[.int .i32 z.2] 21 (0, 0) 1) (by simp [Value.oneCell']) (by have := HNL.out; omega) ?_; intro A1 c1 w5 hown5 hg5 hob5)
        have hn5 : ∀ b, (Value.slice A1 ((nums (List.take j es)).length + 1) c1).ownBlock = some b → w.heap.size + 1 ≤ b := fun b hb => by
          rcases hob5 with h | h
          · exact hnew.out b (h ▸ hb)
          · rw [h] at hb; injection hb with hb; simp at hb; omega
        have hB5 : Below (w.heap.size + 1) (w.alloc (.cells zero7 28)) w5 := (hBl.out.alloc (by omega) (.cells #[.int .i32 z.2] 21)).grown hg5 (by simp; omega) (fun b hb => hnew.out b hb)
        go_roundw
        case rel =>
          have e : nums (es.take (j + 1)) = nums (es.take j) ++ [z.2] := by rw [HZ.out, if_pos hz0]
          refine ⟨j + 1, A1, c1, by omega, by simp, by rw [e]; simp, Lib.hid ?_, Lib.hid ?_, Lib.hid hB5⟩
          · rw [e, List.map_append, List.length_append]; exact hown5
          · rw [e, List.length_append]; exact hn5
        case measure => simp [intOf]; omega
      · have hz0' : (z.1 == 0) = false := by simpa using hz0
        go_wp2_with fail
        go_roundw
        case rel =>
          have e : nums (es.take (j + 1)) = nums (es.take j) := by rw [HZ.out, if_neg hz0, List.append_nil]
          refine ⟨j + 1, B, d, by omega, by simp, by rw [e], Lib.hid ?_, Lib.hid ?_, Lib.hid hBl.out⟩
          · rw [e]; exact hown.out
          · rw [e]; exact hnew.out
        case measure => simp [intOf]; omega
    · obtain rfl : j = es.length := by omega
      have hnl := nums_len es es.length
      have HRG := Lib.hid (nums_rng hrg)
      clear hrg
      rw [List.take_length] at hown hnew hnl ⊢
      generalize nums es = zs at *
      have H10 : Hid (Calls Try.prog 10 #[] wr fun e w' => e = .returned (.agg #[.int .i64 0, .int .i64 0, .int .i64 1, .int .i64 0, .int .i64 1, .bool true, .slice none 0 0]) ∧ Below wr.heap.size wr w') := Lib.hid (f10_any wr)
      go_wp2_with (go_at_call 10; refine H10.out.mono ?_; rintro e w7 ⟨rfl, hB7⟩; have HB7 := Lib.hid hB7; clear hB7)
      obtain ⟨w8, hw8⟩ : ∃ w8, w8 = w7.alloc (Obj.cells #[Value.int IntKind.i64 0, Value.int IntKind.i64 0, Value.int IntKind.i64 1, Value.int IntKind.i64 0, Value.int IntKind.i64 1, Value.bool true, Value.slice none 0 0] 28) := ⟨_, rfl⟩
      rw [← hw8]
      have hg7 : w8.heap[w7.heap.size]? = some (Obj.cells (cells7V st0 (.slice none 0 0)) 28 (0, 0)) := by rw [hw8]; exact heap_alloc_new _ _
      have hB78 : Below wr.heap.size wr w8 := by rw [hw8]; exact HB7.out.alloc HB7.out.size _
      have hwr : w.heap.size + 1 ≤ wr.heap.size := by have := hBl.out.size; simpa using this
      have hwr7 : wr.heap.size ≤ w7.heap.size := HB7.out.size
      have hg8 : w7.heap.size < w8.heap.size := by rw [hw8]; simp
      have hg2 : w8.heap[w.heap.size]? = some (Obj.cells zero7 28 (0, 0)) := (hB78.block w.heap.size (by omega)).trans ((hBl.out.block w.heap.size (by omega)).trans (heap_alloc_new w _))
      have hown8 : w8.ownsRow 0 21 1 (.slice B zs.length d) zs.length (zs.map (Value.int .i32)) := ownsRow_same hown.out fun b hb => hB78.block b (ownsRow_lt hown.out hb)
      have hBw8 : Below w.heap.size w w8 := (((Below.refl _ w).alloc (Nat.le_refl _) _).trans (hBl.out.mono (by omega))).trans (hB78.mono (by omega))
      have hrow : ∀ b, (Value.slice B zs.length d).ownBlock = some b → b < wr.heap.size := fun b hb => ownsRow_lt hown.out hb
      have HZ : Hid (∀ j, j < zs.length → ∃ g, B = some ⟨g, 0, none⟩ ∧ g < wr.heap.size ∧ w8.cell? ⟨g, j, none⟩ = some (.int .i32 (zs[j]?.getD 0))) := Lib.hid (fun j hj => by
        obtain ⟨A', c', he, _, hx⟩ := own_cells hown8
        injection he with he1 _ he2
        subst he1; subst he2
        obtain ⟨g, rfl, hg, _, hx⟩ := hx (by omega)
        exact ⟨g, rfl, hrow g hg, hx j (.int .i32 (zs[j]?.getD 0)) (by rw [List.getElem?_map, List.getElem?_eq_getElem hj]; rfl)⟩)
      generalize hg : w7.heap.size = g7 at *
      generalize wr.heap.size = r0 at *
      clear hw8 hB78 HB7 hBl hown hnew H10 hown8 hrow HA hj hlt
      go_loopw [8] (fun i wx => ∃ (k : Nat) (s : St) (A : Option Addr) (c : Nat), k ≤ zs.length / 2 ∧ i = .int .i64 ((2 * k : Nat) : Int) ∧ Hid (Runs st0 (upto zs k) s) ∧ Hid (wx.heap[g7]? = some (Obj.cells (cells7V s (.slice A s.l.length c)) 28 (0, 0))) ∧ Hid (SkR [w.heap.size, g7] wx (.slice A s.l.length c) s.l) ∧ Hid (Below g7 w8 wx) ∧ w8.heap.size ≤ wx.heap.size) (fun i _ => zs.length - (intOf i).toNat)
      case atStart => exact ⟨0, st0, none, 0, Nat.zero_le _, rfl, Lib.hid rfl, Lib.hid hg7, Lib.hid (Sl.nil _ _ _), Lib.hid (Below.refl _ _), Nat.le_refl _⟩
      case round =>
        obtain ⟨k, s, A, c, hk, rfl, HR, HG, HSK, HBX, hs8⟩ := hrel
        by_cases hlt : k < zs.length / 2
        · obtain ⟨g, rfl, hgw, c0⟩ := HZ.out (2 * k) (by omega)
          obtain ⟨g', he, _, c1⟩ := HZ.out (2 * k + 1) (by omega)
          injection he with he; injection he with he; subst he
          have lt1 : (2 * (k : Int)) + 1 < (zs.length : Int) := by omega
          have lt0 : (2 * (k : Int)) < (zs.length : Int) := by omega
          have p0 : (0 : Int) ≤ 2 * (k : Int) := by omega
          have tn0 : (2 * (k : Int)).toNat = 2 * k := by omega
          have tn1 : (2 * (k : Int) + 1).toNat = 2 * k + 1 := by omega
          have p1 : (0 : Int) ≤ 2 * (k : Int) + 1 := by omega
          have wr1 : IntKind.i64.wrap (2 * (k : Int) + 1) = 2 * (k : Int) + 1 := IntWalk.i64_in _ (by omega)
          have x0 := (HBX.out.cell (p := ⟨g, 2 * k, none⟩) (show g < g7 by omega)).trans c0
          have x1 := (HBX.out.cell (p := ⟨g, 2 * k + 1, none⟩) (show g < g7 by omega)).trans c1
          have hln := HR.out.len
          simp only [show st0.l = [] from rfl, List.length_nil, upto_length] at hln
          obtain ⟨hm1, hm2⟩ := HRG.out (2 * k + 1)
          obtain ⟨q, hq⟩ : ∃ q, q = doT s (zs[2 * k]?.getD 0) (zs[2 * k + 1]?.getD 0) := ⟨_, rfl⟩
          have hbd : Bd s := HR.out.bd Bd.st0
          have H11 : Hid (∀ F wx, Below wr.heap.size wr wx → (∀ b ∈ F, b ∈ [w.heap.size, g7] ∨ wr.heap.size ≤ b) → (∀ b ∈ F, b < wx.heap.size) → Calls Try.prog 11 #[.agg #[.int .i64 s.x, .int .i64 s.y, .int .i64 s.dx, .int .i64 s.dy, .int .i64 s.step, .bool s.down, .slice A s.l.length c], .int .i32 (zs[2 * k]?.getD 0), .int .i32 (zs[2 * k + 1]?.getD 0)] wx fun e w' =>
              ∃ A' c', e = .returned (.tuple #[.agg #[.int .i64 q.1.x, .int .i64 q.1.y, .int .i64 q.1.dx, .int .i64 q.1.dy, .int .i64 q.1.step, .bool q.1.down, .slice A' q.1.l.length c'], .int .i64 q.2]) ∧ Below wx.heap.size wx w' ∧ SkR F w' (.slice A' q.1.l.length c') q.1.l) := Lib.hid (by
            intro F wx hwx h1 h2
            refine (f11_any (what := zs[2 * k]?.getD 0) (HSK.out.keep (Fr.more hwx h1)) h2 (by omega) hbd hm1 hm2).mono ?_
            rintro e w' ⟨lv, rfl, hB, hsk⟩
            rw [← hq] at hsk
            obtain ⟨A', c', rfl, _⟩ := sk_at hsk
            exact ⟨A', c', by rw [hq]; rfl, hB, hsk⟩)
          have HEND : Hid (∀ (W9 : World) (n9 : Nat) (A' : Option Addr) (c' : Nat), W9.heap[n9]? = some (Obj.cells (cells7V q.1 (.slice A' q.1.l.length c')) 28 (0, 0)) → Below wr.heap.size wr W9 → SkR [w.heap.size, g7] W9 (.slice A' q.1.l.length c') q.1.l →
              W9.heap[g7]? = some (Obj.cells (cells7V s (.slice A s.l.length c)) 28 (0, 0)) ∧ W9.heap[w.heap.size]? = some (Obj.cells zero7 28 (0, 0)) ∧
              (q.2 = 0 → ∀ W10, W10 = (((((((W9.setCell ⟨g7, 0, none⟩ (.int .i64 q.1.x)).setCell ⟨g7, 1, none⟩ (.int .i64 q.1.y)).setCell ⟨g7, 2, none⟩ (.int .i64 q.1.dx)).setCell ⟨g7, 3, none⟩ (.int .i64 q.1.dy)).setCell ⟨g7, 4, none⟩ (.int .i64 q.1.step)).setCell ⟨g7, 5, none⟩ (.bool q.1.down)).setCell ⟨g7, 6, none⟩ (.slice A' q.1.l.length c')) →
                ∃ (k' : Nat) (s' : St) (A : Option Addr) (c : Nat), k' ≤ zs.length / 2 ∧ Value.int .i64 (2 * (k : Int) + 2) = .int .i64 ((2 * k' : Nat) : Int) ∧ Hid (Runs st0 (upto zs k') s') ∧ Hid (W10.heap[g7]? = some (Obj.cells (cells7V s' (.slice A s'.l.length c)) 28 (0, 0))) ∧ Hid (SkR [w.heap.size, g7] W10 (.slice A s'.l.length c) s'.l) ∧ Hid (Below g7 w8 W10) ∧ w8.heap.size ≤ W10.heap.size) ∧
              (q.2 ≠ 0 → ∀ W10, W10 = (((((((W9.setCell ⟨w.heap.size, 0, none⟩ (.int .i64 q.1.x)).setCell ⟨w.heap.size, 1, none⟩ (.int .i64 q.1.y)).setCell ⟨w.heap.size, 2, none⟩ (.int .i64 q.1.dx)).setCell ⟨w.heap.size, 3, none⟩ (.int .i64 q.1.dy)).setCell ⟨w.heap.size, 4, none⟩ (.int .i64 q.1.step)).setCell ⟨w.heap.size, 5, none⟩ (.bool q.1.down)).setCell ⟨w.heap.size, 6, none⟩ (.slice A' q.1.l.length c')) →
                W10.heap[w.heap.size]? = some (Obj.cells (cells7V q.1 (.slice A' q.1.l.length c')) 28 (0, 0)) ∧ RDrawPost w (draw st0 (prs zs)) (.returned (.tuple #[.agg (cells7V q.1 (.slice A' q.1.l.length c')), .int .i64 (k : Nat), .int .i64 q.2])) W10)) := Lib.hid (by
            intro W9 n9 A' c' hn9 hB9 hsk
            have z7 := (hB9.block g7 (by omega)).trans HG.out
            have z2 := (hB9.block w.heap.size (by omega)).trans ((HBX.out.block w.heap.size (by omega)).trans hg2)
            refine ⟨z7, z2, fun hq0 W10 hW10 => ?_, fun hq0 W10 hW10 => ?_⟩
            · refine ⟨k + 1, q.1, A', c', by omega, by congr 1, Lib.hid ?_, Lib.hid ?_, Lib.hid ?_, Lib.hid ?_, ?_⟩
              · rw [upto_succ, hq]; exact HR.out.snoc (x := pr zs k) (by rw [hq] at hq0; exact hq0)
              · rw [hW10]; exact set7 z7 _ _ _ _ _ _ _
              · rw [hW10]; exact hsk.keep (fr7 (by simp) _ _ _ _ _ _ _)
              · rw [hW10]; exact below7 (HBX.out.trans (hB9.mono (by omega))) (Nat.le_refl _) _ _ _ _ _ _ _
              · rw [hW10]; have := hB9.size; simp; omega
            · refine ⟨by rw [hW10]; exact set7 z2 _ _ _ _ _ _ _, .slice A' q.1.l.length c', ?_, ?_, ?_⟩
              · obtain ⟨rs, hrs⟩ := upto_split zs (show k + 1 ≤ zs.length / 2 by omega)
                have hd : draw st0 (prs zs) = (q.1, k, q.2) := by
                  unfold prs
                  rw [hrs, upto_succ, List.append_assoc]
                  rw [show [pr zs k] ++ rs = pr zs k :: rs from rfl, HR.out.stop (pr zs k) (by rw [hq] at hq0; exact hq0) rs, upto_length, hq]
                  rfl
                rw [hd]; rfl
              · rw [hW10]; exact below7 (hBw8.trans ((HBX.out.trans (hB9.mono (by omega))).mono (by omega))) (Nat.le_refl _) _ _ _ _ _ _ _
              · rw [hW10]
                have hd : (draw st0 (prs zs)).1 = q.1 := by
                  obtain ⟨rs, hrs⟩ := upto_split zs (show k + 1 ≤ zs.length / 2 by omega)
                  unfold prs
                  rw [hrs, upto_succ, List.append_assoc]
                  rw [show [pr zs k] ++ rs = pr zs k :: rs from rfl, HR.out.stop (pr zs k) (by rw [hq] at hq0; exact hq0) rs, hq]
                  rfl
                rw [hd]
                exact (hsk.keep (fr7 (by simp) _ _ _ _ _ _ _)).free)
          have hq2 : ∀ qq, qq = q.2 → True := fun _ _ => trivial
          clear hq HR HBX hg2 hBw8 hq2
          clear c0 c1 HZ hln hm1 hm2 HRG hbd
          go_wp2_with fail
          have hg7' : g7 < wr.heap.size := by omega
          refine wp_region_G (fun w' => w'.heap[g7]? = some (Obj.cells (cells7V s (.slice A s.l.length c)) 28 (0, 0)) ∧ w'.cell? ⟨g, 2 * k, none⟩ = some (.int .i32 (zs[2 * k]?.getD 0)) ∧ w'.cell? ⟨g, 2 * k + 1, none⟩ = some (.int .i32 (zs[2 * k + 1]?.getD 0))) [] (by kernel_rfl) ?_
          have hS : wr.drew.heap[g7]? = some (Obj.cells (cells7V s (.slice A s.l.length c)) 28 (0, 0)) ∧ wr.drew.cell? ⟨g, 2 * k, none⟩ = some (.int .i32 (zs[2 * k]?.getD 0)) ∧ wr.drew.cell? ⟨g, 2 * k + 1, none⟩ = some (.int .i32 (zs[2 * k + 1]?.getD 0)) := ⟨HG.out, x0, x1⟩
          have HS : Hid (∀ w', Below wr.heap.size wr w' → w'.heap[g7]? = some (Obj.cells (cells7V s (.slice A s.l.length c)) 28 (0, 0)) ∧ w'.cell? ⟨g, 2 * k, none⟩ = some (.int .i32 (zs[2 * k]?.getD 0)) ∧ w'.cell? ⟨g, 2 * k + 1, none⟩ = some (.int .i32 (zs[2 * k + 1]?.getD 0))) := Lib.hid (fun w' h => ⟨(h.block g7 hg7').trans HG.out, (h.cell (p := ⟨g, 2 * k, none⟩) (show g < wr.heap.size by omega)).trans x0, (h.cell (p := ⟨g, 2 * k + 1, none⟩) (show g < wr.heap.size by omega)).trans x1⟩)
          refine wpG_range 0 10 7 (by kernel_rfl) rfl (by kernel_rfl) (by decide) hS (fun K hK => ?_)
          simp only [List.drop_succ_cons, List.drop_zero, List.take_succ_cons, List.take_zero]
          iterate 10 (refine wpPure_plain (v := ?_) rfl (fun y hy => ?_) ?_; rotate_left; (obtain ⟨h0, h1, h2⟩ := hy; obtain ⟨⟨y0, y1, y2, y3, y4, y5, y6⟩, _⟩ := cells7 h0; go_simp; rfl))
          refine wpPure_nil ?_
          go_simp
          refine hK _ ?_
          clear hK K hS x0 x1
          refine wpG_two 10 14 6 rfl (by kernel_rfl) rfl rfl ?_ ?_
          · go_wp2_with (go_at_call 11; refine (H11.out [w.heap.size, g7] _ (Below.refl _ _).drew (fun b hb => .inl hb) (fun b hb => by simp at hb ⊢; omega)).mono ?_; rintro e w1 ⟨A1, c1, rfl, hB1, hsk1⟩; have HB1 := Lib.hid hB1; have HSK1 := Lib.hid hsk1; clear hB1 hsk1)
            have hB1 := (Below.refl wr.heap.size wr).drew.trans HB1.out
            refine Cont.mk ⟨fun _ => HS.out _ hB1, ?_⟩
            refine wpG_range 11 3 3 (by kernel_rfl) rfl (by kernel_rfl) (by decide) (HS.out _ hB1) (fun K hK => ?_)
            simp only [List.drop_succ_cons, List.drop_zero, List.take_succ_cons, List.take_zero]
            iterate 3 (refine wpPure_plain (v := ?_) rfl (fun y hy => ?_) ?_; rotate_left; (go_simp; rfl))
            refine wpPure_nil ?_
            go_simp
            refine hK _ ?_
            clear hK K
            refine wpG_one 14 2 rfl (by kernel_rfl) rfl ?_
            go_wp2
            have hB2 := hB1.alloc hB1.size (Obj.cells zero7 28)
            refine Cont.mk ⟨fun _ => HS.out _ hB2, ?_⟩
            refine wpG_one 15 1 rfl (by kernel_rfl) rfl ?_
            go_wp2
            obtain ⟨n9, hn9e⟩ : ∃ n9, n9 = w1.heap.size := ⟨_, rfl⟩
            obtain ⟨W9, hW9⟩ : ∃ W9, W9 = w1.alloc (Obj.cells (cells7V q.1 (.slice A1 q.1.l.length c1)) 28) := ⟨_, rfl⟩
            have hn9 : W9.heap[n9]? = some (Obj.cells (cells7V q.1 (.slice A1 q.1.l.length c1)) 28 (0, 0)) := by rw [hW9, hn9e]; exact heap_alloc_new _ _
            have hB9 : Below wr.heap.size wr W9 := by rw [hW9]; exact hB1.alloc hB1.size _
            have hsk9 : SkR [w.heap.size, g7] W9 (.slice A1 q.1.l.length c1) q.1.l := by rw [hW9]; exact HSK1.out.keep (Fr.of_below ((Below.refl _ _).alloc (Nat.le_refl _) _))
            unfold cells7V at hW9
            rw [← hW9, ← hn9e]
            clear hW9 hn9e hB2 HB1 HSK1 hB1
            refine Cont.mk ⟨fun _ => HS.out _ hB9, ?_⟩
            refine wpG_one 16 0 rfl (by kernel_rfl) rfl ?_
            go_wp2
            refine Cont.mk ⟨fun _ => HS.out _ hB9, ?_⟩
            refine wpG_done (by kernel_rfl) (NoPanic.normal ?_) _
            obtain ⟨z7, z2, he0, he1⟩ := HEND.out W9 n9 A1 c1 hn9 hB9 hsk9
            clear HEND H11 HG HS hB9 hsk9
            obtain ⟨⟨x0, x1, x2, x3, x4, x5, x6⟩, _⟩ := cells7 hn9
            have HN9 := Lib.hid hn9
            clear hn9
            by_cases hq0 : q.2 = 0
            · have HE := Lib.hid (he0 hq0)
              clear he0 he1
              obtain ⟨⟨y0, y1, y2, y3, y4, y5, y6⟩, yf⟩ := cells7 z7
              have yf0 := yf 0
              have yf1 := yf 1
              have yf2 := yf 2
              have yf3 := yf 3
              have yf4 := yf 4
              have yf5 := yf 5
              have yf6 := yf 6
              clear yf z7 z2
              have wr2 : IntKind.i64.wrap (2 * (k : Int) + 2) = 2 * (k : Int) + 2 := IntWalk.i64_in _ (by clear wr1; omega)
              rw [hq0]
              go_wp2_with fail
              go_roundw
              case rel => exact HE.out _ rfl
              case measure => clear wr1 wr2; simp only [intOf]; omega
            · have HE := Lib.hid (he1 hq0)
              clear he0 he1
              have hq1 : (q.2 != 0) = true := by simpa using hq0
              obtain ⟨⟨y0, y1, y2, y3, y4, y5, y6⟩, yf⟩ := cells7 z2
              have yf0 := yf 0
              have yf1 := yf 1
              have yf2 := yf 2
              have yf3 := yf 3
              have yf4 := yf 4
              have yf5 := yf 5
              have yf6 := yf 6
              clear yf z7 z2
              go_wp2_with fail
              obtain ⟨zz, pp⟩ := HE.out _ rfl
              exact bodyPost_ret (results_ref3 _ 2 3 4 Try.results15 _ _ _ _ _ _ _ _ _ _ _ _ rfl rfl rfl zz) rfl pp
          · go_wp2
            have hBa := (Below.refl wr.heap.size wr).drew.alloc (Nat.le_refl _) (Obj.cells zero7 28)
            refine Cont.mk ⟨fun _ => HS.out _ hBa, ?_⟩
            refine wpG_one 10 5 rfl (by kernel_rfl) rfl ?_
            go_wp2_with (go_at_call 11; refine (H11.out [w.heap.size, g7, wr.heap.size] _ hBa (fun b hb => by simp at hb ⊢; omega) (fun b hb => by simp at hb ⊢; omega)).mono ?_; rintro e w1 ⟨A1, c1, rfl, hB1, hsk1⟩; have HB1 := Lib.hid hB1; have HSK1 := Lib.hid hsk1; clear hB1 hsk1)
            have hB1 : Below wr.heap.size wr w1 := hBa.trans (HB1.out.mono hBa.size)
            have zn : w1.heap[wr.heap.size]? = some (Obj.cells zero7 28 (0, 0)) := (HB1.out.block wr.heap.size (by simp)).trans (heap_alloc_new wr.drew _)
            have hsz1 : wr.heap.size < w1.heap.size := by have := HB1.out.size; simp at this; omega
            refine Cont.mk ⟨fun _ => HS.out _ hB1, ?_⟩
            refine wpG_range 11 3 2 (by kernel_rfl) rfl (by kernel_rfl) (by decide) (HS.out _ hB1) (fun K hK => ?_)
            simp only [List.drop_succ_cons, List.drop_zero, List.take_succ_cons, List.take_zero]
            iterate 3 (refine wpPure_plain (v := ?_) rfl (fun y hy => ?_) ?_; rotate_left; (go_simp; rfl))
            refine wpPure_nil ?_
            go_simp
            refine hK _ ?_
            clear hK K
            obtain ⟨⟨t0, t1, t2, t3, t4, t5, t6⟩, tf⟩ := cells7 zn
            have tf0 := tf 0
            have tf1 := tf 1
            have tf2 := tf 2
            have tf3 := tf 3
            have tf4 := tf 4
            have tf5 := tf 5
            have tf6 := tf 6
            clear tf
            have ZN := Lib.hid zn
            clear zn
            refine wpG_one 15 1 rfl (by kernel_rfl) rfl ?_
            go_wp2
            obtain ⟨W9, hW9⟩ : ∃ W9, W9 = (((((((w1.setCell ⟨wr.heap.size, 0, none⟩ (.int .i64 q.1.x)).setCell ⟨wr.heap.size, 1, none⟩ (.int .i64 q.1.y)).setCell ⟨wr.heap.size, 2, none⟩ (.int .i64 q.1.dx)).setCell ⟨wr.heap.size, 3, none⟩ (.int .i64 q.1.dy)).setCell ⟨wr.heap.size, 4, none⟩ (.int .i64 q.1.step)).setCell ⟨wr.heap.size, 5, none⟩ (.bool q.1.down)).setCell ⟨wr.heap.size, 6, none⟩ (.slice A1 q.1.l.length c1)) := ⟨_, rfl⟩
            have hn9 : W9.heap[wr.heap.size]? = some (Obj.cells (cells7V q.1 (.slice A1 q.1.l.length c1)) 28 (0, 0)) := by rw [hW9]; exact set7 ZN.out _ _ _ _ _ _ _
            have hB9 : Below wr.heap.size wr W9 := by rw [hW9]; exact below7 hB1 (Nat.le_refl _) _ _ _ _ _ _ _
            have hsk9 : SkR [w.heap.size, g7] W9 (.slice A1 q.1.l.length c1) q.1.l := by rw [hW9]; exact (HSK1.out.keep (fr7 (by simp) _ _ _ _ _ _ _)).sub (fun b hb => by simp at hb ⊢; omega)
            rw [← hW9]
            obtain ⟨n9, hn9e⟩ : ∃ n9, n9 = wr.heap.size := ⟨_, rfl⟩
            rw [← hn9e] at hn9 ⊢
            clear hW9 hn9e HB1 HSK1 hB1 hBa ZN t0 t1 t2 t3 t4 t5 t6 tf0 tf1 tf2 tf3 tf4 tf5 tf6
            refine Cont.mk ⟨fun _ => HS.out _ hB9, ?_⟩
            refine wpG_one 16 0 rfl (by kernel_rfl) rfl ?_
            go_wp2
            refine Cont.mk ⟨fun _ => HS.out _ hB9, ?_⟩
            refine wpG_done (by kernel_rfl) (NoPanic.normal ?_) _
            obtain ⟨z7, z2, he0, he1⟩ := HEND.out W9 n9 A1 c1 hn9 hB9 hsk9
            clear HEND H11 HG HS hB9 hsk9
            obtain ⟨⟨x0, x1, x2, x3, x4, x5, x6⟩, _⟩ := cells7 hn9
            have HN9 := Lib.hid hn9
            clear hn9
            by_cases hq0 : q.2 = 0
            · have HE := Lib.hid (he0 hq0)
              clear he0 he1
              obtain ⟨⟨y0, y1, y2, y3, y4, y5, y6⟩, yf⟩ := cells7 z7
              have yf0 := yf 0
              have yf1 := yf 1
              have yf2 := yf 2
              have yf3 := yf 3
              have yf4 := yf 4
              have yf5 := yf 5
              have yf6 := yf 6
              clear yf z7 z2
              have wr2 : IntKind.i64.wrap (2 * (k : Int) + 2) = 2 * (k : Int) + 2 := IntWalk.i64_in _ (by clear wr1; omega)
              rw [hq0]
              go_wp2_with fail
              go_roundw
              case rel => exact HE.out _ rfl
              case measure => clear wr1 wr2; simp only [intOf]; omega
            · have HE := Lib.hid (he1 hq0)
              clear he0 he1
              have hq1 : (q.2 != 0) = true := by simpa using hq0
              obtain ⟨⟨y0, y1, y2, y3, y4, y5, y6⟩, yf⟩ := cells7 z2
              have yf0 := yf 0
              have yf1 := yf 1
              have yf2 := yf 2
              have yf3 := yf 3
              have yf4 := yf 4
              have yf5 := yf 5
              have yf6 := yf 6
              clear yf z7 z2
              go_wp2_with fail
              obtain ⟨zz, pp⟩ := HE.out _ rfl
              exact bodyPost_ret (results_ref3 _ 2 3 4 Try.results15 _ _ _ _ _ _ _ _ _ _ _ _ rfl rfl rfl zz) rfl pp
        · obtain rfl : k = zs.length / 2 := by omega
          have ge1 : ¬ (2 * ((zs.length / 2 : Nat) : Int)) + 1 < (zs.length : Int) := by omega
          obtain ⟨⟨x0, x1, x2, x3, x4, x5, x6⟩, xf⟩ := cells7 HG.out
          have z2 := (HBX.out.block w.heap.size (by omega)).trans hg2
          obtain ⟨⟨y0, y1, y2, y3, y4, y5, y6⟩, yf⟩ := cells7 z2
          have yf0 := yf 0
          have yf1 := yf 1
          have yf2 := yf 2
          have yf3 := yf 3
          have yf4 := yf 4
          have yf5 := yf 5
          have yf6 := yf 6
          clear yf xf
          have HE : Hid (∀ W10, W10 = (((((((wr.setCell ⟨w.heap.size, 0, none⟩ (.int .i64 s.x)).setCell ⟨w.heap.size, 1, none⟩ (.int .i64 s.y)).setCell ⟨w.heap.size, 2, none⟩ (.int .i64 s.dx)).setCell ⟨w.heap.size, 3, none⟩ (.int .i64 s.dy)).setCell ⟨w.heap.size, 4, none⟩ (.int .i64 s.step)).setCell ⟨w.heap.size, 5, none⟩ (.bool s.down)).setCell ⟨w.heap.size, 6, none⟩ (.slice A s.l.length c)) →
                W10.heap[w.heap.size]? = some (Obj.cells (cells7V s (.slice A s.l.length c)) 28 (0, 0)) ∧ RDrawPost w (draw st0 (prs zs)) (.returned (.tuple #[.agg (cells7V s (.slice A s.l.length c)), .int .i64 ((zs.length : Int) / 2), .int .i64 0])) W10) := Lib.hid (by
            intro W10 hW10
            have hd : draw st0 (prs zs) = (s, zs.length / 2, 0) := by
              unfold prs
              rw [HR.out.all, upto_length]
            refine ⟨by rw [hW10]; exact set7 z2 _ _ _ _ _ _ _, .slice A s.l.length c, by rw [hd]; simp [refV, cells7V], ?_, ?_⟩
            · rw [hW10]; exact below7 (hBw8.trans (HBX.out.mono (by omega))) (Nat.le_refl _) _ _ _ _ _ _ _
            · rw [hd, hW10]
              exact (HSK.out.keep (fr7 (by simp) _ _ _ _ _ _ _)).free)
          go_wp2_with fail
          obtain ⟨zz, pp⟩ := HE.out _ rfl
          exact bodyPost_ret (results_ref3 _ 2 3 4 Try.results15 _ _ _ _ _ _ _ _ _ _ _ _ rfl rfl rfl zz) rfl pp
end Go.Proofs.Ytkjfbjgcfkmhkaa
