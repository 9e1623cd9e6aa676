import Derived.Test.YtengenceelmijaaNames
namespace Go.Proofs.Ytengenceelmijaa
open Go.RowKit
set_option linter.unusedVariables false

theorem info71 : (Try.prog.info? 71).map (fun i => (i.zero, i.size, i.bytes)) = some (some (.agg #[.string ⟨#[]⟩, .int .i64 0, .int .i64 0, .int .i32 0, .slice none 0 0]), 5, 64) := by kernel_rfl
theorem ti42 : TI Try.prog 42 71 (.agg #[.string ⟨#[]⟩, .int .i64 0, .int .i64 0, .int .i32 0, .slice none 0 0]) 5 64 := ⟨Try.underlying42, info71, rfl, by decide, by decide⟩

def EC (F : List Nat) (w : World) (cs : List Value) (xs : List Ex) : Prop :=
  ∀ i x, xs[i]? = some x → cs[i * 5]? = some (.string x.nm) ∧ cs[i * 5 + 1]? = some (.int .i64 x.kd) ∧ cs[i * 5 + 2]? = some (.int .i64 x.ty) ∧ cs[i * 5 + 3]? = some (.int .i32 x.v) ∧ ∃ pv, cs[i * 5 + 4]? = some pv ∧ PsR F w pv x.ps
theorem EC.keep {F F' : List Nat} {w w' : World} {cs : List Value} {xs : List Ex} (h : EC F w cs xs) (hf : Fr F w F' w') : EC F' w' cs xs := fun i x hi => by
  obtain ⟨h0, h1, h2, h3, pv, h7, hp⟩ := h i x hi
  exact ⟨h0, h1, h2, h3, pv, h7, hp.keep hf⟩
theorem EC.snoc {F : List Nat} {w : World} {cs : List Value} {xs : List Ex} {x : Ex} {pv : Value} (h : EC F w cs xs) (hl : cs.length = xs.length * 5) (hp : PsR F w pv x.ps) :
    EC F w (cs ++ [.string x.nm, .int .i64 x.kd, .int .i64 x.ty, .int .i32 x.v, pv]) (xs ++ [x]) := by
  intro i y hi
  rw [List.getElem?_append] at hi
  split at hi
  · rename_i hlt
    obtain ⟨h0, h1, h2, h3, q, h7, hq⟩ := h i y hi
    have k : ∀ r, r < 5 → (cs ++ [.string x.nm, .int .i64 x.kd, .int .i64 x.ty, .int .i32 x.v, pv])[i * 5 + r]? = cs[i * 5 + r]? := fun r hr => List.getElem?_append_left (by omega)
    exact ⟨(k 0 (by omega)).trans h0, (k 1 (by omega)).trans h1, (k 2 (by omega)).trans h2, (k 3 (by omega)).trans h3, q, (k 4 (by omega)).trans h7, hq⟩
  · rename_i hge
    have hi0 : i - xs.length = 0 := by
      have := (List.getElem?_eq_some_iff.1 hi).1
      simp at this; omega
    rw [hi0] at hi
    simp at hi
    subst hi
    obtain rfl : i = xs.length := by omega
    have k : ∀ r, (cs ++ [.string x.nm, .int .i64 x.kd, .int .i64 x.ty, .int .i32 x.v, pv])[xs.length * 5 + r]? = [Value.string x.nm, .int .i64 x.kd, .int .i64 x.ty, .int .i32 x.v, pv][r]? := fun r => by
      rw [List.getElem?_append_right (by omega), hl, Nat.add_sub_cancel_left]
    exact ⟨k 0, k 1, k 2, k 3, pv, k 4, hp⟩
theorem EC.toR {F : List Nat} {w : World} {v : Value} {cs : List Value} {xs : List Ex} (h : EC F w cs xs) (ho : w.ownsRow 0 71 5 v xs.length cs) (hF : ∀ b, v.ownBlock = some b → b ∉ F) (hl : xs.length ≤ 4194304) : ExR F w v xs := by
  obtain ⟨A, c, rfl, hc, hx⟩ := own_cells ho
  refine ⟨hl, A, c, rfl, hc, fun hne => ?_⟩
  obtain ⟨g, rfl, hb, hg, hx⟩ := hx (List.length_pos_iff.2 hne)
  refine ⟨g, 0, rfl, ⟨hg, hF g hb⟩, fun i x hi => ?_⟩
  obtain ⟨h0, h1, h2, h3, pv, h4, hp⟩ := h i x hi
  rw [Nat.zero_add]
  exact ⟨hx _ _ h0, hx _ _ h1, hx _ _ h2, hx _ _ h3, pv, hx _ _ h4, hp⟩

def fp (v : Value) (F : List Nat) : List Nat := v.ownBlock.toList ++ F
theorem mem_fp {v : Value} {F : List Nat} {b : Nat} : b ∈ fp v F ↔ v.ownBlock = some b ∨ b ∈ F := by
  unfold fp; cases v.ownBlock <;> simp [eq_comm]
/-- Behind an append, its element laid first: what is owned is the row and what was owned. -/
theorem Fr.app {F : List Nat} {w w5 : World} {o : Obj} {v v' : Value} (hg : (w.alloc o).grownBy w5 v.ownBlock) (hob : v'.ownBlock = v.ownBlock ∨ v'.ownBlock = some (w.heap.size + 1)) : Fr (fp v F) w (fp v' F) w5 :=
  ⟨hg.os, hg.tape, hg.output, by have := hg.size; simp at this; omega, fun b hb hbF => (hg.block b (by simp; omega) (fun e => hbF (mem_fp.2 (.inl e.symm)))).trans (Below.heap_alloc w o b hb), fun b h => by
    rcases mem_fp.1 h with h | h
    · rcases hob with h1 | h1
      · exact .inl (mem_fp.2 (.inl (h1 ▸ h)))
      · rw [h1] at h; injection h with h; exact .inr (by omega)
    · exact .inl (mem_fp.2 (.inr h))⟩
theorem PsR.fp {F : List Nat} {w w' : World} {v : Value} {pv : Value} {ps : List (Int × Bool)} (h : PsR F w pv ps) (hB : Below w.heap.size w w') (hv : ∀ b, v.ownBlock = some b → w.heap.size ≤ b) : PsR (Ytengenceelmijaa.fp v F) w' pv ps :=
  Sl.imp h (fun b hb => ⟨Nat.lt_of_lt_of_le hb.1 hB.size, fun hm => by
    rcases mem_fp.1 hm with e | e
    · have := hv b e; have := hb.1; omega
    · exact hb.2 e⟩) fun b o u hb he => ⟨(hB.cell (p := ⟨b, o, none⟩) hb.1).trans he.1, (hB.cell (p := ⟨b, o + 1, none⟩) hb.1).trans he.2⟩
theorem PsR.weak {F F' : List Nat} {w : World} {pv : Value} {ps : List (Int × Bool)} (h : PsR F w pv ps) (hF : ∀ b ∈ F', b ∈ F) : PsR F' w pv ps :=
  Sl.imp h (fun b hb => ⟨hb.1, fun hm => hb.2 (hF b hm)⟩) fun b o u hb he => he
theorem EC.weak {F F' : List Nat} {w : World} {cs : List Value} {xs : List Ex} (h : EC F w cs xs) (hF : ∀ b ∈ F', b ∈ F) : EC F' w cs xs := fun i x hi => by
  obtain ⟨h0, h1, h2, h3, pv, h7, hp⟩ := h i x hi
  exact ⟨h0, h1, h2, h3, pv, h7, hp.weak hF⟩

def toEx (x : Ob) : Ex := ⟨x.nm, x.kd, x.ty, x.n, x.ps⟩
def exportsOf (xs : List Ob) : List Ex := (xs.filter Ob.out).map toEx
theorem exportsOf_succ {xs : List Ob} {j : Nat} {x : Ob} (h : xs[j]? = some x) : exportsOf (xs.take (j + 1)) = exportsOf (xs.take j) ++ if x.out then [toEx x] else [] := by
  rw [List.take_add_one, h, exportsOf, exportsOf, Option.toList_some, List.filter_append, List.map_append]
  congr 1
  cases hx : x.out <;> simp [hx]
theorem exportsOf_len (xs : List Ob) : (exportsOf xs).length ≤ xs.length := by
  unfold exportsOf; rw [List.length_map]; exact List.length_filter_le _ _

set_option maxHeartbeats 2000000 in
set_option maxRecDepth 100000 in
theorem f14_any {F : List Nat} {w : World} {p : Nat} {a : Abs} (h : Sc F w p a) :
    Calls Try.prog 14 #[.pointer (some ⟨p, 0, none⟩)] w fun e w' => ∃ v, e = .returned v ∧ Below w.heap.size w w' ∧ ExR F w' v (exportsOf (a.opn[0]?.getD [])) := by
  obtain ⟨ov, mv, vs, ms, h⟩ := h
  obtain ⟨h0, h1, hf, hp⟩ := h.pcell
  have hs1 := h.small.1
  have hs2 := h.small.2.2
  obtain ⟨A, c, rfl, hc, hA⟩ := own_cells h.ow
  obtain ⟨g, rfl, hgb, hg, hAc⟩ := hA hs2
  obtain ⟨B, d, xs, hxs, hgk, hrd, hxl2, hat⟩ := obs_at h (k := 0) (by omega)
  have htop : a.opn[0]?.getD [] = xs := by rw [hxs]; rfl
  have HT := Lib.hid htop
  have HA := Lib.hid hat
  have HFl : Hid (∀ b ∈ F, b < w.heap.size) := Lib.hid h.lt
  have ki : (0 : Int) < (a.opn.length : Int) := by omega
  clear h h1 hf hA hAc hgb hxs htop hrd hat
  go_enter Try.func14, Try.ntmps14
  go_wp2
  go_loopw [3, 5, 13] (fun v q i wr => ∃ (j : Nat) (cs : List Value), j ≤ xs.length ∧ i = .int .i64 j ∧ Below w.heap.size w wr ∧ OwnN w.heap.size wr 71 5 v (exportsOf (xs.take j)).length cs ∧ EC (fp v F) wr cs (exportsOf (xs.take j))) (fun _ _ i _ => xs.length - (intOf i).toNat)
  case atStart => exact ⟨0, [], Nat.zero_le _, rfl, (Below.refl _ _), OwnN.nil _ _ _ _, fun i x hi => by simp [exportsOf] at hi⟩
  case round =>
    obtain ⟨j, cs, hj, rfl, hB, hown, hec⟩ := hrel
    by_cases hlt : j < xs.length
    · obtain ⟨x, hx⟩ : ∃ x, xs[j]? = some x := ⟨_, List.getElem?_eq_getElem hlt⟩
      obtain ⟨b, rfl, hbl, ⟨q0, q1, q2, q3, q4, q5, q6⟩, pv, q7, hps⟩ := HA.out j x hx
      obtain ⟨Ap, cp, rfl⟩ : ∃ A c, pv = .slice A x.ps.length c := by obtain ⟨_, A, c, h, _⟩ := hps; exact ⟨A, c, h⟩
      have r0 := (hB.cell (p := ⟨b, j * 8, none⟩) hbl).trans q0
      have r1 := (hB.cell (p := ⟨b, j * 8 + 1, none⟩) hbl).trans q1
      have r2 := (hB.cell (p := ⟨b, j * 8 + 2, none⟩) hbl).trans q2
      have r3 := (hB.cell (p := ⟨b, j * 8 + 3, none⟩) hbl).trans q3
      have r4 := (hB.cell (p := ⟨b, j * 8 + 4, none⟩) hbl).trans q4
      have r5 := (hB.cell (p := ⟨b, j * 8 + 5, none⟩) hbl).trans q5
      have r6 := (hB.cell (p := ⟨b, j * 8 + 6, none⟩) hbl).trans q6
      have r7 := (hB.cell (p := ⟨b, j * 8 + 7, none⟩) hbl).trans q7
      have hsn := exportsOf_succ hx
      have HX := Lib.hid hx
      have hBs := hB.size
      have HO := Lib.hid hown
      have HE := Lib.hid hec
      have HPS := Lib.hid hps
      have hle := exportsOf_len (xs.take j)
      rw [List.length_take] at hle
      obtain ⟨Av, cv, rfl, _⟩ := own_cells hown.1
      cases hout : x.out with
      | false =>
        rw [hout] at r6
        rw [if_neg (by rw [hout]; simp), List.append_nil] at hsn
        have HSN := Lib.hid hsn
        clear q0 q1 q2 q3 q4 q5 q6 q7 hx hps hown hec hsn hout
        go_wp2
        go_roundw
        case rel =>
          have hB' := hB.alloc hBs (.cells #[.string x.nm, .int .i64 x.kd, .int .i64 x.ty, .int .i64 x.lv, .int .i32 x.n, .int .i64 x.md, .bool false, .slice Ap x.ps.length cp] 25)
          refine ⟨j + 1, cs, by omega, by go_num, hB', ?_, ?_⟩
          · rw [HSN.out]; exact ⟨HO.out.1.alloc _, HO.out.2⟩
          · rw [HSN.out]; exact HE.out.keep (Fr.of_below ((Below.refl _ _).alloc (Nat.le_refl _) _))
        case measure => simp [intOf]; omega
      | true =>
        rw [hout] at r6
        rw [if_pos hout] at hsn
        obtain ⟨wb, hwb⟩ : ∃ wb, wb = wr.alloc (.cells #[.string x.nm, .int .i64 x.kd, .int .i64 x.ty, .int .i64 x.lv, .int .i32 x.n, .int .i64 x.md, .bool true, .slice Ap x.ps.length cp] 25) := ⟨_, rfl⟩
        have hBb : Below wr.heap.size wr wb := by rw [hwb]; exact (Below.refl _ _).alloc (Nat.le_refl _) _
        have hxb : wb.heap[wr.heap.size]? = some (.cells #[.string x.nm, .int .i64 x.kd, .int .i64 x.ty, .int .i64 x.lv, .int .i32 x.n, .int .i64 x.md, .bool true, .slice Ap x.ps.length cp] 25 (0, 0)) := by rw [hwb]; exact heap_alloc_new wr _
        have hxl := (Array.getElem?_eq_some_iff.1 hxb).1
        obtain ⟨⟨t0, t1, t2, t3, t4, t5, t6, t7⟩, _⟩ := cells8 hxb
        have hP1 : PsR (fp (.slice Av (exportsOf (xs.take j)).length cv) F) wb.drew (.slice Ap x.ps.length cp) x.ps := hps.fp (v := .slice Av (exportsOf (xs.take j)).length cv) (hB.trans (hBb.drew.mono hBs : Below w.heap.size wr wb.drew)) hown.2
        have hFb : ∀ b ∈ fp (.slice Av (exportsOf (xs.take j)).length cv) F, b < wb.drew.heap.size := fun b hb => by
          rcases mem_fp.1 hb with h | h
          · exact Nat.lt_of_lt_of_le (ownsRow_lt hown.1 h) hBb.size
          · exact Nat.lt_of_lt_of_le (Nat.lt_of_lt_of_le (HFl.out b h) hBs) hBb.size
        have HSN := Lib.hid hsn
        have HXB := Lib.hid hxb
        have HP1 := Lib.hid hP1
        have HFB := Lib.hid hFb
        have HB := Lib.hid hwb
        clear q0 q1 q2 q3 q4 q5 q6 q7 hx hps hown hec hsn hout hP1 hFb hxb
        go_wp2_with fail
        rw [← HB.out]
        clear hwb
        have hlen1 : (exportsOf (xs.take j)).length + 1 ≤ 34359738368 := by omega
        go_region_held3 (fun w' => w'.cell? ⟨wr.heap.size, 0, none⟩ = some (.string x.nm) ∧ w'.cell? ⟨wr.heap.size, 1, none⟩ = some (.int .i64 x.kd) ∧ w'.cell? ⟨wr.heap.size, 2, none⟩ = some (.int .i64 x.ty) ∧ w'.cell? ⟨wr.heap.size, 4, none⟩ = some (.int .i32 x.n) ∧ w'.cell? ⟨wr.heap.size, 7, none⟩ = some (.slice Ap x.ps.length cp)) (go_keep) (first | (go_at_call 26; refine (f26_any HP1.out HFB.out).mono ?_; rintro e w1 ⟨pv', rfl, hb1, hp1⟩; obtain ⟨Aq, cq, rfl⟩ : (∃ A c, pv' = .slice A x.ps.length c) := (by obtain ⟨_, A, c, h, _⟩ := hp1; exact ⟨A, c, h⟩); have s0 := (hb1.cell (p := ⟨wr.heap.size, 0, none⟩) hxl).trans t0; have s1 := (hb1.cell (p := ⟨wr.heap.size, 1, none⟩) hxl).trans t1; have s2 := (hb1.cell (p := ⟨wr.heap.size, 2, none⟩) hxl).trans t2; have s4 := (hb1.cell (p := ⟨wr.heap.size, 4, none⟩) hxl).trans t4; have s7 := (hb1.cell (p := ⟨wr.heap.size, 7, none⟩) hxl).trans t7; have HQ := Lib.hid hp1; have HB1 := Lib.hid hb1; clear hp1) | (refine step_app ti42 (by rfl) _ _ (by rfl) (by rfl) (by exact (ownsRow_same (w' := w1) HO.out.1 (fun b hb => (HB1.out.block b (Nat.lt_of_lt_of_le (ownsRow_lt HO.out.1 hb) hBb.size)).trans (hBb.block b (ownsRow_lt HO.out.1 hb)))).alloc _) (by rfl) [.string x.nm, .int .i64 x.kd, .int .i64 x.ty, .int .i32 x.n, .slice Aq x.ps.length cq] (by rfl) (by exact new_src w1 #[.string x.nm, .int .i64 x.kd, .int .i64 x.ty, .int .i32 x.n, .slice Aq x.ps.length cq] 71 (0, 0) 1) (by simp [Value.oneCell']) hlen1 ?_; intro A1 c1 w5 hown5 hg5 hob5; have kc := fun (o : Nat) (u : Value) (hu : w1.cell? ⟨wr.heap.size, o, none⟩ = some u) => ((World.cell?_of_block (a := ⟨wr.heap.size, o, none⟩) (hg5.block wr.heap.size (Nat.lt_trans (Nat.lt_of_lt_of_le hxl HB1.out.size) (by rw [World.size_alloc]; exact Nat.lt_succ_self _)) (fun e => Nat.lt_irrefl _ (ownsRow_lt HO.out.1 e.symm)))).trans (World.cell?_alloc_lt w1 (.cells #[.string x.nm, .int .i64 x.kd, .int .i64 x.ty, .int .i32 x.n, .slice Aq x.ps.length cq] 71) ⟨wr.heap.size, o, none⟩ (Nat.lt_of_lt_of_le hxl HB1.out.size))).trans hu; have k0 := kc 0 _ s0; have k1 := kc 1 _ s1; have k2 := kc 2 _ s2; have k4 := kc 4 _ s4; have k7 := kc 7 _ s7))
        have HG5 := Lib.hid hg5
        have HO5 := Lib.hid hown5
        have HOB5 := Lib.hid hob5
        clear kc hg5 hown5 hob5
        go_wp2
        go_roundw
        case rel =>
          have hb1 := HB1.out
          have hBw1 : Below w.heap.size w w1 := hB.trans ((hBb.drew.trans (hb1.mono hBb.size)).mono hBs)
          have hB5 := (hBw1.alloc (Nat.le_trans hBs (Nat.le_trans hBb.size hb1.size)) (.cells #[.string x.nm, .int .i64 x.kd, .int .i64 x.ty, .int .i32 x.n, .slice Aq x.ps.length cq] 71)).grown HG5.out (by have := hb1.size; simp at this ⊢; omega) (fun b hb => HO.out.2 b hb)
          have hF0 : Fr (fp (.slice Av (exportsOf (xs.take j)).length cv) F) wr (fp (.slice Av (exportsOf (xs.take j)).length cv) F) w1 := Fr.of_below (hBb.drew.trans (hb1.mono hBb.size))
          have hF1 : Fr (fp (.slice Av (exportsOf (xs.take j)).length cv) F) w1 (fp (.slice A1 ((exportsOf (xs.take j)).length + 1) c1) F) w5 := Fr.app HG5.out (by have := HOB5.out; rwa [World.size_alloc] at this)
          refine ⟨j + 1, cs ++ [.string x.nm, .int .i64 x.kd, .int .i64 x.ty, .int .i32 x.n, .slice Aq x.ps.length cq], by omega, by go_num, hB5, ?_, ?_⟩
          · rw [HSN.out, List.length_append]
            refine ⟨HO5.out, fun b hb => ?_⟩
            rcases HOB5.out with h1 | h1
            · exact HO.out.2 b (h1 ▸ hb)
            · rw [h1] at hb; injection hb with hb
              have := hb1.size; rw [World.size_drew] at this
              rw [World.size_alloc] at hb; omega
          · rw [HSN.out]
            exact ((HE.out.keep hF0).keep hF1).snoc (x := toEx x) (by have := HO.out.1.1; omega) (HQ.out.keep hF1)
        case measure => simp [intOf]; omega
    · obtain rfl : j = xs.length := by omega
      go_wp2
      go_ret
      rw [HT.out]
      rw [List.take_of_length_le (Nat.le_refl _)] at hown hec
      exact ⟨_, rfl, hB, (hec.weak fun b hb => mem_fp.2 (.inr hb)).toR hown.1 (fun b hb hm => by have := HFl.out b hm; have := hown.2 b hb; omega) (Nat.le_trans (exportsOf_len _) hxl2)⟩
end Go.Proofs.Ytengenceelmijaa
