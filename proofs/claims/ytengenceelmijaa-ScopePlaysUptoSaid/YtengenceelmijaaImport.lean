import Derived.Test.YtengenceelmijaaExports
namespace Go.Proofs.Ytengenceelmijaa
open Go.RowKit
set_option linter.unusedVariables false

theorem ScV.addMod {F : List Nat} {w0 w w2 : World} {p : Nat} {a : Abs} {ov mv mv' u : Value} {vs ms : List Value} {xs : List Ob} (h : ScV F w0 p a ov mv vs ms) (hB : Below w0.heap.size w0 w) (hu : OwnObs (fp u F) w u xs) (huN : ∀ b, u.ownBlock = some b → w0.heap.size ≤ b)
    (hos : w2.os = w.os) (htp : w2.tape = w.tape) (hout : w2.output = w.output) (hsz : w.heap.size ≤ w2.heap.size)
    (hk : ∀ b, b < w.heap.size → b ≠ p → mv.ownBlock ≠ some b → w2.heap[b]? = w.heap[b]?)
    (hp : w2.heap[p]? = some (.cells #[ov, mv'] 64 (0, 0))) (hown : w2.ownsRow 0 66 1 mv' (a.mds.length + 1) (ms ++ [u]))
    (hob : mv'.ownBlock = mv.ownBlock ∨ ∃ g, mv'.ownBlock = some g ∧ w.heap.size ≤ g) (hsm : a.mds.length < 64) :
    ∃ F', Fr F w0 F' w2 ∧ ScV F' w2 p ⟨a.opn, a.mds ++ [xs]⟩ ov mv' vs (ms ++ [u]) := by
  have hlt := h.lt
  have hnd := h.nd
  have hF := h.ft
  rw [hF] at hnd hlt
  have hsz0 := hB.size
  have hob0 : mv'.ownBlock = mv.ownBlock ∨ ∃ g, mv'.ownBlock = some g ∧ w0.heap.size ≤ g := by
    rcases hob with h | ⟨g, h, hg⟩
    · exact .inl h
    · exact .inr ⟨g, h, by omega⟩
  have hnd1 : (footOf p ov mv' vs ms).Nodup := nd_set (j := 1) (h' := mv') hnd hlt rfl hob0
  have heq : footOf p ov mv' vs (ms ++ [u]) = footOf p ov mv' vs ms ++ u.ownBlock.toList := by
    unfold footOf
    rw [← List.append_assoc, ← List.cons_append, ← List.cons_append, List.filterMap_append, List.cons_append]
    congr 2
  have hub : ∀ b, u.ownBlock = some b → b < w.heap.size := fun b hb => by obtain ⟨_, _, hr, _⟩ := hu; exact ownsRow_lt hr hb
  have hsubF : ∀ b, b ∈ footOf p ov mv' vs ms → b ∈ F ∨ w.heap.size ≤ b := fun b hb => by
    rw [hF]
    rcases List.mem_cons.1 hb with rfl | hb
    · exact .inl List.mem_cons_self
    · obtain ⟨v, hv, hvb⟩ := List.mem_filterMap.1 hb
      simp only [List.mem_cons] at hv
      rcases hv with rfl | rfl | hv
      · exact .inl (List.mem_cons_of_mem _ (List.mem_filterMap.2 ⟨v, by simp, hvb⟩))
      · rcases hob with ho | ⟨g, ho, hg⟩
        · exact .inl (List.mem_cons_of_mem _ (List.mem_filterMap.2 ⟨mv, by simp, ho ▸ hvb⟩))
        · rw [ho] at hvb; injection hvb with e; subst e; exact .inr hg
      · exact .inl (List.mem_cons_of_mem _ (List.mem_filterMap.2 ⟨v, by simp only [List.mem_cons]; exact .inr (.inr hv), hvb⟩))
  have hF0 : ∀ b ∈ F, b < w0.heap.size := h.lt
  have hnd2 : (footOf p ov mv' vs (ms ++ [u])).Nodup := by
    rw [heq, List.nodup_append]
    refine ⟨hnd1, by cases u.ownBlock <;> simp, fun x hx y hy e => ?_⟩
    subst e
    have hxu : u.ownBlock = some x := by simpa using hy
    have hxn := huN x hxu
    rcases hsubF x hx with h1 | h1
    · have := hF0 x h1; omega
    · have := hub x hxu; omega
  have hpF : p ∈ F := by rw [hF]; exact List.mem_cons_self
  have hmF : ∀ b, mv.ownBlock = some b → b ∈ F := fun b hb => by rw [hF]; exact List.mem_cons_of_mem _ (List.mem_filterMap.2 ⟨mv, by simp, hb⟩)
  have hsub2 : ∀ b, b ∈ footOf p ov mv' vs (ms ++ [u]) → u.ownBlock = some b ∨ b ∈ F ∨ w.heap.size ≤ b := fun b hb => by
    rw [heq] at hb
    rcases List.mem_append.1 hb with hb | hb
    · exact .inr (hsubF b hb)
    · exact .inl (by simpa using hb)
  have hfr : Fr (fp u F) w (footOf p ov mv' vs (ms ++ [u])) w2 :=
    ⟨hos, htp, hout, hsz, fun b hb hbF => hk b hb (fun e => hbF (mem_fp.2 (.inr (e ▸ hpF)))) (fun e => hbF (mem_fp.2 (.inr (hmF b e)))), fun b hb => by
      rcases hsub2 b hb with h1 | h1 | h1
      · exact .inl (mem_fp.2 (.inl h1))
      · exact .inl (mem_fp.2 (.inr h1))
      · exact .inr h1⟩
  have hfr0 : Fr F w0 (footOf p ov mv' vs (ms ++ [u])) w2 :=
    ⟨hos.trans hB.os, htp.trans hB.tape, hout.trans hB.output, by omega, fun b hb hbF => (hk b (by omega) (fun e => hbF (e ▸ hpF)) (fun e => hbF (hmF b e))).trans (hB.block b hb), fun b hb => by
      rcases hsub2 b hb with h1 | h1 | h1
      · exact .inr (huN b h1)
      · exact .inl h1
      · exact .inr (by omega)⟩
  have hkeep : ∀ (j : Nat) (v : Value), (ov :: mv :: (vs ++ ms))[j]? = some v → j ≠ 1 → ∀ b, v.ownBlock = some b → b < w0.heap.size → w2.heap[b]? = w0.heap[b]? := fun j v hj h0 b hb hbl =>
    (hk b (by omega) (nd_p hnd hj hb) (fun e => nd_ne hnd (i := 1) rfl hj (Ne.symm h0) e hb)).trans (hB.block b hbl)
  refine ⟨_, hfr0, hp, ownsRow_same h.ow fun b hb => hkeep 0 ov rfl (by decide) b hb (ownsRow_lt h.ow hb), by simpa using hown, ⟨h.os.1, fun i v ys hi hx => ?_⟩, ⟨by simp [h.ms_.1], fun i v ys hi hx => ?_⟩, rfl, hnd2, ⟨h.small.1, by simp; omega, h.small.2.2⟩⟩
  · have ho := h.os.2 i v ys hi hx
    refine ho.keep hfr0 fun b hb => ?_
    obtain ⟨_, _, hr, _⟩ := ho
    have hil : i < vs.length := (List.getElem?_eq_some_iff.1 hi).1
    exact hkeep (2 + i) v (by rw [show 2 + i = i + 1 + 1 by omega]; simp only [List.getElem?_cons_succ]; rw [List.getElem?_append_left hil]; exact hi) (by omega) b hb (ownsRow_lt hr hb)
  · have hl := h.ms_.1
    rw [List.getElem?_append] at hi hx
    split at hi
    · rename_i hil
      rw [if_pos (by omega)] at hx
      have ho := h.ms_.2 i v ys hi hx
      refine ho.keep hfr0 fun b hb => ?_
      obtain ⟨_, _, hr, _⟩ := ho
      exact hkeep (2 + (vs.length + i)) v (by rw [show 2 + (vs.length + i) = (vs.length + i) + 1 + 1 by omega]; simp only [List.getElem?_cons_succ]; rw [List.getElem?_append_right (by omega), show vs.length + i - vs.length = i by omega]; exact hi) (by omega) b hb (ownsRow_lt hr hb)
    · rename_i hil
      rw [if_neg (by omega)] at hx
      rw [← hl] at hx
      match hn : i - ms.length, hi, hx with
      | 0, hi, hx =>
        simp at hi hx
        subst hi; subst hx
        refine hu.keep hfr fun b hb => hk b (hub b hb) ?_ ?_
        · rintro rfl
          have := huN b hb; have := hF0 b hpF; omega
        · intro e
          have := huN b hb; have := hF0 b (hmF b e); omega
      | n + 1, hi, hx => simp at hi

/-- What an import's entry is. -/
def imp (n : Int) (x : Ex) : Ob := ⟨x.nm, x.kd, x.ty, 0, x.v, n, false, x.ps⟩
def modOb (s : ByteArray) (n : Int) : Ob := ⟨s, 8, 0, 0, n, 0, false, []⟩
def importA (a : Abs) (s : ByteArray) (es : List Ex) : Int × Int × Abs :=
  if 64 ≤ a.mds.length then (0, 243, a)
  else
    let r := declare a (modOb s ((a.mds.length : Int) + 1))
    if r.1 ≠ 0 then (0, r.1, a) else ((a.mds.length : Int) + 1, 0, ⟨r.2.opn, r.2.mds ++ [es.map (imp ((a.mds.length : Int) + 1))]⟩)

theorem declare_len (a : Abs) (x : Ob) : (declare a x).2.opn.length = a.opn.length ∧ (declare a x).2.mds = a.mds := by
  unfold declare; split
  · exact ⟨rfl, rfl⟩
  · split
    · exact ⟨rfl, rfl⟩
    · split <;> simp
theorem declare_same (a : Abs) (x : Ob) (h : (declare a x).1 ≠ 0) : (declare a x).2 = a := by
  unfold declare at *; split
  · rfl
  · split
    · rfl
    · split
      · rfl
      · exact absurd (by simp_all) h
theorem f11_all {F : List Nat} {w : World} {p : Nat} {a : Abs} (x : Ob) (pv : Value) (h : Sc F w p a) (hps : PsR F w pv x.ps) :
    Calls Try.prog 11 #[.pointer (some ⟨p, 0, none⟩), obV x pv] w fun e w' => e = .returned (.int .i64 (declare a x).1) ∧ ∃ F', Fr F w F' w' ∧ Sc F' w' p (declare a x).2 := by
  cases hb : badName x.nm with
  | false => exact f11_any x pv h hps hb
  | true =>
    refine (f11_bad x pv h hb).mono ?_
    rintro e w' ⟨rfl, hB⟩
    have : declare a x = (140, a) := by unfold declare; rw [hb]; rfl
    rw [this]
    exact ⟨rfl, F, Fr.of_below hB, h.below hB⟩

theorem eim_at {F : List Nat} {w : World} {v : Value} {es : List Ex} (h : ExR F w v es) : ∃ A c, v = .slice A es.length c ∧ es.length ≤ c ∧ es.length ≤ 4194304 ∧ ∀ i x, es[i]? = some x → ∃ b o, A = some ⟨b, o, none⟩ ∧ Good F w b ∧
    w.cell? ⟨b, o + i * 5, none⟩ = some (.string x.nm) ∧ w.cell? ⟨b, o + i * 5 + 1, none⟩ = some (.int .i64 x.kd) ∧ w.cell? ⟨b, o + i * 5 + 2, none⟩ = some (.int .i64 x.ty) ∧ w.cell? ⟨b, o + i * 5 + 3, none⟩ = some (.int .i32 x.v) ∧ ∃ pv, w.cell? ⟨b, o + i * 5 + 4, none⟩ = some pv ∧ PsR F w pv x.ps := by
  obtain ⟨hl, A, c, rfl, hc, hx⟩ := h
  refine ⟨A, c, rfl, hc, hl, fun i x hi => ?_⟩
  obtain ⟨b, o, rfl, hg, hx⟩ := hx (by rintro rfl; simp at hi)
  exact ⟨b, o, rfl, hg, hx i x hi⟩
theorem OC.weak {F F' : List Nat} {w : World} {cs : List Value} {xs : List Ob} (h : OC F w cs xs) (hF : ∀ b ∈ F', b ∈ F) : OC F' w cs xs := fun i x hi => by
  obtain ⟨h0, h1, h2, h3, h4, h5, h6, pv, h7, hp⟩ := h i x hi
  exact ⟨h0, h1, h2, h3, h4, h5, h6, pv, h7, hp.weak hF⟩

set_option maxHeartbeats 2000000 in
set_option maxRecDepth 100000 in
theorem f35_full {F : List Nat} {w : World} {p : Nat} {a : Abs} (s : ByteArray) (v : Value) (es : List Ex) (h : Sc F w p a) (hes : ExR F w v es) (hm : 64 ≤ a.mds.length) :
    Calls Try.prog 35 #[.pointer (some ⟨p, 0, none⟩), .string s, v] w fun e w' => e = .returned (.tuple #[.int .i64 0, .int .i64 243]) ∧ w = w' := by
  obtain ⟨ov, mv, vs, ms, h⟩ := h
  obtain ⟨h0, h1, hf, hp⟩ := h.pcell
  have hs2 := h.small.2.1
  obtain ⟨A, c, rfl, _⟩ := own_cells h.mw
  obtain ⟨E, d, rfl, _⟩ := eim_at hes
  clear h h0 hf hes
  go_enter Try.func35, Try.ntmps35
  go_wp2
  go_ret2
  exact ⟨rfl, rfl⟩

set_option maxHeartbeats 2000000 in
set_option maxRecDepth 100000 in
theorem f35_no {F : List Nat} {w : World} {p : Nat} {a : Abs} (s : ByteArray) (v : Value) (es : List Ex) (h : Sc F w p a) (hes : ExR F w v es) (hm : a.mds.length < 64) (hr : (declare a (modOb s ((a.mds.length : Int) + 1))).1 ≠ 0) :
    Calls Try.prog 35 #[.pointer (some ⟨p, 0, none⟩), .string s, v] w fun e w' => e = .returned (.tuple #[.int .i64 0, .int .i64 (declare a (modOb s ((a.mds.length : Int) + 1))).1]) ∧ ∃ F', Fr F w F' w' ∧ Sc F' w' p a := by
  have hS := h
  obtain ⟨ov, mv, vs, ms, h⟩ := h
  obtain ⟨h0, h1, hf, hp⟩ := h.pcell
  obtain ⟨A, c, rfl, _⟩ := own_cells h.mw
  obtain ⟨E, d, rfl, _⟩ := eim_at hes
  have hcall := f11_all (modOb s ((a.mds.length : Int) + 1)) (.slice none 0 0) hS (Sl.nil _ _ _)
  rw [declare_same _ _ hr] at hcall
  obtain ⟨r, hr'⟩ : ∃ r, r = (declare a (modOb s ((a.mds.length : Int) + 1))).1 := ⟨_, rfl⟩
  rw [← hr'] at hcall hr ⊢
  have HC := Lib.hid hcall
  have hq : (r == 0) = false := by simpa using hr
  clear h h0 hf hes hcall hr'
  go_enter Try.func35, Try.ntmps35
  go_wp2_with (go_at_call 11; refine HC.out.mono ?_; rintro e w1 ⟨rfl, hX⟩; have HX := Lib.hid hX; clear hX)
  go_ret2
  exact ⟨rfl, HX.out⟩

set_option maxHeartbeats 4000000 in
set_option maxRecDepth 100000 in
theorem f35_yes {F : List Nat} {w : World} {p : Nat} {a : Abs} (s : ByteArray) (v : Value) (es : List Ex) (h : Sc F w p a) (hes : ExR F w v es) (hm : a.mds.length < 64) (hr : (declare a (modOb s ((a.mds.length : Int) + 1))).1 = 0) :
    Calls Try.prog 35 #[.pointer (some ⟨p, 0, none⟩), .string s, v] w fun e w' => e = .returned (.tuple #[.int .i64 ((a.mds.length : Int) + 1), .int .i64 0]) ∧
      ∃ F', Fr F w F' w' ∧ Sc F' w' p ⟨(declare a (modOb s ((a.mds.length : Int) + 1))).2.opn, (declare a (modOb s ((a.mds.length : Int) + 1))).2.mds ++ [es.map (imp ((a.mds.length : Int) + 1))]⟩ := by
  have hS := h
  obtain ⟨ov, mv, vs, ms, h⟩ := h
  obtain ⟨h0, h1, hf, hp⟩ := h.pcell
  obtain ⟨A, c, rfl, _⟩ := own_cells h.mw
  have hcall := f11_all (modOb s ((a.mds.length : Int) + 1)) (.slice none 0 0) hS (Sl.nil _ _ _)
  rw [hr] at hcall
  obtain ⟨_, hmds⟩ := declare_len a (modOb s ((a.mds.length : Int) + 1))
  obtain ⟨a2, ha2⟩ : ∃ a2, a2 = (declare a (modOb s ((a.mds.length : Int) + 1))).2 := ⟨_, rfl⟩
  rw [← ha2] at hcall hmds ⊢
  obtain ⟨n, hn⟩ : ∃ n, n = a.mds.length := ⟨_, rfl⟩
  rw [← hn] at hm hcall h1 ⊢
  have hmds2 : a2.mds.length = n := by rw [hmds, hn]
  have HM := Lib.hid hmds2
  have HC := Lib.hid hcall
  have HE := Lib.hid hes
  obtain ⟨E, d, rfl, hle1, hel, hE0⟩ := eim_at hes
  clear hle1 hE0 h h0 hf hes hcall ha2 hr hmds hn hmds2
  go_enter Try.func35, Try.ntmps35
  go_wp2_with (go_at_call 11; refine HC.out.mono ?_; rintro e w1 ⟨rfl, F1, hf1, hs1⟩; have HF1 := Lib.hid hf1; have HS1 := Lib.hid hs1; clear hf1 hs1)
  obtain ⟨E', d', hEq, hle2, hel2, hE1⟩ := eim_at (HE.out.keep HF1.out)
  injection hEq with hEq hle3 hd
  subst hEq
  have hF1l : ∀ b ∈ F1, b < w1.heap.size := by obtain ⟨_, _, _, _, hh⟩ := HS1.out; exact hh.lt
  have HE1 := Lib.hid hE1
  have HFl := Lib.hid hF1l
  have hsz1 := HF1.out.size
  clear hE1 hF1l hle2 hle3 hd d'
  go_loopw [10, 12, 36] (fun u q i wr => ∃ (j : Nat) (cs : List Value), j ≤ es.length ∧ i = .int .i64 j ∧ Below w1.heap.size w1 wr ∧ OwnN w1.heap.size wr 25 8 u j cs ∧ OC (fp u F1) wr cs ((es.take j).map (imp (n + 1)))) (fun _ _ i _ => es.length - (intOf i).toNat)
  case atStart => exact ⟨0, [], Nat.zero_le _, rfl, (Below.refl _ _), OwnN.nil _ _ _ _, fun i x hi => by simp at hi⟩
  case round =>
    obtain ⟨j, cs, hj, rfl, hB, hown, hoc⟩ := hrel
    by_cases hlt : j < es.length
    · obtain ⟨x, hx⟩ : ∃ x, es[j]? = some x := ⟨_, List.getElem?_eq_getElem hlt⟩
      obtain ⟨b, o, rfl, hbl, q0, q1, q2, q3, pv, q4, hps⟩ := HE1.out j x hx
      obtain ⟨Ap, cp, rfl⟩ : ∃ A c, pv = .slice A x.ps.length c := by obtain ⟨_, A, c, h, _⟩ := hps; exact ⟨A, c, h⟩
      have r0 := (hB.cell (p := ⟨b, o + j * 5, none⟩) hbl.1).trans q0
      have r1 := (hB.cell (p := ⟨b, o + j * 5 + 1, none⟩) hbl.1).trans q1
      have r2 := (hB.cell (p := ⟨b, o + j * 5 + 2, none⟩) hbl.1).trans q2
      have r3 := (hB.cell (p := ⟨b, o + j * 5 + 3, none⟩) hbl.1).trans q3
      have r4 := (hB.cell (p := ⟨b, o + j * 5 + 4, none⟩) hbl.1).trans q4
      have hbl1 := hbl.1
      have hsn : (es.take (j + 1)).map (imp ((n : Int) + 1)) = (es.take j).map (imp ((n : Int) + 1)) ++ [imp ((n : Int) + 1) x] := by rw [List.take_add_one, hx]; simp
      have HX := Lib.hid hx
      have hBs := hB.size
      have HO := Lib.hid hown
      have HCs := Lib.hid hoc
      obtain ⟨Av, cv, rfl, _⟩ := own_cells hown.1
      obtain ⟨wb, hwb⟩ : ∃ wb, wb = wr.alloc (.cells #[.string x.nm, .int .i64 x.kd, .int .i64 x.ty, .int .i32 x.v, .slice Ap x.ps.length cp] 71) := ⟨_, rfl⟩
      have hBb : Below wr.heap.size wr wb := by rw [hwb]; exact (Below.refl _ _).alloc (Nat.le_refl _) _
      have hxb : wb.heap[wr.heap.size]? = some (.cells #[.string x.nm, .int .i64 x.kd, .int .i64 x.ty, .int .i32 x.v, .slice Ap x.ps.length cp] 71 (0, 0)) := by rw [hwb]; exact heap_alloc_new wr _
      have hxl := (Array.getElem?_eq_some_iff.1 hxb).1
      have tc := fun (o : Nat) (u : Value) (hu : #[Value.string x.nm, .int .i64 x.kd, .int .i64 x.ty, .int .i32 x.v, .slice Ap x.ps.length cp][o]? = some u) => (cell_of_row wb wr.heap.size o _ 71 (0, 0) hxb).trans hu
      have t0 : wb.cell? ⟨wr.heap.size, 0, none⟩ = some (.string x.nm) := tc 0 _ rfl
      have t1 : wb.cell? ⟨wr.heap.size, 1, none⟩ = some (.int .i64 x.kd) := tc 1 _ rfl
      have t2 : wb.cell? ⟨wr.heap.size, 2, none⟩ = some (.int .i64 x.ty) := tc 2 _ rfl
      have t3 : wb.cell? ⟨wr.heap.size, 3, none⟩ = some (.int .i32 x.v) := tc 3 _ rfl
      have t4 : wb.cell? ⟨wr.heap.size, 4, none⟩ = some (.slice Ap x.ps.length cp) := tc 4 _ rfl
      have hP1 : PsR (fp (.slice Av j cv) F1) wb.drew (.slice Ap x.ps.length cp) x.ps := hps.fp (v := .slice Av j cv) (hB.trans (hBb.drew.mono hBs : Below w1.heap.size wr wb.drew)) hown.2
      have hFb : ∀ b ∈ fp (.slice Av j cv) F1, b < wb.drew.heap.size := fun b hb => by
        rcases mem_fp.1 hb with h | h
        · exact Nat.lt_of_lt_of_le (ownsRow_lt hown.1 h) hBb.size
        · exact Nat.lt_of_lt_of_le (Nat.lt_of_lt_of_le (HFl.out b h) hBs) hBb.size
      have HSN := Lib.hid hsn
      have HXB := Lib.hid hxb
      have HP1 := Lib.hid hP1
      have HFB := Lib.hid hFb
      have HB := Lib.hid hwb
      clear tc q0 q1 q2 q3 q4 hx hps hown hoc hsn hP1 hFb hxb hbl
      go_wp2_with fail
      rw [← HB.out]
      clear hwb
      have hlen1 : j + 1 ≤ 34359738368 := by omega
      go_region_held3 (fun w' => w'.cell? ⟨wr.heap.size, 0, none⟩ = some (.string x.nm) ∧ w'.cell? ⟨wr.heap.size, 1, none⟩ = some (.int .i64 x.kd) ∧ w'.cell? ⟨wr.heap.size, 2, none⟩ = some (.int .i64 x.ty) ∧ w'.cell? ⟨wr.heap.size, 3, none⟩ = some (.int .i32 x.v) ∧ w'.cell? ⟨wr.heap.size, 4, none⟩ = some (.slice Ap x.ps.length cp)) (go_keep) (first | (go_at_call 26; refine (f26_any HP1.out HFB.out).mono ?_; rintro e w2 ⟨pv', rfl, hb1, hp1⟩; obtain ⟨Aq, cq, rfl⟩ : (∃ A c, pv' = .slice A x.ps.length c) := (by obtain ⟨_, A, c, h, _⟩ := hp1; exact ⟨A, c, h⟩); have s0 := (hb1.cell (p := ⟨wr.heap.size, 0, none⟩) hxl).trans t0; have s1 := (hb1.cell (p := ⟨wr.heap.size, 1, none⟩) hxl).trans t1; have s2 := (hb1.cell (p := ⟨wr.heap.size, 2, none⟩) hxl).trans t2; have s3 := (hb1.cell (p := ⟨wr.heap.size, 3, none⟩) hxl).trans t3; have s4 := (hb1.cell (p := ⟨wr.heap.size, 4, none⟩) hxl).trans t4; have HQ := Lib.hid hp1; have HB1 := Lib.hid hb1; clear hp1) | (refine step_app ti66 (by rfl) _ _ (by rfl) (by rfl) (by exact (ownsRow_same (w' := w2) HO.out.1 (fun b hb => (HB1.out.block b (Nat.lt_of_lt_of_le (ownsRow_lt HO.out.1 hb) hBb.size)).trans (hBb.block b (ownsRow_lt HO.out.1 hb)))).alloc _) (by rfl) [.string x.nm, .int .i64 x.kd, .int .i64 x.ty, .int .i64 0, .int .i32 x.v, .int .i64 (n + 1), .bool false, .slice Aq x.ps.length cq] (by rfl) (by exact new_src w2 #[.string x.nm, .int .i64 x.kd, .int .i64 x.ty, .int .i64 0, .int .i32 x.v, .int .i64 (n + 1), .bool false, .slice Aq x.ps.length cq] 25 (0, 0) 1) (by simp [Value.oneCell']) hlen1 ?_; intro A1 c1 w5 hown5 hg5 hob5; have kc := fun (o : Nat) (u : Value) (hu : w2.cell? ⟨wr.heap.size, o, none⟩ = some u) => ((World.cell?_of_block (a := ⟨wr.heap.size, o, none⟩) (hg5.block wr.heap.size (Nat.lt_trans (Nat.lt_of_lt_of_le hxl HB1.out.size) (by rw [World.size_alloc]; exact Nat.lt_succ_self _)) (fun e => Nat.lt_irrefl _ (ownsRow_lt HO.out.1 e.symm)))).trans (World.cell?_alloc_lt w2 (.cells #[.string x.nm, .int .i64 x.kd, .int .i64 x.ty, .int .i64 0, .int .i32 x.v, .int .i64 (n + 1), .bool false, .slice Aq x.ps.length cq] 25) ⟨wr.heap.size, o, none⟩ (Nat.lt_of_lt_of_le hxl HB1.out.size))).trans hu; have k0 := kc 0 _ s0; have k1 := kc 1 _ s1; have k2 := kc 2 _ s2; have k3 := kc 3 _ s3; have k4 := kc 4 _ s4))
      have HG5 := Lib.hid hg5
      have HO5 := Lib.hid hown5
      have HOB5 := Lib.hid hob5
      clear kc hg5 hown5 hob5
      go_wp2
      go_roundw
      case rel =>
        have hb1 := HB1.out
        have hBw1 : Below w1.heap.size w1 w2 := hB.trans ((hBb.drew.trans (hb1.mono hBb.size)).mono hBs)
        have hB5 := (hBw1.alloc (Nat.le_trans hBs (Nat.le_trans hBb.size hb1.size)) (.cells #[.string x.nm, .int .i64 x.kd, .int .i64 x.ty, .int .i64 0, .int .i32 x.v, .int .i64 (n + 1), .bool false, .slice Aq x.ps.length cq] 25)).grown HG5.out (by have := hb1.size; simp at this ⊢; omega) (fun b hb => HO.out.2 b hb)
        have hF0 : Fr (fp (.slice Av j cv) F1) wr (fp (.slice Av j cv) F1) w2 := Fr.of_below (hBb.drew.trans (hb1.mono hBb.size))
        have hF1 : Fr (fp (.slice Av j cv) F1) w2 (fp (.slice A1 (j + 1) c1) F1) w5 := Fr.app HG5.out (by have := HOB5.out; rwa [World.size_alloc] at this)
        refine ⟨j + 1, cs ++ [.string x.nm, .int .i64 x.kd, .int .i64 x.ty, .int .i64 0, .int .i32 x.v, .int .i64 (n + 1), .bool false, .slice Aq x.ps.length cq], by omega, by go_num, hB5, ?_, ?_⟩
        · refine ⟨HO5.out, fun b hb => ?_⟩
          rcases HOB5.out with h1 | h1
          · exact HO.out.2 b (h1 ▸ hb)
          · rw [h1] at hb; injection hb with hb
            have := hb1.size; rw [World.size_drew] at this
            rw [World.size_alloc] at hb; omega
        · rw [HSN.out]
          exact ((HCs.out.keep hF0).keep hF1).snoc (x := imp ((n : Int) + 1) x) (by have := HO.out.1.1; simp; omega) (HQ.out.keep hF1)
      case measure => simp [intOf]; omega
    · obtain rfl : j = es.length := by omega
      obtain ⟨ov2, mv2, vs2, ms2, h2⟩ := HS1.out
      have hsv := h2
      have h2 := h2.below hB
      obtain ⟨p0, p1, pf, hpl⟩ := h2.pcell
      have pf1 := pf 1
      have hmw := h2.mw
      rw [HM.out] at hmw
      obtain ⟨Au, cu, rfl, hcu, hu⟩ := own_cells hown.1
      obtain ⟨Am, cm, rfl, hcm, hgm⟩ := own_cells hmw
      have hnd := hsv.nd
      rw [hsv.ft] at hnd
      have hne : some p ≠ (Value.slice Am n cm).ownBlock := fun e => nd_p hnd (i := 1) rfl e.symm rfl
      have hblk := h2.blk
      rw [List.take_of_length_le (Nat.le_refl _)] at hoc
      have HOC := Lib.hid hoc
      have HOW := Lib.hid hown
      have HSV := Lib.hid hsv
      have HBL := Lib.hid hblk
      have HND := Lib.hid hnd
      clear hoc hown hsv h2 p0 pf hu hgm hblk hnd
      go_wp2_with (at_builtin; refine wpList_app ti62 (by rfl) _ _ (by rfl) (by rfl) (hmw.alloc _) (by rfl) [.slice Au es.length cu] (by rfl) (new_src _ #[.slice Au es.length cu] 66 (0, 0) 1) (by simp [Value.oneCell']) (by omega) ?_)
      intro A1 c1 w5 hown1 hg hob
      have hb1 : w5.heap[p]? = wr.heap[p]? := (hg.block p (by simp; omega) hne).trans (Below.heap_alloc wr _ p hpl)
      have hc1 : w5.cell? ⟨p, 1, none⟩ = some (.slice Am n cm) := (World.cell?_of_block (w := wr) (a := ⟨p, 1, none⟩) hb1).trans p1
      have hf1 : w5.frozen? ⟨p, 1, none⟩ = false := (World.frozen?_of_block (w := wr) (a := ⟨p, 1, none⟩) hb1).trans pf1
      have hsz := hg.size
      have HOO := Lib.hid hob
      clear hob
      go_wp2
      go_ret2
      refine ⟨rfl, ?_⟩
      obtain ⟨v', hv'⟩ : ∃ v', v' = Value.slice A1 (n + 1) c1 := ⟨_, rfl⟩
      rw [← hv'] at hown1
      have HO : v'.ownBlock = (Value.slice Am n cm).ownBlock ∨ v'.ownBlock = some (wr.heap.size + 1) := by rw [hv']; exact HOO.out
      have hz : wr.heap.size + 1 ≤ w5.heap.size := by simpa using hsz
      obtain ⟨F', hfr, hsc⟩ := HSV.out.addMod (w2 := w5.setCell ⟨p, 1, none⟩ v') (mv' := v') (u := .slice Au es.length cu) (xs := es.map (imp ((n : Int) + 1))) hB
        ⟨by simp; omega, cs, by simpa using HOW.out.1, HOC.out⟩ HOW.out.2
        hg.os hg.tape hg.output (by simp; omega)
        (fun b hb hbp hbo => by rw [Below.heap_setCell _ _ _ _ (by exact hbp), hg.block b (by simp; omega) (fun e => hbo e.symm), Below.heap_alloc _ _ _ hb])
        (heap_setCell_same w5 p 1 _ 64 v' (hb1.trans HBL.out)) (by
          rw [HM.out]
          refine ownsRow_same (by simpa using hown1) fun b hb => Below.heap_setCell _ _ _ _ (fun e => ?_)
          subst e
          rcases HO with ho | ho
          · exact hne (ho ▸ hb.symm)
          · rw [ho] at hb; injection hb with hb; omega)
        (by rcases HO with ho | ho
            · exact .inl ho
            · exact .inr ⟨_, ho, by omega⟩)
        (by rw [HM.out]; exact hm)
      subst hv'
      exact ⟨F', HF1.out.trans hfr, _, _, _, _, hsc⟩

theorem f35_any {F : List Nat} {w : World} {p : Nat} {a : Abs} (s : ByteArray) (v : Value) (es : List Ex) (h : Sc F w p a) (hes : ExR F w v es) :
    Calls Try.prog 35 #[.pointer (some ⟨p, 0, none⟩), .string s, v] w fun e w' => e = .returned (.tuple #[.int .i64 (importA a s es).1, .int .i64 (importA a s es).2.1]) ∧
      ∃ F', Fr F w F' w' ∧ Sc F' w' p (importA a s es).2.2 := by
  by_cases hm : 64 ≤ a.mds.length
  · have : importA a s es = (0, 243, a) := by unfold importA; rw [if_pos hm]
    rw [this]
    refine (f35_full s v es h hes hm).mono ?_
    rintro e w' ⟨rfl, rfl⟩
    exact ⟨rfl, F, Fr.refl _ _, h⟩
  · by_cases hr : (declare a (modOb s ((a.mds.length : Int) + 1))).1 = 0
    · have : importA a s es = ((a.mds.length : Int) + 1, 0, ⟨(declare a (modOb s ((a.mds.length : Int) + 1))).2.opn, (declare a (modOb s ((a.mds.length : Int) + 1))).2.mds ++ [es.map (imp ((a.mds.length : Int) + 1))]⟩) := by
        unfold importA; rw [if_neg hm]; simp [hr]
      rw [this]
      exact f35_yes s v es h hes (by omega) hr
    · have : importA a s es = (0, (declare a (modOb s ((a.mds.length : Int) + 1))).1, a) := by
        unfold importA; rw [if_neg hm]; simp [hr]
      rw [this]
      exact f35_no s v es h hes (by omega) hr
end Go.Proofs.Ytengenceelmijaa
