import Derived.Test.YtengenceelmijaaRefG
namespace Go.Proofs.Ytengenceelmijaa
open Go.RowKit
set_option linter.unusedVariables false

theorem LC.keep {F F' : List Nat} {w w' : World} {cs : List Value} {xs : List (List Ob)} (h : LC F w cs xs) (hf : Fr F w F' w') : LC F' w' cs xs := fun i x hi => by
  obtain ⟨u, h0, hp⟩ := h i x hi
  exact ⟨u, h0, hp.keep hf⟩
theorem LC.snoc {F : List Nat} {w : World} {cs : List Value} {xs : List (List Ob)} {x : List Ob} {u : Value} (h : LC F w cs xs) (hl : cs.length = xs.length) (hp : ObR F w u x) : LC F w (cs ++ [u]) (xs ++ [x]) := by
  intro i y hi
  rw [List.getElem?_append] at hi
  split at hi
  · rename_i hlt
    obtain ⟨q, h0, hq⟩ := h i y hi
    exact ⟨q, (List.getElem?_append_left (by omega)).trans h0, hq⟩
  · rename_i hge
    have hi0 : i - xs.length = 0 := by
      have := (List.getElem?_eq_some_iff.1 hi).1
      simp at this; omega
    rw [hi0] at hi
    simp at hi
    subst hi
    exact ⟨u, by rw [List.getElem?_append_right (by omega), hl, hi0]; rfl, hp⟩
theorem results_ref3 (fn : Func) (r t q : Nat) (hr : fn.results = #[.cell r 31, .tmp t, .tmp q]) (tmps : Array Value) (w : World) (g : Nat) (c0 c1 c2 u v : Value) (hp : tmps.getD r undef = .pointer (some ⟨g, 0, none⟩)) (ht : tmps.getD t undef = u) (hq : tmps.getD q undef = v)
    (hg : w.heap[g]? = some (.cells #[c0, c1, c2] 31 (0, 0))) :
    (results fn tmps).run Try.prog w = .ok (.tuple #[.agg #[c0, c1, c2], u, v]) w := by
  have hp' : tmps[r]?.getD undef = .pointer (some ⟨g, 0, none⟩) := by simpa using hp
  have ht' : tmps[t]?.getD undef = u := by simpa using ht
  have hq' : tmps[q]?.getD undef = v := by simpa using hq
  obtain ⟨⟨h0, h1, h2⟩, _⟩ := cells3 hg
  simp [results, hr, hp', ht', hq', asAddr, go_sem, h0, h1, h2]
theorem info28 : (Try.prog.info? 28).map (fun i => (i.zero, i.size, i.bytes)) = some (some (.slice none 0 0), 1, 24) := by kernel_rfl
theorem ti29 : TI Try.prog 29 28 (.slice none 0 0) 1 24 := ⟨Try.underlying29, info28, rfl, by decide, by decide⟩

def importR (r : Rf) (s : ByteArray) (es : List Ex) : Int × Int × Rf :=
  if 64 ≤ r.mods.length then (0, 243, r)
  else
    let q := declareR r (modOb s ((r.mods.length : Int) + 1))
    if q.1 ≠ 0 then (0, q.1, r) else ((r.mods.length : Int) + 1, 0, { q.2 with mods := r.mods ++ [es.map (imp ((r.mods.length : Int) + 1))] })

def ImpPost (F : List Nat) (w : World) (q : Int × Int × Rf) (e : Ending) (w' : World) : Prop := ∃ v', e = .returned (.tuple #[v', .int .i64 q.1, .int .i64 q.2.1]) ∧ Below w.heap.size w w' ∧ RfR F w' v' q.2.2

set_option maxHeartbeats 2000000 in
set_option maxRecDepth 100000 in
theorem f36_full {F : List Nat} {w : World} {v lv : Value} {r : Rf} (s : ByteArray) (es : List Ex) (h : RfR F w v r) (hes : ExR F w lv es) (hm : 64 ≤ r.mods.length) :
    Calls Try.prog 36 #[v, .string s, lv] w (ImpPost F w (0, 243, r)) := by
  have hR := h
  obtain ⟨L, mv, rfl, hl, hmm⟩ := h
  obtain ⟨A, c, rfl, hc, hn, hA⟩ := ob_at hl
  obtain ⟨B, d, rfl, hd, hmx, _⟩ := obs_shape hmm
  obtain ⟨E, f, rfl, _⟩ := eim_at hes
  have HR := Lib.hid hR
  clear hl hmm hA hes hR
  go_enter Try.func36, Try.ntmps36
  go_wp2_with fail
  refine bodyPost_ret (results_ref3 _ 6 7 8 Try.results36 _ _ _ _ _ _ _ _ rfl rfl rfl (heap_alloc2_new w _ _)) rfl ?_
  have hB := ((Below.refl w.heap.size w).alloc (Nat.le_refl _) (.cells #[.slice A r.l.length c, .int .i64 r.lv, .slice B r.mods.length d] 31)).alloc (by simp) (.cells #[.slice A r.l.length c, .int .i64 r.lv, .slice B r.mods.length d] 31)
  exact ⟨_, rfl, hB, HR.out.keep (Fr.of_below hB)⟩

set_option maxHeartbeats 2000000 in
set_option maxRecDepth 100000 in
theorem f36_no {F : List Nat} {w : World} {v lv : Value} {r : Rf} (s : ByteArray) (es : List Ex) (h : RfR F w v r) (hes : ExR F w lv es) (hm : r.mods.length < 64) (h0 : 0 ≤ r.lv) (h64 : r.lv ≤ 64) (hFl : ∀ b ∈ F, b < w.heap.size) (hsm : r.l.length ≤ 1000)
    (hr : (declareR r (modOb s ((r.mods.length : Int) + 1))).1 ≠ 0) :
    Calls Try.prog 36 #[v, .string s, lv] w (ImpPost F w (0, (declareR r (modOb s ((r.mods.length : Int) + 1))).1, r)) := by
  have hR := h
  obtain ⟨L, mv, rfl, hl, hmm⟩ := h
  obtain ⟨A, c, rfl, hc, hn, hA⟩ := ob_at hl
  obtain ⟨B, d, rfl, hd, hmx, _⟩ := obs_shape hmm
  obtain ⟨E, f, rfl, _⟩ := eim_at hes
  obtain ⟨W, hW⟩ : ∃ W, W = (w.alloc (.cells #[.slice A r.l.length c, .int .i64 r.lv, .slice B r.mods.length d] 31)).alloc (.cells #[.slice none 0 0, .int .i64 0, .slice none 0 0] 31) := ⟨_, rfl⟩
  have hBW : Below w.heap.size w W := by rw [hW]; exact ((Below.refl _ _).alloc (Nat.le_refl _) _).alloc (by simp) _
  have hW1 : W.heap[w.heap.size]? = some (.cells #[.slice A r.l.length c, .int .i64 r.lv, .slice B r.mods.length d] 31 (0, 0)) := by rw [hW]; exact heap_alloc2_old w _ _
  have hW2 : W.heap[w.heap.size + 1]? = some (.cells #[.slice none 0 0, .int .i64 0, .slice none 0 0] 31 (0, 0)) := by rw [hW]; exact heap_alloc2_new w _ _
  have hWl := (Array.getElem?_eq_some_iff.1 hW2).1
  obtain ⟨⟨a0, a1, a2⟩, _⟩ := cells3 hW1
  have hC := f31_any (w := W) (pv := .slice none 0 0) (modOb s ((r.mods.length : Int) + 1)) (hR.keep (Fr.of_below hBW)) (Sl.nil _ _ _) h0 h64 (fun b hb => Nat.lt_of_lt_of_le (hFl b hb) hBW.size) hsm
  obtain ⟨q, hq⟩ : ∃ q, q = (declareR r (modOb s ((r.mods.length : Int) + 1))).1 := ⟨_, rfl⟩
  rw [← hq] at hC hr ⊢
  have HR := Lib.hid hR
  have HW := Lib.hid hW
  have HW1 := Lib.hid hW1
  have HW2 := Lib.hid hW2
  have HC := Lib.hid hC
  have hq' : (q == 0) = false := by simpa using hr
  clear hl hmm hA hes hR hW hW1 hW2 hC hq
  go_enter Try.func36, Try.ntmps36
  go_wp2_with fail
  rw [← HW.out]
  go_wp2_with (go_at_call 31; refine HC.out.mono ?_; rintro e wa ⟨v', rfl, hba, hra⟩; obtain ⟨_, _, rfl, hla, hma⟩ := hra; obtain ⟨A', c', rfl, _⟩ := ob_at hla; obtain ⟨B', d', rfl, _⟩ := obs_shape hma; obtain ⟨⟨c0, c1, c2⟩, _⟩ := cells3 ((hba.block _ (by omega)).trans HW1.out); obtain ⟨⟨d0, d1, d2⟩, df⟩ := cells3 ((hba.block _ hWl).trans HW2.out); have df0 := df 0; have df1 := df 1; have df2 := df 2; have hwal := hba.size; have HBA := Lib.hid hba; have hwl0 : w.heap.size < wa.heap.size := (by omega); have hwl1 : w.heap.size + 1 < wa.heap.size := (by omega); clear df hba hla hma)
  obtain ⟨w7, hw7⟩ : ∃ w7, w7 = ((wa.setCell ⟨w.heap.size + 1, 0, none⟩ (.slice A r.l.length c)).setCell ⟨w.heap.size + 1, 1, none⟩ (.int .i64 r.lv)).setCell ⟨w.heap.size + 1, 2, none⟩ (.slice B r.mods.length d) := ⟨_, rfl⟩
  rw [← hw7]
  obtain ⟨hx7, s7⟩ := block3 ((HBA.out.block _ hWl).trans HW2.out) _ _ _ hw7
  clear hw7
  have hl7 : w.heap.size + 1 < w7.heap.size := by rw [s7.size]; omega
  refine bodyPost_ret (results_ref3 _ 6 7 8 Try.results36 _ _ _ _ _ _ _ _ rfl rfl rfl ((Below.heap_alloc _ _ _ hl7).trans hx7)) rfl ?_
  have hB7 := (((hBW.trans (HBA.out.mono hBW.size)).trans (s7.below (by omega))).alloc (by omega) (.cells #[.slice A' (declareR r (modOb s ((r.mods.length : Int) + 1))).2.l.length c', .int .i64 (declareR r (modOb s ((r.mods.length : Int) + 1))).2.lv, .slice B' (declareR r (modOb s ((r.mods.length : Int) + 1))).2.mods.length d'] 31))
  exact ⟨_, rfl, hB7, HR.out.keep (Fr.of_below hB7)⟩

set_option maxHeartbeats 4000000 in
set_option maxRecDepth 100000 in
theorem f36_yes {F : List Nat} {w : World} {v lv : Value} {r r2 : Rf} {n : Nat} (s : ByteArray) (es : List Ex) (h : RfR F w v r) (hes : ExR F w lv es) (hn : r.mods.length = n) (hm : n < 64) (h0 : 0 ≤ r.lv) (h64 : r.lv ≤ 64) (hFl : ∀ b ∈ F, b < w.heap.size) (hsm : r.l.length ≤ 1000)
    (hr : declareR r (modOb s ((n : Int) + 1)) = (0, r2)) :
    Calls Try.prog 36 #[v, .string s, lv] w (ImpPost F w ((n : Int) + 1, 0, { r2 with mods := r.mods ++ [es.map (imp ((n : Int) + 1))] })) := by
  have hR := h
  obtain ⟨L, mv, rfl, hl, hmm⟩ := h
  obtain ⟨A, c, rfl, hc, hnl, hA⟩ := ob_at hl
  obtain ⟨B, d, rfl, hd, hmx, _⟩ := obs_shape hmm
  obtain ⟨E, f, rfl, _, hel, hE⟩ := eim_at hes
  rw [hn] at hR hmm hd hmx ⊢
  obtain ⟨W, hW⟩ : ∃ W, W = (w.alloc (.cells #[.slice A r.l.length c, .int .i64 r.lv, .slice B n d] 31)).alloc (.cells #[.slice none 0 0, .int .i64 0, .slice none 0 0] 31) := ⟨_, rfl⟩
  have hBW : Below w.heap.size w W := by rw [hW]; exact ((Below.refl _ _).alloc (Nat.le_refl _) _).alloc (by simp) _
  have hW1 : W.heap[w.heap.size]? = some (.cells #[.slice A r.l.length c, .int .i64 r.lv, .slice B n d] 31 (0, 0)) := by rw [hW]; exact heap_alloc2_old w _ _
  have hW2 : W.heap[w.heap.size + 1]? = some (.cells #[.slice none 0 0, .int .i64 0, .slice none 0 0] 31 (0, 0)) := by rw [hW]; exact heap_alloc2_new w _ _
  have hWl := (Array.getElem?_eq_some_iff.1 hW2).1
  obtain ⟨⟨a0, a1, a2⟩, _⟩ := cells3 hW1
  have hC := f31_any (w := W) (F := own2 w.heap.size F) (pv := .slice none 0 0) (modOb s ((n : Int) + 1)) (hR.keep (Fr.more hBW fun b hb => own2_sub hb)) (Sl.nil _ _ _) h0 h64 (fun b hb => by
    unfold own2 at hb; simp at hb
    rcases hb with h | h | h
    · omega
    · omega
    · exact Nat.lt_of_lt_of_le (hFl b h) hBW.size) hsm
  rw [hr] at hC
  have HR := Lib.hid hR
  have HW := Lib.hid hW
  have HW1 := Lib.hid hW1
  have HW2 := Lib.hid hW2
  have HC := Lib.hid hC
  have HE := Lib.hid hE
  have HF := Lib.hid hFl
  have HM := Lib.hid hmm
  have HN := Lib.hid hn
  clear hl hmm hA hes hR hW hW1 hW2 hC hE hFl hn hr
  go_enter Try.func36, Try.ntmps36
  go_wp2_with fail
  rw [← HW.out]
  go_wp2_with (go_at_call 31; refine HC.out.mono ?_; rintro e wa ⟨v', rfl, hba, hra⟩; have HRA := Lib.hid hra; obtain ⟨_, _, rfl, hla, hma⟩ := hra; obtain ⟨A', c', rfl, _, hl2, _⟩ := ob_at hla; obtain ⟨B', d', rfl, _⟩ := obs_shape hma; obtain ⟨⟨c0, c1, c2⟩, _⟩ := cells3 ((hba.block _ (by omega)).trans HW1.out); have hwal := hba.size; have HBA := Lib.hid hba; have hwl0 : w.heap.size < wa.heap.size := (by omega); have hwl1 : w.heap.size + 1 < wa.heap.size := (by omega); clear hba hla hma)
  obtain ⟨wc, hwc⟩ : ∃ wc, wc = wa.alloc (.cells #[.slice A' r2.l.length c', .int .i64 r2.lv, .slice B' r2.mods.length d'] 31) := ⟨_, rfl⟩
  have hBa : Below w.heap.size w wa := hBW.trans (HBA.out.mono hBW.size)
  have kc : Below wa.heap.size wa wc := by rw [hwc]; exact (Below.refl _ _).alloc (Nat.le_refl _) _
  have hBc : Below w.heap.size w wc := hBa.trans (kc.mono hBa.size)
  have hc3 : wc.heap[wa.heap.size]? = some (.cells #[.slice A' r2.l.length c', .int .i64 r2.lv, .slice B' r2.mods.length d'] 31 (0, 0)) := by rw [hwc]; exact heap_alloc_new wa _
  have hcl := (Array.getElem?_eq_some_iff.1 hc3).1
  have HC3 := Lib.hid hc3
  have HWC := Lib.hid hwc
  have HKC := Lib.hid kc
  clear hwc hc3 kc
  rw [← HWC.out]
  go_loopw [12, 13, 14] (fun u i q wr => ∃ (j : Nat) (cs : List Value), j ≤ es.length ∧ i = .int .i64 j ∧ Below wc.heap.size wc wr ∧ OwnN wc.heap.size wr 46 8 u j cs ∧ OC (fp u (wa.heap.size :: own2 w.heap.size F)) wr cs ((es.take j).map (imp ((n : Int) + 1)))) (fun _ i _ _ => es.length - (intOf i).toNat)
  case atStart => exact ⟨0, [], Nat.zero_le _, rfl, Below.refl _ _, OwnN.nil _ _ _ _, fun i x hi => by simp at hi⟩
  case round =>
    obtain ⟨j, cs, hj, rfl, hBl, hown, hoc⟩ := hrel
    have hs := hBl.size
    have hBw : Below w.heap.size w wr := hBc.trans (hBl.mono hBc.size)
    by_cases hlt : j < es.length
    · obtain ⟨x, hx⟩ : ∃ x, es[j]? = some x := ⟨_, List.getElem?_eq_getElem hlt⟩
      obtain ⟨b, o, rfl, hbl, q0, q1, q2, q3, pv, q4, hps⟩ := HE.out j x hx
      obtain ⟨Ap, cp, rfl⟩ : ∃ A c, pv = .slice A x.ps.length c := by obtain ⟨_, A, c, h, _⟩ := hps; exact ⟨A, c, h⟩
      have r0 := (hBw.cell (p := ⟨b, o + j * 5, none⟩) hbl.1).trans q0
      have r1 := (hBw.cell (p := ⟨b, o + j * 5 + 1, none⟩) hbl.1).trans q1
      have r2' := (hBw.cell (p := ⟨b, o + j * 5 + 2, none⟩) hbl.1).trans q2
      have r3 := (hBw.cell (p := ⟨b, o + j * 5 + 3, none⟩) hbl.1).trans q3
      have r4 := (hBw.cell (p := ⟨b, o + j * 5 + 4, none⟩) hbl.1).trans q4
      have hbl1 := Nat.lt_of_lt_of_le hbl.1 hBw.size
      have hsn : (es.take (j + 1)).map (imp ((n : Int) + 1)) = (es.take j).map (imp ((n : Int) + 1)) ++ [imp ((n : Int) + 1) x] := by rw [List.take_add_one, hx]; simp
      have HO := Lib.hid hown
      have HCs := Lib.hid hoc
      obtain ⟨Av, cv, rfl, _⟩ := own_cells hown.1
      have hP : PsR (fp (.slice Av j cv) (wa.heap.size :: own2 w.heap.size F)) wr (.slice Ap x.ps.length cp) x.ps := hps.keep (Fr.more hBw fun b hb => by
        rcases mem_fp.1 hb with h | h
        · exact .inr (Nat.le_trans hBc.size (hown.2 b h))
        · rcases List.mem_cons.1 h with rfl | h
          · exact .inr (by omega)
          · exact own2_sub h)
      have HP := Lib.hid hP
      have HSN := Lib.hid hsn
      have k0 : Below wr.heap.size wr (wr.alloc (.cells #[.string x.nm, .int .i64 x.kd, .int .i64 x.ty, .int .i32 x.v, .slice Ap x.ps.length cp] 71)) := (Below.refl _ _).alloc (Nat.le_refl _) _
      have hlen1 : j + 1 ≤ 34359738368 := by omega
      clear hbl q0 q1 q2 q3 q4 hx hps hown hoc hP hsn
      go_wp2_with (at_builtin; refine wpList_app ti28 (by rfl) _ _ (by rfl) (by rfl) ((HO.out.1.alloc _).alloc _) (by rfl) [.string x.nm, .int .i64 x.kd, .int .i64 x.ty, .int .i64 0, .int .i32 x.v, .int .i64 ((n : Int) + 1), .bool false, .slice Ap x.ps.length cp] (by rfl) (by exact new_src_at _ #[.string x.nm, .int .i64 x.kd, .int .i64 x.ty, .int .i64 0, .int .i32 x.v, .int .i64 ((n : Int) + 1), .bool false, .slice Ap x.ps.length cp] 46 (0, 0) 1 _ (by simp)) (by simp [Value.oneCell']) hlen1 ?_)
      intro A1 c1 w5 hown5 hg5 hob5
      have HO5 := Lib.hid hown5
      have HRL := Lib.hid (app_rel (hBl.trans (k0.mono hs)) (Nat.le_trans hs k0.size) HO.out.2 hg5 (by rcases hob5 with h | h; exact .inl h; exact .inr (by rw [h]; simp)))
      clear hown5 hg5 hob5
      go_wp2
      go_roundw
      case rel =>
        obtain ⟨k1, k2, k3⟩ := HRL.out
        refine ⟨j + 1, cs ++ [.string x.nm, .int .i64 x.kd, .int .i64 x.ty, .int .i64 0, .int .i32 x.v, .int .i64 ((n : Int) + 1), .bool false, .slice Ap x.ps.length cp], by omega, by go_num, k1, ?_, ?_⟩
        · exact ⟨HO5.out, k2⟩
        · rw [HSN.out]
          exact ((HCs.out.keep (Fr.of_below k0)).keep (k3 _)).snoc (x := imp ((n : Int) + 1) x) (by have := HO.out.1.1; simp; omega) ((HP.out.keep (Fr.of_below k0)).keep (k3 _))
      case measure => simp [intOf]; omega
    · obtain rfl : j = es.length := by omega
      rw [List.take_of_length_le (Nat.le_refl _)] at hoc
      obtain ⟨Au, cu, rfl, hcu, hu⟩ := own_cells hown.1
      have Z1 := ((hBl.block _ (by omega)).trans (HKC.out.block _ hwl0)).trans ((HBA.out.block _ (by omega)).trans HW1.out)
      have Z2 := ((hBl.block _ (by omega)).trans (HKC.out.block _ hwl1)).trans ((HBA.out.block _ hWl).trans HW2.out)
      have Z3 := (hBl.block _ hcl).trans HC3.out
      obtain ⟨⟨z0, z1, z2⟩, _⟩ := cells3 Z1
      have hwr0 : w.heap.size < wr.heap.size := by omega
      have HO := Lib.hid hown
      have HCs := Lib.hid hoc
      have HZ2 := Lib.hid Z2
      have HZ3 := Lib.hid Z3
      obtain ⟨ms, B1, d1, hBe, hml, hlc, hsrc, hone⟩ := obs_cells HM.out
      injection hBe with hBe hx hd1
      subst hBe
      rw [HN.out] at hml hsrc
      have HSR := Lib.hid hsrc
      have HLC := Lib.hid hlc
      clear hown hoc hu Z1 Z2 Z3 hsrc hlc hx hd1
      go_wp2_with (at_builtin; refine wpList_app ti29 (by rfl) _ _ (by rfl) (by rfl) (own_empty _ _ _) (by rfl) ms (by rw [hml, Nat.mul_one]) ?_ hone (by omega) ?_)
      · intro h0
        obtain ⟨ad, e, hb, hcc⟩ := HSR.out h0
        refine ⟨ad, e, fun j u hu => ?_⟩
        exact (World.cell?_of_block (a := ad.add j) (by rw [add_block]; exact ((((Below.refl wr.heap.size wr).alloc (Nat.le_refl _) (.cells #[] 28)).block _ (Nat.lt_of_lt_of_le hb hBw.size))).trans (hBw.block _ hb))).trans (hcc j u hu)
      · intro A1 c1 w3 hown3 hg3 hob3
        have k3 : Below wr.heap.size wr w3 := ((Below.refl wr.heap.size wr).alloc (Nat.le_refl _) (.cells #[] 28)).grown hg3 (by simp) (fun b hb => by cases hb; simp)
        have hown3' : w3.ownsRow 0 28 1 (.slice A1 n c1) n ms := by simpa using hown3
        have hn3 : ∀ b, (Value.slice A1 n c1).ownBlock = some b → wr.heap.size ≤ b := fun b hb => by
          (try rw [Nat.zero_add] at hob3)
          rcases hob3 with h | h
          · rw [h] at hb; cases hb; simp
          · rw [h] at hb; injection hb with hb; (try simp at hb); omega
        have HO3 := Lib.hid hown3'
        have HN3 := Lib.hid hn3
        have hs3 := k3.size
        clear hown3 hown3' hg3 hob3 hn3
        go_wp2_with (at_builtin; refine wpList_app ti29 (by rfl) _ _ (by rfl) (by rfl) (HO3.out.alloc _) (by rfl) [.slice Au es.length cu] (by rfl) (by exact new_src w3 #[.slice Au es.length cu] 28 (0, 0) 1) (by simp [Value.oneCell']) (by omega) ?_)
        intro A2 c2 w5 hown5 hg5 hob5
        have k5 : Below wr.heap.size wr w5 := (k3.alloc hs3 (.cells #[.slice Au es.length cu] 28)).grown hg5 (by simp; omega) HN3.out
        have hn5 : ∀ b, (Value.slice A2 (n + 1) c2).ownBlock = some b → wr.heap.size ≤ b := fun b hb => by
          rcases hob5 with h | h
          · exact HN3.out b (h ▸ hb)
          · rw [h] at hb; injection hb with hb; (try simp at hb); omega
        have Y2 := (k5.block (w.heap.size + 1) (by omega)).trans HZ2.out
        have Y3 := (k5.block wa.heap.size (by omega)).trans HZ3.out
        obtain ⟨⟨y0, y1, y2⟩, yf⟩ := cells3 Y3
        obtain ⟨⟨x0, x1, x2⟩, xf⟩ := cells3 Y2
        have yf2 := yf 2
        have xf0 := xf 0
        have xf1 := xf 1
        have xf2 := xf 2
        have ne1 : w.heap.size + 1 ≠ wa.heap.size := by omega
        have ne2 : wa.heap.size ≠ w.heap.size + 1 := by omega
        have HY2 := Lib.hid Y2
        have HO5 := Lib.hid hown5
        have HN5 := Lib.hid hn5
        have HK5 := Lib.hid k5
        clear hown5 hg5 hob5 hn5 Y2 Y3 yf xf k5 k3
        go_wp2_with fail
        obtain ⟨w6, hw6⟩ : ∃ w6, w6 = w5.setCell ⟨wa.heap.size, 2, none⟩ (.slice A2 (n + 1) c2) := ⟨_, rfl⟩
        rw [← hw6]
        obtain ⟨w7, hw7⟩ : ∃ w7, w7 = ((w6.setCell ⟨w.heap.size + 1, 0, none⟩ (.slice A' r2.l.length c')).setCell ⟨w.heap.size + 1, 1, none⟩ (.int .i64 r2.lv)).setCell ⟨w.heap.size + 1, 2, none⟩ (.slice A2 (n + 1) c2) := ⟨_, rfl⟩
        rw [← hw7]
        have s6 : SameBut wa.heap.size w5 w6 := by rw [hw6]; exact (SameBut.refl _ _).setCell 2 _
        obtain ⟨hx7, s7⟩ := block3 ((s6.block _ ne1).trans HY2.out) _ _ _ hw7
        clear hw6 hw7
        refine bodyPost_ret (results_ref3 _ 6 7 8 Try.results36 _ _ _ _ _ _ _ _ rfl rfl rfl hx7) rfl ?_
        have hB5 : Below w.heap.size w w5 := hBw.trans (HK5.out.mono hBw.size)
        have hB7 : Below w.heap.size w w7 := (hB5.trans (s6.below (by omega))).trans (s7.below (by omega))
        have hf7 : Fr (wa.heap.size :: own2 w.heap.size F) wr (wa.heap.size :: own2 w.heap.size F) w7 := (Fr.of_below HK5.out).trans ((s6.fr (by simp)).trans (s7.fr (by simp [own2])))
        have hsubG : ∀ b, b ∈ wa.heap.size :: own2 w.heap.size F → b ∈ F ∨ w.heap.size ≤ b := fun b hb => by
          rcases List.mem_cons.1 hb with rfl | h
          · exact .inr (by omega)
          · exact own2_sub h
        have hobU : ObR (wa.heap.size :: own2 w.heap.size F) wr (.slice Au es.length cu) (es.map (imp ((n : Int) + 1))) := by
          have := (HCs.out.weak (F' := wa.heap.size :: own2 w.heap.size F) fun b hb => mem_fp.2 (.inr hb)).toR (t := 46) (v := .slice Au es.length cu) (by rw [List.length_map]; exact HO.out.1) (fun b hb hm => by
            have h1 := HO.out.2 b hb
            rcases List.mem_cons.1 hm with rfl | h
            · omega
            · unfold own2 at h; simp at h
              rcases h with h | h | h
              · omega
              · omega
              · have := HF.out b h; omega) (by simpa using hel)
          exact this
        have hLC : LC (wa.heap.size :: own2 w.heap.size F) w7 (ms ++ [.slice Au es.length cu]) (r.mods ++ [es.map (imp ((n : Int) + 1))]) :=
          (HLC.out.keep ((Fr.more hBw hsubG).trans hf7)).snoc (by rw [hml, HN.out]) (hobU.keep hf7)
        have hrow : w7.ownsRow 0 28 1 (.slice A2 (n + 1) c2) (n + 1) (ms ++ [.slice Au es.length cu]) := ownsRow_same HO5.out fun b hb => by
          have := HN5.out b hb
          exact (s7.block b (by omega)).trans (s6.block b (by omega))
        have hM7 : ObsR F w7 (.slice A2 (n + 1) c2) (r.mods ++ [es.map (imp ((n : Int) + 1))]) := (hLC.toR (t := 28) (by rw [List.length_append, HN.out]; exact hrow) (fun b hb hm => by
            have h1 := HN5.out b hb
            rcases List.mem_cons.1 hm with rfl | h
            · omega
            · unfold own2 at h; simp at h
              rcases h with h | h | h
              · omega
              · omega
              · have := HF.out b h; omega) (by rw [List.length_append, HN.out]; simp; omega)).weak fun b hb => by simp [own2, hb]
        have hfa : Fr (own2 w.heap.size F) wa (own2 w.heap.size F) w7 :=
          ⟨(s7.os.trans s6.os).trans (HK5.out.os.trans (hBl.os.trans HKC.out.os)), (s7.tape.trans s6.tape).trans (HK5.out.tape.trans (hBl.tape.trans HKC.out.tape)), (s7.output.trans s6.output).trans (HK5.out.output.trans (hBl.output.trans HKC.out.output)),
            by rw [s7.size, s6.size]; have := HK5.out.size; omega, fun b hb hbF => (s7.block b (by rintro rfl; exact hbF (by simp [own2]))).trans ((s6.block b (by omega)).trans ((HK5.out.block b (by omega)).trans ((hBl.block b (by omega)).trans (HKC.out.block b hb)))), fun b hb => .inl hb⟩
        obtain ⟨_, _, he, hL, _⟩ := HRA.out
        injection he with he
        have hLv := (hL.keep hfa).weak (F' := F) fun b hb => by simp [own2, hb]
        simp only [Array.mk.injEq, List.cons.injEq] at he
        obtain ⟨rfl, _⟩ := he
        exact ⟨_, rfl, hB7, _, _, rfl, hLv, hM7⟩

theorem f36_any {F : List Nat} {w : World} {v lv : Value} {r : Rf} (s : ByteArray) (es : List Ex) (h : RfR F w v r) (hes : ExR F w lv es) (h0 : 0 ≤ r.lv) (h64 : r.lv ≤ 64) (hFl : ∀ b ∈ F, b < w.heap.size) (hsm : r.l.length ≤ 1000) :
    Calls Try.prog 36 #[v, .string s, lv] w (ImpPost F w (importR r s es)) := by
  by_cases hm : 64 ≤ r.mods.length
  · have : importR r s es = (0, 243, r) := by unfold importR; rw [if_pos hm]
    rw [this]; exact f36_full s es h hes hm
  · by_cases hr : (declareR r (modOb s ((r.mods.length : Int) + 1))).1 = 0
    · have : importR r s es = ((r.mods.length : Int) + 1, 0, { (declareR r (modOb s ((r.mods.length : Int) + 1))).2 with mods := r.mods ++ [es.map (imp ((r.mods.length : Int) + 1))] }) := by
        unfold importR; rw [if_neg hm]; simp [hr]
      rw [this]
      exact f36_yes s es h hes rfl (by omega) h0 h64 hFl hsm (by rw [← hr])
    · have : importR r s es = (0, (declareR r (modOb s ((r.mods.length : Int) + 1))).1, r) := by
        unfold importR; rw [if_neg hm]; simp [hr]
      rw [this]
      exact f36_no s es h hes (by omega) h0 h64 hFl hsm hr
end Go.Proofs.Ytengenceelmijaa
