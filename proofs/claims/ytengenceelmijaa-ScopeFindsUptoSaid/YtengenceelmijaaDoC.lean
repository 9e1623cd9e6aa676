import Derived.Test.YtengenceelmijaaDoB
namespace Go.Proofs.Ytengenceelmijaa
open Go.RowKit
set_option linter.unusedVariables false
theorem DoPost.below {X F : List Nat} {w w7 w8 : World} {p n : Nat} {e : Ending} (h : DoPost X F w p n e w7) (hB : Below w7.heap.size w7 w8) : DoPost X F w p n e w8 := by
  obtain ⟨v', F', a', r', h1, h2, h3, h4, h5, h6⟩ := h
  exact ⟨v', F', a', r', h1, h2.trans (Fr.of_below hB), h3.below hB, h4.keep (Fr.of_below hB), h5, h6⟩

set_option maxHeartbeats 4000000 in
set_option maxRecDepth 100000 in
theorem f21_import {F X : List Nat} {w : World} {p : Nat} {a : Abs} {r : Rf} {v pv lv : Value} (o : OpD) (hs : Sc F w p a) (hr : RfR (X ++ F) w v r) (hX : ∀ b ∈ X, b < w.heap.size) (hrel : Rel a r) (hsm : r.l.length ≤ 1000) (hps : PsR (X ++ F) w pv o.x.ps) (hes : ExR (X ++ F) w lv o.list) (hk : o.kind = 4) :
    Calls Try.prog 21 #[.pointer (some ⟨p, 0, none⟩), v, opV o pv lv] w (DoPost X F w p r.l.length) := by
  obtain ⟨L, mv, rfl, hl, hm⟩ := hr
  obtain ⟨A, c, rfl, hc, hn, _⟩ := ob_at hl
  obtain ⟨B, d, rfl, hd, _⟩ := obs_shape hm
  obtain ⟨Ap, cp, rfl, _⟩ := ps_at hps
  obtain ⟨E, f, rfl, _⟩ := eim_at hes
  have hFl := hs.lt
  have hR : RfR (X ++ F) w (.agg #[.slice A r.l.length c, .int .i64 r.lv, .slice B r.mods.length d]) r := ⟨_, _, rfl, hl, hm⟩
  obtain ⟨W, hW⟩ : ∃ W, W = (((w.alloc (.cells #[.slice A r.l.length c, .int .i64 r.lv, .slice B r.mods.length d] 31)).alloc (.cells #[.int .i64 4, .int .i64 o.n, .string o.x.nm, .int .i64 o.x.kd, .int .i64 o.x.ty, .int .i64 o.x.lv, .int .i32 o.x.n, .int .i64 o.x.md, .bool o.x.out, .slice Ap o.x.ps.length cp, .slice E o.list.length f] 57)).alloc (.cells #[.slice none 0 0, .int .i64 0, .slice none 0 0] 31)).alloc (.cells #[.slice A r.l.length c, .int .i64 r.lv, .slice B r.mods.length d] 31) := ⟨_, rfl⟩
  obtain ⟨hBW, W1, W2, W3, W4, hWl⟩ := do_world w _ _ _ _ W hW
  have nF : ∀ g, w.heap.size ≤ g → g ∉ F := fun g hg hm => by have := hFl g hm; omega
  have h0 : 0 ≤ r.lv := by have := hrel.lv; have := hrel.pos; omega
  have h64 : r.lv ≤ 64 := by have := hrel.lv; have := hrel.le; omega
  have HW := Lib.hid hW
  have HW1 := Lib.hid W1
  have HW2 := Lib.hid W2
  have HW3 := Lib.hid W3
  have HW4 := Lib.hid W4
  have HR := Lib.hid hR
  have HS := Lib.hid (hs.below hBW)
  have HREL := Lib.hid hrel
  have HP := Lib.hid hps
  have HE := Lib.hid hes
  have HNF := Lib.hid nF
  obtain ⟨q, hq⟩ : ∃ q, q = importR r o.x.nm o.list := ⟨_, rfl⟩
  have hrel2 := hrel.import_ hsm o.x.nm o.list
  rw [← hq] at hrel2
  have HREL2 := Lib.hid hrel2
  have HQ := Lib.hid hq
  have hCP := f35_any o.x.nm _ o.list HS.out ((hes.keep (Fr.of_below hBW)).weak fun b hb => List.mem_append_right _ hb)
  rw [hrel2.1, hrel2.2.1] at hCP
  have HCP := Lib.hid hCP
  clear hs hl hm hps hes hrel hW W1 W2 W3 W4 hR hFl nF hrel2 hCP hq
  unfold opV
  rw [hk]
  go_enter Try.func21, Try.ntmps21
  go_wp2_with fail
  rw [← HW.out]
  obtain ⟨mw0, mw10⟩ : W.cell? ⟨w.heap.size + 1, 2, none⟩ = some (.string o.x.nm) ∧ W.cell? ⟨w.heap.size + 1, 10, none⟩ = some (.slice E o.list.length f) := ⟨(cell_of_row W (w.heap.size + 1) 2 _ 57 (0, 0) HW2.out).trans rfl, (cell_of_row W (w.heap.size + 1) 10 _ 57 (0, 0) HW2.out).trans rfl⟩
  refine HCP.out.mono ?_
  rintro e wa ⟨rfl, F', hf, hsa⟩
  have nF' : w.heap.size + 1 + 1 ∉ F' ∧ w.heap.size + 1 + 1 + 1 ∉ F' ∧ w.heap.size ∉ F' ∧ w.heap.size + 1 ∉ F' := (by refine ⟨fun hm => ?_, fun hm => ?_, fun hm => ?_, fun hm => ?_⟩ <;> (rcases hf.sub _ hm with h | h; exact HNF.out _ (by omega) h; omega))
  have HN := Lib.hid nF'
  have hwal := hf.size
  have k1 := (hf.block _ (by omega) (HNF.out _ (by omega))).trans HW1.out
  have k2 := (hf.block _ (by omega) (HNF.out _ (by omega))).trans HW2.out
  have k3 := (hf.block _ (by omega) (HNF.out _ (by omega))).trans HW3.out
  have k4 := (hf.block _ (by omega) (HNF.out _ (by omega))).trans HW4.out
  obtain ⟨⟨c0, c1, c2⟩, _⟩ := cells3 k1
  have K1 := Lib.hid k1
  have K2 := Lib.hid k2
  have K3 := Lib.hid k3
  have K4 := Lib.hid k4
  have HF := Lib.hid hf
  have HSA := Lib.hid hsa
  have la0 : w.heap.size < wa.heap.size := (by omega)
  have la1 : w.heap.size + 1 < wa.heap.size := (by omega)
  have la2 : w.heap.size + 1 + 1 < wa.heap.size := (by omega)
  have la3 : w.heap.size + 1 + 1 + 1 < wa.heap.size := (by omega)
  clear k1 k2 k3 k4 hf hsa nF' hwal
  have FRG : Fr ((w.heap.size + 1 + 1) :: (w.heap.size + 1 + 1 + 1) :: (X ++ F)) W ((w.heap.size + 1 + 1) :: (w.heap.size + 1 + 1 + 1) :: (X ++ F')) wa :=
    ⟨HF.out.os, HF.out.tape, HF.out.output, HF.out.size, fun b hb hbF => HF.out.block b hb (fun hm => hbF (by simp [hm])), fun b hb => by
      simp at hb
      rcases hb with h | h | h | h
      · exact .inl (by simp [h])
      · exact .inl (by simp [h])
      · exact .inl (by simp [h])
      · rcases HF.out.sub b h with h | h
        · exact .inl (by simp [h])
        · exact .inr h⟩
  have HRW := Lib.hid ((HR.out.keep (Fr.more hBW (F' := (w.heap.size + 1 + 1) :: (w.heap.size + 1 + 1 + 1) :: (X ++ F)) (fun b hb => by simp at hb; rcases hb with h | h | h; exact .inr (by omega); exact .inr (by omega); exact .inl (List.mem_append.2 h)))).keep (w' := wa) (F' := (w.heap.size + 1 + 1) :: (w.heap.size + 1 + 1 + 1) :: (X ++ F')) FRG)
  have HEW := Lib.hid ((HE.out.keep (Fr.more hBW (F' := (w.heap.size + 1 + 1) :: (w.heap.size + 1 + 1 + 1) :: (X ++ F)) (fun b hb => by simp at hb; rcases hb with h | h | h; exact .inr (by omega); exact .inr (by omega); exact .inl (List.mem_append.2 h)))).keep (w' := wa) (F' := (w.heap.size + 1 + 1) :: (w.heap.size + 1 + 1 + 1) :: (X ++ F')) FRG)
  have hCR := f36_any (F := (w.heap.size + 1 + 1) :: (w.heap.size + 1 + 1 + 1) :: (X ++ F')) (w := wa) o.x.nm o.list HRW.out HEW.out h0 h64 (fun b hb => by
      simp at hb
      rcases hb with h | h | h | h
      · omega
      · omega
      · have := hX b h; omega
      · exact HSA.out.lt b h) hsm
  rw [← HQ.out] at hCR
  have HC := Lib.hid hCR
  have mc := fun (o' : Nat) (u : Value) (hu : #[Value.int .i64 4, .int .i64 o.n, .string o.x.nm, .int .i64 o.x.kd, .int .i64 o.x.ty, .int .i64 o.x.lv, .int .i32 o.x.n, .int .i64 o.x.md, .bool o.x.out, .slice Ap o.x.ps.length cp, .slice E o.list.length f][o']? = some u) => (cell_of_row wa (w.heap.size + 1) o' _ 57 (0, 0) K2.out).trans hu
  have m2 : wa.cell? ⟨w.heap.size + 1, 2, none⟩ = some (.string o.x.nm) := mc 2 _ rfl
  have m10 : wa.cell? ⟨w.heap.size + 1, 10, none⟩ = some (.slice E o.list.length f) := mc 10 _ rfl
  clear hCR mc
  go_wp2_with fail
  refine HC.out.mono ?_
  rintro e wb ⟨v', rfl, hb, hr⟩
  have HRB := Lib.hid hr
  obtain ⟨_, _, rfl, hlb, hmb⟩ := hr
  obtain ⟨A', c', rfl, _⟩ := ob_at hlb
  obtain ⟨B', d', rfl, _⟩ := obs_shape hmb
  have b3 := (hb.block _ la2).trans K3.out
  obtain ⟨⟨z0, z1, z2⟩, zf⟩ := cells3 b3
  have zf0 := zf 0
  have zf1 := zf 1
  have zf2 := zf 2
  have BK3 := Lib.hid b3
  have HB := Lib.hid hb
  have lb2 : w.heap.size + 1 + 1 < wb.heap.size := by have := hb.size; omega
  clear b3 zf hb hlb hmb
  go_wp2_with fail
  obtain ⟨w7, hw7⟩ : ∃ w7, w7 = ((wb.setCell ⟨w.heap.size + 1 + 1, 0, none⟩ (.slice A' q.2.2.l.length c')).setCell ⟨w.heap.size + 1 + 1, 1, none⟩ (.int .i64 q.2.2.lv)).setCell ⟨w.heap.size + 1 + 1, 2, none⟩ (.slice B' q.2.2.mods.length d') := ⟨_, rfl⟩
  rw [← hw7]
  obtain ⟨hx7, s7⟩ := block3 BK3.out _ _ _ hw7
  clear hw7
  refine bodyPost_ret (results_ref _ 6 7 Try.results21 _ _ _ _ _ _ _ rfl rfl ((Below.heap_alloc _ _ _ (by rw [s7.size]; exact lb2)).trans hx7)) rfl ?_
  have hlen : q.2.2.l.length ≤ r.l.length + 1 := by rw [HQ.out]; exact importR_len r o.x.nm o.list
  refine (do_tail hBW HF.out HSA.out HB.out HRB.out (SameBut.refl _ _) s7 (noBool3 ((HB.out.block _ la3).trans K4.out)) (noBool3 BK3.out) (by omega) (by omega) HN.out.1 HN.out.2.1 HREL2.out.2.2 hlen).below ((Below.refl _ _).alloc (Nat.le_refl _) _)

set_option maxHeartbeats 4000000 in
set_option maxRecDepth 100000 in
theorem f21_none {F X : List Nat} {w : World} {p : Nat} {a : Abs} {r : Rf} {v pv lv : Value} (o : OpD) (hs : Sc F w p a) (hr : RfR (X ++ F) w v r) (hX : ∀ b ∈ X, b < w.heap.size) (hrel : Rel a r) (hsm : r.l.length ≤ 1000) (hps : PsR (X ++ F) w pv o.x.ps) (hes : ExR (X ++ F) w lv o.list) (hk : o.kind ≠ 0 ∧ o.kind ≠ 1 ∧ o.kind ≠ 2 ∧ o.kind ≠ 3 ∧ o.kind ≠ 4) :
    Calls Try.prog 21 #[.pointer (some ⟨p, 0, none⟩), v, opV o pv lv] w (DoPost X F w p r.l.length) := by
  obtain ⟨L, mv, rfl, hl, hm⟩ := hr
  obtain ⟨A, c, rfl, hc, hn, _⟩ := ob_at hl
  obtain ⟨B, d, rfl, hd, _⟩ := obs_shape hm
  obtain ⟨Ap, cp, rfl, _⟩ := ps_at hps
  obtain ⟨E, f, rfl, _⟩ := eim_at hes
  obtain ⟨k0, k1, k2, k3, k4⟩ := hk
  have e0 : (o.kind == 0) = false := by simpa using k0
  have e1 : (o.kind == 1) = false := by simpa using k1
  have e2 : (o.kind == 2) = false := by simpa using k2
  have e3 : (o.kind == 3) = false := by simpa using k3
  have e4 : (o.kind == 4) = false := by simpa using k4
  have HL := Lib.hid hl
  have HM := Lib.hid hm
  clear hl hm hps hes
  unfold opV
  go_enter Try.func21, Try.ntmps21
  go_wp2_with fail
  obtain ⟨W, hW⟩ : ∃ W, W = (((w.alloc (.cells #[.slice A r.l.length c, .int .i64 r.lv, .slice B r.mods.length d] 31)).alloc (.cells #[.int .i64 o.kind, .int .i64 o.n, .string o.x.nm, .int .i64 o.x.kd, .int .i64 o.x.ty, .int .i64 o.x.lv, .int .i32 o.x.n, .int .i64 o.x.md, .bool o.x.out, .slice Ap o.x.ps.length cp, .slice E o.list.length f] 57)).alloc (.cells #[.slice A r.l.length c, .int .i64 r.lv, .slice B r.mods.length d] 31)).alloc (.cells #[.slice A r.l.length c, .int .i64 r.lv, .slice B r.mods.length d] 31) := ⟨_, rfl⟩
  rw [← hW]
  obtain ⟨hBW, _, _, W3, _, _⟩ := do_world w _ _ _ _ W hW
  refine bodyPost_ret (results_ref _ 6 7 Try.results21 _ _ _ _ _ _ _ rfl rfl W3) rfl ?_
  exact ⟨_, F, a, r, rfl, Fr.of_below hBW, hs.below hBW, ⟨_, _, rfl, HL.out.keep (Fr.of_below hBW), HM.out.keep (Fr.of_below hBW)⟩, hrel, Nat.le_succ _⟩

theorem f21_any {F X : List Nat} {w : World} {p : Nat} {a : Abs} {r : Rf} {v pv lv : Value} (o : OpD) (hs : Sc F w p a) (hr : RfR (X ++ F) w v r) (hX : ∀ b ∈ X, b < w.heap.size) (hrel : Rel a r) (hsm : r.l.length ≤ 1000) (hps : PsR (X ++ F) w pv o.x.ps) (hes : ExR (X ++ F) w lv o.list) :
    Calls Try.prog 21 #[.pointer (some ⟨p, 0, none⟩), v, opV o pv lv] w (DoPost X F w p r.l.length) := by
  by_cases k0 : o.kind = 0
  · exact f21_open o hs hr hX hrel hsm hps hes k0
  by_cases k1 : o.kind = 1
  · exact f21_close o hs hr hX hrel hsm hps hes k1
  by_cases k2 : o.kind = 2
  · exact f21_declare o hs hr hX hrel hsm hps hes k2
  by_cases k3 : o.kind = 3
  · exact f21_change o hs hr hX hrel hsm hps hes k3
  by_cases k4 : o.kind = 4
  · exact f21_import o hs hr hX hrel hsm hps hes k4
  exact f21_none o hs hr hX hrel hsm hps hes ⟨k0, k1, k2, k3, k4⟩
end Go.Proofs.Ytengenceelmijaa
