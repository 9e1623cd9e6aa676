import Derived.Test.YtengenceelmijaaDoA
namespace Go.Proofs.Ytengenceelmijaa
open Go.RowKit
set_option linter.unusedVariables false
theorem cell_3 {w : World} {g b : Nat} {u0 u1 u2 : Value} (h : b ≠ g) (o : Nat) : (((w.setCell ⟨g, 0, none⟩ u0).setCell ⟨g, 1, none⟩ u1).setCell ⟨g, 2, none⟩ u2).cell? ⟨b, o, none⟩ = w.cell? ⟨b, o, none⟩ :=
  World.cell?_of_block (a := ⟨b, o, none⟩) ((((SameBut.refl g w).setCell 0 u0).setCell 1 u1).setCell 2 u2 |>.block b h)
theorem ExR.weak {F F' : List Nat} {w : World} {v : Value} {xs : List Ex} (h : ExR F w v xs) (hF : ∀ b ∈ F', b ∈ F) : ExR F' w v xs :=
  Sl.imp h (fun b hb => ⟨hb.1, fun hm => hb.2 (hF b hm)⟩) fun b o u hb he => by obtain ⟨h0, h1, h2, h3, pv, h4, hp⟩ := he; exact ⟨h0, h1, h2, h3, pv, h4, hp.weak hF⟩
theorem below_of_drew {w w' : World} (h : Below w.drew.heap.size w.drew w') : Below w.heap.size w w' := ⟨h.os, h.tape, h.output, h.size, h.block⟩

set_option maxHeartbeats 4000000 in
set_option maxRecDepth 100000 in
theorem f21_declare {F X : List Nat} {w : World} {p : Nat} {a : Abs} {r : Rf} {v pv lv : Value} (o : OpD) (hs : Sc F w p a) (hr : RfR (X ++ F) w v r) (hX : ∀ b ∈ X, b < w.heap.size) (hrel : Rel a r) (hsm : r.l.length ≤ 1000) (hps : PsR (X ++ F) w pv o.x.ps) (hes : ExR (X ++ F) w lv o.list) (hk : o.kind = 2) :
    Calls Try.prog 21 #[.pointer (some ⟨p, 0, none⟩), v, opV o pv lv] w (DoPost X F w p r.l.length) := by
  obtain ⟨L, mv, rfl, hl, hm⟩ := hr
  obtain ⟨A, c, rfl, hc, hn, _⟩ := ob_at hl
  obtain ⟨B, d, rfl, hd, _⟩ := obs_shape hm
  obtain ⟨Ap, cp, rfl, _⟩ := ps_at hps
  obtain ⟨E, f, rfl, _⟩ := eim_at hes
  have hFl := hs.lt
  have hR : RfR (X ++ F) w (.agg #[.slice A r.l.length c, .int .i64 r.lv, .slice B r.mods.length d]) r := ⟨_, _, rfl, hl, hm⟩
  obtain ⟨W, hW⟩ : ∃ W, W = (((w.alloc (.cells #[.slice A r.l.length c, .int .i64 r.lv, .slice B r.mods.length d] 31)).alloc (.cells #[.int .i64 2, .int .i64 o.n, .string o.x.nm, .int .i64 o.x.kd, .int .i64 o.x.ty, .int .i64 o.x.lv, .int .i32 o.x.n, .int .i64 o.x.md, .bool o.x.out, .slice Ap o.x.ps.length cp, .slice E o.list.length f] 57)).alloc (.cells #[.slice none 0 0, .int .i64 0, .slice none 0 0] 31)).alloc (.cells #[.slice A r.l.length c, .int .i64 r.lv, .slice B r.mods.length d] 31) := ⟨_, rfl⟩
  obtain ⟨hBW, W1, W2, W3, W4, hWl⟩ := do_world w _ _ _ _ W hW
  have nF : ∀ g, w.heap.size ≤ g → g ∉ F := fun g hg hm => by have := hFl g hm; omega
  have h0 : 0 ≤ r.lv := by have := hrel.lv; have := hrel.pos; omega
  have h64 : r.lv ≤ 64 := by have := hrel.lv; have := hrel.le; omega
  have HW := Lib.hid hW
  have HW1 := Lib.hid W1
  have HW2 := Lib.hid W2
  have HW3 := Lib.hid W3
  have HW4 := Lib.hid W4
  have HR := Lib.hid hR
  have HS := Lib.hid (hs.below hBW)
  have HREL := Lib.hid hrel
  have HP := Lib.hid hps
  have HE := Lib.hid hes
  have HNF := Lib.hid nF
  obtain ⟨q, hq⟩ : ∃ q, q = declareR r o.x := ⟨_, rfl⟩
  have hrel2 := hrel.declare hsm o.x
  rw [← hq] at hrel2
  have HREL2 := Lib.hid hrel2
  have HQ := Lib.hid hq
  have hCP := f11_all o.x (.slice Ap o.x.ps.length cp) HS.out ((hps.keep (Fr.of_below hBW)).weak fun b hb => List.mem_append_right _ hb)
  rw [hrel2.1] at hCP
  have HCP := Lib.hid hCP
  clear hs hl hm hps hes hrel hW W1 W2 W3 W4 hR hFl nF hrel2 hCP hq
  unfold opV
  rw [hk]
  go_enter Try.func21, Try.ntmps21
  go_wp2_with fail
  rw [← HW.out]
  refine HCP.out.mono ?_
  rintro e wa ⟨rfl, F', hf, hsa⟩
  have nF' : w.heap.size + 1 + 1 ∉ F' ∧ w.heap.size + 1 + 1 + 1 ∉ F' ∧ w.heap.size ∉ F' ∧ w.heap.size + 1 ∉ F' := (by refine ⟨fun hm => ?_, fun hm => ?_, fun hm => ?_, fun hm => ?_⟩ <;> (rcases hf.sub _ hm with h | h; exact HNF.out _ (by omega) h; omega))
  have HN := Lib.hid nF'
  have hwal := hf.size
  have k1 := (hf.block _ (by omega) (HNF.out _ (by omega))).trans HW1.out
  have k2 := (hf.block _ (by omega) (HNF.out _ (by omega))).trans HW2.out
  have k3 := (hf.block _ (by omega) (HNF.out _ (by omega))).trans HW3.out
  have k4 := (hf.block _ (by omega) (HNF.out _ (by omega))).trans HW4.out
  obtain ⟨⟨c0, c1, c2⟩, _⟩ := cells3 k1
  have K1 := Lib.hid k1
  have K2 := Lib.hid k2
  have K3 := Lib.hid k3
  have K4 := Lib.hid k4
  have HF := Lib.hid hf
  have HSA := Lib.hid hsa
  have la0 : w.heap.size < wa.heap.size := (by omega)
  have la1 : w.heap.size + 1 < wa.heap.size := (by omega)
  have la2 : w.heap.size + 1 + 1 < wa.heap.size := (by omega)
  have la3 : w.heap.size + 1 + 1 + 1 < wa.heap.size := (by omega)
  clear k1 k2 k3 k4 hf hsa nF' hwal
  have FRG : Fr ((w.heap.size + 1 + 1) :: (w.heap.size + 1 + 1 + 1) :: (X ++ F)) W ((w.heap.size + 1 + 1) :: (w.heap.size + 1 + 1 + 1) :: (X ++ F')) wa :=
    ⟨HF.out.os, HF.out.tape, HF.out.output, HF.out.size, fun b hb hbF => HF.out.block b hb (fun hm => hbF (by simp [hm])), fun b hb => by
      simp at hb
      rcases hb with h | h | h | h
      · exact .inl (by simp [h])
      · exact .inl (by simp [h])
      · exact .inl (by simp [h])
      · rcases HF.out.sub b h with h | h
        · exact .inl (by simp [h])
        · exact .inr h⟩
  have HRW := Lib.hid ((HR.out.keep (Fr.more hBW (F' := (w.heap.size + 1 + 1) :: (w.heap.size + 1 + 1 + 1) :: (X ++ F)) (fun b hb => by simp at hb; rcases hb with h | h | h; exact .inr (by omega); exact .inr (by omega); exact .inl (List.mem_append.2 h)))).keep (w' := wa) (F' := (w.heap.size + 1 + 1) :: (w.heap.size + 1 + 1 + 1) :: (X ++ F')) FRG)
  have HPW := Lib.hid ((HP.out.keep (Fr.more hBW (F' := (w.heap.size + 1 + 1) :: (w.heap.size + 1 + 1 + 1) :: (X ++ F)) (fun b hb => by simp at hb; rcases hb with h | h | h; exact .inr (by omega); exact .inr (by omega); exact .inl (List.mem_append.2 h)))).keep (w' := wa) (F' := (w.heap.size + 1 + 1) :: (w.heap.size + 1 + 1 + 1) :: (X ++ F')) FRG)
  have HFW : Hid (∀ b ∈ (w.heap.size + 1 + 1) :: (w.heap.size + 1 + 1 + 1) :: (X ++ F'), b < wa.heap.size) := Lib.hid (fun b hb => by
      simp at hb
      rcases hb with h | h | h | h
      · omega
      · omega
      · have := hX b h; omega
      · exact HSA.out.lt b h)
  have hCR : ∀ wc, Below wa.heap.size wa wc → Calls Try.prog 31 #[.agg #[.slice A r.l.length c, .int .i64 r.lv, .slice B r.mods.length d], obV o.x (.slice Ap o.x.ps.length cp)] wc fun e w' => ∃ v', e = .returned (.tuple #[v', .int .i64 q.1]) ∧ Below wc.heap.size wc w' ∧ RfR ((w.heap.size + 1 + 1) :: (w.heap.size + 1 + 1 + 1) :: (X ++ F')) w' v' q.2 := fun wc hbc => by
    have := f31_any (F := (w.heap.size + 1 + 1) :: (w.heap.size + 1 + 1 + 1) :: (X ++ F')) (w := wc) (pv := .slice Ap o.x.ps.length cp) o.x (HRW.out.keep (Fr.of_below hbc)) (HPW.out.keep (Fr.of_below hbc)) h0 h64 (fun b hb => Nat.lt_of_lt_of_le (HFW.out b hb) hbc.size) hsm
    rwa [← HQ.out] at this
  have HC := Lib.hid hCR
  have hC32 := fun wc => f32_any (F := (w.heap.size + 1 + 1) :: (w.heap.size + 1 + 1 + 1) :: (X ++ F')) (w := wc) o.x (.slice Ap o.x.ps.length cp)
  have HC32 := Lib.hid hC32
  clear hCR hC32
  have mc := fun (o' : Nat) (u : Value) (hu : #[Value.int .i64 2, .int .i64 o.n, .string o.x.nm, .int .i64 o.x.kd, .int .i64 o.x.ty, .int .i64 o.x.lv, .int .i32 o.x.n, .int .i64 o.x.md, .bool o.x.out, .slice Ap o.x.ps.length cp, .slice E o.list.length f][o']? = some u) => (cell_of_row wa (w.heap.size + 1) o' _ 57 (0, 0) K2.out).trans hu
  have p0 : wa.cell? ⟨w.heap.size, 0, none⟩ = some (.slice A r.l.length c) := c0
  have p1 : wa.cell? ⟨w.heap.size, 1, none⟩ = some (.int .i64 r.lv) := c1
  have p2 : wa.cell? ⟨w.heap.size, 2, none⟩ = some (.slice B r.mods.length d) := c2
  have m2 : wa.cell? ⟨w.heap.size + 1, 2, none⟩ = some (.string o.x.nm) := mc 2 _ rfl
  have m3 : wa.cell? ⟨w.heap.size + 1, 3, none⟩ = some (.int .i64 o.x.kd) := mc 3 _ rfl
  have m4 : wa.cell? ⟨w.heap.size + 1, 4, none⟩ = some (.int .i64 o.x.ty) := mc 4 _ rfl
  have m5 : wa.cell? ⟨w.heap.size + 1, 5, none⟩ = some (.int .i64 o.x.lv) := mc 5 _ rfl
  have m6 : wa.cell? ⟨w.heap.size + 1, 6, none⟩ = some (.int .i32 o.x.n) := mc 6 _ rfl
  have m7 : wa.cell? ⟨w.heap.size + 1, 7, none⟩ = some (.int .i64 o.x.md) := mc 7 _ rfl
  have m8 : wa.cell? ⟨w.heap.size + 1, 8, none⟩ = some (.bool o.x.out) := mc 8 _ rfl
  have m9 : wa.cell? ⟨w.heap.size + 1, 9, none⟩ = some (.slice Ap o.x.ps.length cp) := mc 9 _ rfl
  obtain ⟨⟨t0, t1, t2⟩, tf⟩ := cells3 K4.out
  have tf0 := tf 0
  have tf1 := tf 1
  have tf2 := tf 2
  clear mc tf c0 c1 c2
  go_wp2_with fail
  go_region_held3 (fun w' => w'.cell? ⟨w.heap.size, 0, none⟩ = some (.slice A r.l.length c) ∧ w'.cell? ⟨w.heap.size, 1, none⟩ = some (.int .i64 r.lv) ∧ w'.cell? ⟨w.heap.size, 2, none⟩ = some (.slice B r.mods.length d) ∧ w'.cell? ⟨w.heap.size + 1, 2, none⟩ = some (.string o.x.nm) ∧ w'.cell? ⟨w.heap.size + 1, 3, none⟩ = some (.int .i64 o.x.kd) ∧ w'.cell? ⟨w.heap.size + 1, 4, none⟩ = some (.int .i64 o.x.ty) ∧ w'.cell? ⟨w.heap.size + 1, 5, none⟩ = some (.int .i64 o.x.lv) ∧ w'.cell? ⟨w.heap.size + 1, 6, none⟩ = some (.int .i32 o.x.n) ∧ w'.cell? ⟨w.heap.size + 1, 7, none⟩ = some (.int .i64 o.x.md) ∧ w'.cell? ⟨w.heap.size + 1, 8, none⟩ = some (.bool o.x.out) ∧ w'.cell? ⟨w.heap.size + 1, 9, none⟩ = some (.slice Ap o.x.ps.length cp)) (first | go_keep | (refine ⟨?_, ?_, ?_, ?_, ?_, ?_, ?_, ?_, ?_, ?_, ?_⟩ <;> (rw [cell_3 (by omega)]; assumption))) (first | (go_at_call 32; refine (HC32.out _ (HPW.out.keep (Fr.refl _ wa).drew)).mono ?_; rintro e w1 ⟨rfl, hb1⟩; have hB1 : Below wa.heap.size wa w1 := below_of_drew hb1; have ap0 := (hB1.cell (p := ⟨w.heap.size, 0, none⟩) (la0)).trans p0; have ap1 := (hB1.cell (p := ⟨w.heap.size, 1, none⟩) (la0)).trans p1; have ap2 := (hB1.cell (p := ⟨w.heap.size, 2, none⟩) (la0)).trans p2; have am2 := (hB1.cell (p := ⟨w.heap.size + 1, 2, none⟩) (la1)).trans m2; have am3 := (hB1.cell (p := ⟨w.heap.size + 1, 3, none⟩) (la1)).trans m3; have am4 := (hB1.cell (p := ⟨w.heap.size + 1, 4, none⟩) (la1)).trans m4; have am5 := (hB1.cell (p := ⟨w.heap.size + 1, 5, none⟩) (la1)).trans m5; have am6 := (hB1.cell (p := ⟨w.heap.size + 1, 6, none⟩) (la1)).trans m6; have am7 := (hB1.cell (p := ⟨w.heap.size + 1, 7, none⟩) (la1)).trans m7; have am8 := (hB1.cell (p := ⟨w.heap.size + 1, 8, none⟩) (la1)).trans m8; have am9 := (hB1.cell (p := ⟨w.heap.size + 1, 9, none⟩) (la1)).trans m9; have HB1 := Lib.hid hB1; have lb0 : w.heap.size < w1.heap.size := Nat.lt_of_lt_of_le la0 hB1.size; have lb1 : w.heap.size + 1 < w1.heap.size := Nat.lt_of_lt_of_le la1 hB1.size; clear hb1 hB1) | (go_at_call 31; refine (HC.out _ HB1.out).mono ?_; rintro e wb ⟨v', rfl, hb, hr⟩; have hbb : Below w1.heap.size w1 wb := hb; have bp0 := (hbb.cell (p := ⟨w.heap.size, 0, none⟩) (lb0)).trans ap0; have bp1 := (hbb.cell (p := ⟨w.heap.size, 1, none⟩) (lb0)).trans ap1; have bp2 := (hbb.cell (p := ⟨w.heap.size, 2, none⟩) (lb0)).trans ap2; have bm2 := (hbb.cell (p := ⟨w.heap.size + 1, 2, none⟩) (lb1)).trans am2; have bm3 := (hbb.cell (p := ⟨w.heap.size + 1, 3, none⟩) (lb1)).trans am3; have bm4 := (hbb.cell (p := ⟨w.heap.size + 1, 4, none⟩) (lb1)).trans am4; have bm5 := (hbb.cell (p := ⟨w.heap.size + 1, 5, none⟩) (lb1)).trans am5; have bm6 := (hbb.cell (p := ⟨w.heap.size + 1, 6, none⟩) (lb1)).trans am6; have bm7 := (hbb.cell (p := ⟨w.heap.size + 1, 7, none⟩) (lb1)).trans am7; have bm8 := (hbb.cell (p := ⟨w.heap.size + 1, 8, none⟩) (lb1)).trans am8; have bm9 := (hbb.cell (p := ⟨w.heap.size + 1, 9, none⟩) (lb1)).trans am9; have HRB := Lib.hid hr; obtain ⟨_, _, rfl, hlb, hmb⟩ := hr; obtain ⟨A', c', rfl, _⟩ := ob_at hlb; obtain ⟨B', d', rfl, _⟩ := obs_shape hmb; have HB := Lib.hid (HB1.out.trans (hbb.mono HB1.out.size)); have b3 := (HB.out.block _ la2).trans K3.out; have b4 := (HB.out.block _ la3).trans K4.out; obtain ⟨⟨y0, y1, y2⟩, yf⟩ := cells3 b4; obtain ⟨⟨z0, z1, z2⟩, zf⟩ := cells3 b3; have yf0 := yf 0; have yf1 := yf 1; have yf2 := yf 2; have zf0 := zf 0; have zf1 := zf 1; have zf2 := zf 2; have BK3 := Lib.hid b3; have BK4 := Lib.hid b4; clear b3 b4 yf zf hb hbb hlb hmb))
  go_wp2_with fail
  obtain ⟨w6, hw6⟩ : ∃ w6, w6 = ((wb.setCell ⟨w.heap.size + 1 + 1 + 1, 0, none⟩ (.slice A' q.2.l.length c')).setCell ⟨w.heap.size + 1 + 1 + 1, 1, none⟩ (.int .i64 q.2.lv)).setCell ⟨w.heap.size + 1 + 1 + 1, 2, none⟩ (.slice B' q.2.mods.length d') := ⟨_, rfl⟩
  rw [← hw6]
  obtain ⟨w7, hw7⟩ : ∃ w7, w7 = ((w6.setCell ⟨w.heap.size + 1 + 1, 0, none⟩ (.slice A' q.2.l.length c')).setCell ⟨w.heap.size + 1 + 1, 1, none⟩ (.int .i64 q.2.lv)).setCell ⟨w.heap.size + 1 + 1, 2, none⟩ (.slice B' q.2.mods.length d') := ⟨_, rfl⟩
  rw [← hw7]
  obtain ⟨hx6, s6⟩ := block3 (BK4.out) _ _ _ hw6
  obtain ⟨hx7, s7⟩ := block3 ((s6.block _ (by omega)).trans BK3.out) _ _ _ hw7
  clear hw6 hw7
  refine bodyPost_ret (results_ref _ 6 7 Try.results21 _ _ _ _ _ _ _ rfl rfl hx7) rfl ?_
  have hlen : q.2.l.length ≤ r.l.length + 1 := by rw [HQ.out]; exact declareR_len r o.x
  exact do_tail hBW HF.out HSA.out HB.out HRB.out s6 s7 (noBool3 BK4.out) (noBool3 ((s6.block _ (by omega)).trans BK3.out)) (by omega) (by omega) HN.out.1 HN.out.2.1 HREL2.out.2 hlen
set_option maxHeartbeats 4000000 in
set_option maxRecDepth 100000 in
theorem f21_change {F X : List Nat} {w : World} {p : Nat} {a : Abs} {r : Rf} {v pv lv : Value} (o : OpD) (hs : Sc F w p a) (hr : RfR (X ++ F) w v r) (hX : ∀ b ∈ X, b < w.heap.size) (hrel : Rel a r) (hsm : r.l.length ≤ 1000) (hps : PsR (X ++ F) w pv o.x.ps) (hes : ExR (X ++ F) w lv o.list) (hk : o.kind = 3) :
    Calls Try.prog 21 #[.pointer (some ⟨p, 0, none⟩), v, opV o pv lv] w (DoPost X F w p r.l.length) := by
  obtain ⟨L, mv, rfl, hl, hm⟩ := hr
  obtain ⟨A, c, rfl, hc, hn, _⟩ := ob_at hl
  obtain ⟨B, d, rfl, hd, _⟩ := obs_shape hm
  obtain ⟨Ap, cp, rfl, _⟩ := ps_at hps
  obtain ⟨E, f, rfl, _⟩ := eim_at hes
  have hFl := hs.lt
  have hR : RfR (X ++ F) w (.agg #[.slice A r.l.length c, .int .i64 r.lv, .slice B r.mods.length d]) r := ⟨_, _, rfl, hl, hm⟩
  obtain ⟨W, hW⟩ : ∃ W, W = (((w.alloc (.cells #[.slice A r.l.length c, .int .i64 r.lv, .slice B r.mods.length d] 31)).alloc (.cells #[.int .i64 3, .int .i64 o.n, .string o.x.nm, .int .i64 o.x.kd, .int .i64 o.x.ty, .int .i64 o.x.lv, .int .i32 o.x.n, .int .i64 o.x.md, .bool o.x.out, .slice Ap o.x.ps.length cp, .slice E o.list.length f] 57)).alloc (.cells #[.slice none 0 0, .int .i64 0, .slice none 0 0] 31)).alloc (.cells #[.slice A r.l.length c, .int .i64 r.lv, .slice B r.mods.length d] 31) := ⟨_, rfl⟩
  obtain ⟨hBW, W1, W2, W3, W4, hWl⟩ := do_world w _ _ _ _ W hW
  have nF : ∀ g, w.heap.size ≤ g → g ∉ F := fun g hg hm => by have := hFl g hm; omega
  have h0 : 0 ≤ r.lv := by have := hrel.lv; have := hrel.pos; omega
  have h64 : r.lv ≤ 64 := by have := hrel.lv; have := hrel.le; omega
  have HW := Lib.hid hW
  have HW1 := Lib.hid W1
  have HW2 := Lib.hid W2
  have HW3 := Lib.hid W3
  have HW4 := Lib.hid W4
  have HR := Lib.hid hR
  have HS := Lib.hid (hs.below hBW)
  have HREL := Lib.hid hrel
  have HP := Lib.hid hps
  have HE := Lib.hid hes
  have HNF := Lib.hid nF
  obtain ⟨q, hq⟩ : ∃ q, q = changeR r o.n o.x := ⟨_, rfl⟩
  have hrel2 := hrel.change o.n o.x
  rw [← hq] at hrel2
  have HREL2 := Lib.hid hrel2
  have HQ := Lib.hid hq
  have hCP := f33_all o.n o.x (.slice Ap o.x.ps.length cp) HS.out ((hps.keep (Fr.of_below hBW)).weak fun b hb => List.mem_append_right _ hb)
  rw [hrel2.1] at hCP
  have HCP := Lib.hid hCP
  clear hs hl hm hps hes hrel hW W1 W2 W3 W4 hR hFl nF hrel2 hCP hq
  unfold opV
  rw [hk]
  go_enter Try.func21, Try.ntmps21
  go_wp2_with fail
  rw [← HW.out]
  refine HCP.out.mono ?_
  rintro e wa ⟨rfl, F', hf, hsa⟩
  have nF' : w.heap.size + 1 + 1 ∉ F' ∧ w.heap.size + 1 + 1 + 1 ∉ F' ∧ w.heap.size ∉ F' ∧ w.heap.size + 1 ∉ F' := (by refine ⟨fun hm => ?_, fun hm => ?_, fun hm => ?_, fun hm => ?_⟩ <;> (rcases hf.sub _ hm with h | h; exact HNF.out _ (by omega) h; omega))
  have HN := Lib.hid nF'
  have hwal := hf.size
  have k1 := (hf.block _ (by omega) (HNF.out _ (by omega))).trans HW1.out
  have k2 := (hf.block _ (by omega) (HNF.out _ (by omega))).trans HW2.out
  have k3 := (hf.block _ (by omega) (HNF.out _ (by omega))).trans HW3.out
  have k4 := (hf.block _ (by omega) (HNF.out _ (by omega))).trans HW4.out
  obtain ⟨⟨c0, c1, c2⟩, _⟩ := cells3 k1
  have K1 := Lib.hid k1
  have K2 := Lib.hid k2
  have K3 := Lib.hid k3
  have K4 := Lib.hid k4
  have HF := Lib.hid hf
  have HSA := Lib.hid hsa
  have la0 : w.heap.size < wa.heap.size := (by omega)
  have la1 : w.heap.size + 1 < wa.heap.size := (by omega)
  have la2 : w.heap.size + 1 + 1 < wa.heap.size := (by omega)
  have la3 : w.heap.size + 1 + 1 + 1 < wa.heap.size := (by omega)
  clear k1 k2 k3 k4 hf hsa nF' hwal
  have FRG : Fr ((w.heap.size + 1 + 1) :: (w.heap.size + 1 + 1 + 1) :: (X ++ F)) W ((w.heap.size + 1 + 1) :: (w.heap.size + 1 + 1 + 1) :: (X ++ F')) wa :=
    ⟨HF.out.os, HF.out.tape, HF.out.output, HF.out.size, fun b hb hbF => HF.out.block b hb (fun hm => hbF (by simp [hm])), fun b hb => by
      simp at hb
      rcases hb with h | h | h | h
      · exact .inl (by simp [h])
      · exact .inl (by simp [h])
      · exact .inl (by simp [h])
      · rcases HF.out.sub b h with h | h
        · exact .inl (by simp [h])
        · exact .inr h⟩
  have HRW := Lib.hid ((HR.out.keep (Fr.more hBW (F' := (w.heap.size + 1 + 1) :: (w.heap.size + 1 + 1 + 1) :: (X ++ F)) (fun b hb => by simp at hb; rcases hb with h | h | h; exact .inr (by omega); exact .inr (by omega); exact .inl (List.mem_append.2 h)))).keep (w' := wa) (F' := (w.heap.size + 1 + 1) :: (w.heap.size + 1 + 1 + 1) :: (X ++ F')) FRG)
  have HPW := Lib.hid ((HP.out.keep (Fr.more hBW (F' := (w.heap.size + 1 + 1) :: (w.heap.size + 1 + 1 + 1) :: (X ++ F)) (fun b hb => by simp at hb; rcases hb with h | h | h; exact .inr (by omega); exact .inr (by omega); exact .inl (List.mem_append.2 h)))).keep (w' := wa) (F' := (w.heap.size + 1 + 1) :: (w.heap.size + 1 + 1 + 1) :: (X ++ F')) FRG)
  have HFW : Hid (∀ b ∈ (w.heap.size + 1 + 1) :: (w.heap.size + 1 + 1 + 1) :: (X ++ F'), b < wa.heap.size) := Lib.hid (fun b hb => by
      simp at hb
      rcases hb with h | h | h | h
      · omega
      · omega
      · have := hX b h; omega
      · exact HSA.out.lt b h)
  have hCR : ∀ wc, Below wa.heap.size wa wc → Calls Try.prog 34 #[.agg #[.slice A r.l.length c, .int .i64 r.lv, .slice B r.mods.length d], .int .i64 o.n, obV o.x (.slice Ap o.x.ps.length cp)] wc fun e w' => ∃ v', e = .returned (.tuple #[v', .int .i64 q.1]) ∧ Below wc.heap.size wc w' ∧ RfR ((w.heap.size + 1 + 1) :: (w.heap.size + 1 + 1 + 1) :: (X ++ F')) w' v' q.2 := fun wc hbc => by
    have := f34_any (F := (w.heap.size + 1 + 1) :: (w.heap.size + 1 + 1 + 1) :: (X ++ F')) (w := wc) (pv := .slice Ap o.x.ps.length cp) o.n o.x (HRW.out.keep (Fr.of_below hbc)) (HPW.out.keep (Fr.of_below hbc)) (fun b hb => Nat.lt_of_lt_of_le (HFW.out b hb) hbc.size) hsm
    rwa [← HQ.out] at this
  have HC := Lib.hid hCR
  have hC32 := fun wc => f32_any (F := (w.heap.size + 1 + 1) :: (w.heap.size + 1 + 1 + 1) :: (X ++ F')) (w := wc) o.x (.slice Ap o.x.ps.length cp)
  have HC32 := Lib.hid hC32
  clear hCR hC32
  have mc := fun (o' : Nat) (u : Value) (hu : #[Value.int .i64 3, .int .i64 o.n, .string o.x.nm, .int .i64 o.x.kd, .int .i64 o.x.ty, .int .i64 o.x.lv, .int .i32 o.x.n, .int .i64 o.x.md, .bool o.x.out, .slice Ap o.x.ps.length cp, .slice E o.list.length f][o']? = some u) => (cell_of_row wa (w.heap.size + 1) o' _ 57 (0, 0) K2.out).trans hu
  have p0 : wa.cell? ⟨w.heap.size, 0, none⟩ = some (.slice A r.l.length c) := c0
  have p1 : wa.cell? ⟨w.heap.size, 1, none⟩ = some (.int .i64 r.lv) := c1
  have p2 : wa.cell? ⟨w.heap.size, 2, none⟩ = some (.slice B r.mods.length d) := c2
  have m1 : wa.cell? ⟨w.heap.size + 1, 1, none⟩ = some (.int .i64 o.n) := mc 1 _ rfl
  have m2 : wa.cell? ⟨w.heap.size + 1, 2, none⟩ = some (.string o.x.nm) := mc 2 _ rfl
  have m3 : wa.cell? ⟨w.heap.size + 1, 3, none⟩ = some (.int .i64 o.x.kd) := mc 3 _ rfl
  have m4 : wa.cell? ⟨w.heap.size + 1, 4, none⟩ = some (.int .i64 o.x.ty) := mc 4 _ rfl
  have m5 : wa.cell? ⟨w.heap.size + 1, 5, none⟩ = some (.int .i64 o.x.lv) := mc 5 _ rfl
  have m6 : wa.cell? ⟨w.heap.size + 1, 6, none⟩ = some (.int .i32 o.x.n) := mc 6 _ rfl
  have m7 : wa.cell? ⟨w.heap.size + 1, 7, none⟩ = some (.int .i64 o.x.md) := mc 7 _ rfl
  have m8 : wa.cell? ⟨w.heap.size + 1, 8, none⟩ = some (.bool o.x.out) := mc 8 _ rfl
  have m9 : wa.cell? ⟨w.heap.size + 1, 9, none⟩ = some (.slice Ap o.x.ps.length cp) := mc 9 _ rfl
  obtain ⟨⟨t0, t1, t2⟩, tf⟩ := cells3 K4.out
  have tf0 := tf 0
  have tf1 := tf 1
  have tf2 := tf 2
  clear mc tf c0 c1 c2
  go_wp2_with fail
  go_region_held3 (fun w' => w'.cell? ⟨w.heap.size, 0, none⟩ = some (.slice A r.l.length c) ∧ w'.cell? ⟨w.heap.size, 1, none⟩ = some (.int .i64 r.lv) ∧ w'.cell? ⟨w.heap.size, 2, none⟩ = some (.slice B r.mods.length d) ∧ w'.cell? ⟨w.heap.size + 1, 1, none⟩ = some (.int .i64 o.n) ∧ w'.cell? ⟨w.heap.size + 1, 2, none⟩ = some (.string o.x.nm) ∧ w'.cell? ⟨w.heap.size + 1, 3, none⟩ = some (.int .i64 o.x.kd) ∧ w'.cell? ⟨w.heap.size + 1, 4, none⟩ = some (.int .i64 o.x.ty) ∧ w'.cell? ⟨w.heap.size + 1, 5, none⟩ = some (.int .i64 o.x.lv) ∧ w'.cell? ⟨w.heap.size + 1, 6, none⟩ = some (.int .i32 o.x.n) ∧ w'.cell? ⟨w.heap.size + 1, 7, none⟩ = some (.int .i64 o.x.md) ∧ w'.cell? ⟨w.heap.size + 1, 8, none⟩ = some (.bool o.x.out) ∧ w'.cell? ⟨w.heap.size + 1, 9, none⟩ = some (.slice Ap o.x.ps.length cp)) (first | go_keep | (refine ⟨?_, ?_, ?_, ?_, ?_, ?_, ?_, ?_, ?_, ?_, ?_, ?_⟩ <;> (rw [cell_3 (by omega)]; assumption))) (first | (go_at_call 32; refine (HC32.out _ (HPW.out.keep (Fr.refl _ wa).drew)).mono ?_; rintro e w1 ⟨rfl, hb1⟩; have hB1 : Below wa.heap.size wa w1 := below_of_drew hb1; have ap0 := (hB1.cell (p := ⟨w.heap.size, 0, none⟩) (la0)).trans p0; have ap1 := (hB1.cell (p := ⟨w.heap.size, 1, none⟩) (la0)).trans p1; have ap2 := (hB1.cell (p := ⟨w.heap.size, 2, none⟩) (la0)).trans p2; have am1 := (hB1.cell (p := ⟨w.heap.size + 1, 1, none⟩) (la1)).trans m1; have am2 := (hB1.cell (p := ⟨w.heap.size + 1, 2, none⟩) (la1)).trans m2; have am3 := (hB1.cell (p := ⟨w.heap.size + 1, 3, none⟩) (la1)).trans m3; have am4 := (hB1.cell (p := ⟨w.heap.size + 1, 4, none⟩) (la1)).trans m4; have am5 := (hB1.cell (p := ⟨w.heap.size + 1, 5, none⟩) (la1)).trans m5; have am6 := (hB1.cell (p := ⟨w.heap.size + 1, 6, none⟩) (la1)).trans m6; have am7 := (hB1.cell (p := ⟨w.heap.size + 1, 7, none⟩) (la1)).trans m7; have am8 := (hB1.cell (p := ⟨w.heap.size + 1, 8, none⟩) (la1)).trans m8; have am9 := (hB1.cell (p := ⟨w.heap.size + 1, 9, none⟩) (la1)).trans m9; have HB1 := Lib.hid hB1; have lb0 : w.heap.size < w1.heap.size := Nat.lt_of_lt_of_le la0 hB1.size; have lb1 : w.heap.size + 1 < w1.heap.size := Nat.lt_of_lt_of_le la1 hB1.size; clear hb1 hB1) | (go_at_call 34; refine (HC.out _ HB1.out).mono ?_; rintro e wb ⟨v', rfl, hb, hr⟩; have hbb : Below w1.heap.size w1 wb := hb; have bp0 := (hbb.cell (p := ⟨w.heap.size, 0, none⟩) (lb0)).trans ap0; have bp1 := (hbb.cell (p := ⟨w.heap.size, 1, none⟩) (lb0)).trans ap1; have bp2 := (hbb.cell (p := ⟨w.heap.size, 2, none⟩) (lb0)).trans ap2; have bm1 := (hbb.cell (p := ⟨w.heap.size + 1, 1, none⟩) (lb1)).trans am1; have bm2 := (hbb.cell (p := ⟨w.heap.size + 1, 2, none⟩) (lb1)).trans am2; have bm3 := (hbb.cell (p := ⟨w.heap.size + 1, 3, none⟩) (lb1)).trans am3; have bm4 := (hbb.cell (p := ⟨w.heap.size + 1, 4, none⟩) (lb1)).trans am4; have bm5 := (hbb.cell (p := ⟨w.heap.size + 1, 5, none⟩) (lb1)).trans am5; have bm6 := (hbb.cell (p := ⟨w.heap.size + 1, 6, none⟩) (lb1)).trans am6; have bm7 := (hbb.cell (p := ⟨w.heap.size + 1, 7, none⟩) (lb1)).trans am7; have bm8 := (hbb.cell (p := ⟨w.heap.size + 1, 8, none⟩) (lb1)).trans am8; have bm9 := (hbb.cell (p := ⟨w.heap.size + 1, 9, none⟩) (lb1)).trans am9; have HRB := Lib.hid hr; obtain ⟨_, _, rfl, hlb, hmb⟩ := hr; obtain ⟨A', c', rfl, _⟩ := ob_at hlb; obtain ⟨B', d', rfl, _⟩ := obs_shape hmb; have HB := Lib.hid (HB1.out.trans (hbb.mono HB1.out.size)); have b3 := (HB.out.block _ la2).trans K3.out; have b4 := (HB.out.block _ la3).trans K4.out; obtain ⟨⟨y0, y1, y2⟩, yf⟩ := cells3 b4; obtain ⟨⟨z0, z1, z2⟩, zf⟩ := cells3 b3; have yf0 := yf 0; have yf1 := yf 1; have yf2 := yf 2; have zf0 := zf 0; have zf1 := zf 1; have zf2 := zf 2; have BK3 := Lib.hid b3; have BK4 := Lib.hid b4; clear b3 b4 yf zf hb hbb hlb hmb))
  go_wp2_with fail
  obtain ⟨w6, hw6⟩ : ∃ w6, w6 = ((wb.setCell ⟨w.heap.size + 1 + 1 + 1, 0, none⟩ (.slice A' q.2.l.length c')).setCell ⟨w.heap.size + 1 + 1 + 1, 1, none⟩ (.int .i64 q.2.lv)).setCell ⟨w.heap.size + 1 + 1 + 1, 2, none⟩ (.slice B' q.2.mods.length d') := ⟨_, rfl⟩
  rw [← hw6]
  obtain ⟨w7, hw7⟩ : ∃ w7, w7 = ((w6.setCell ⟨w.heap.size + 1 + 1, 0, none⟩ (.slice A' q.2.l.length c')).setCell ⟨w.heap.size + 1 + 1, 1, none⟩ (.int .i64 q.2.lv)).setCell ⟨w.heap.size + 1 + 1, 2, none⟩ (.slice B' q.2.mods.length d') := ⟨_, rfl⟩
  rw [← hw7]
  obtain ⟨hx6, s6⟩ := block3 (BK4.out) _ _ _ hw6
  obtain ⟨hx7, s7⟩ := block3 ((s6.block _ (by omega)).trans BK3.out) _ _ _ hw7
  clear hw6 hw7
  refine bodyPost_ret (results_ref _ 6 7 Try.results21 _ _ _ _ _ _ _ rfl rfl hx7) rfl ?_
  have hlen : q.2.l.length ≤ r.l.length + 1 := by rw [HQ.out]; exact changeR_len r o.n o.x
  exact do_tail hBW HF.out HSA.out HB.out HRB.out s6 s7 (noBool3 BK4.out) (noBool3 ((s6.block _ (by omega)).trans BK3.out)) (by omega) (by omega) HN.out.1 HN.out.2.1 HREL2.out.2 hlen
end Go.Proofs.Ytengenceelmijaa
