import Derived.Test.YtengenceelmijaaPure
import Derived.Test.YtengenceelmijaaLawA
namespace Go.Proofs.Ytengenceelmijaa
open Go.RowKit
set_option linter.unusedVariables false

/-- No cell of the block is a truth value: no parameters lie there. -/
def NoBool (w : World) (g : Nat) : Prop := ∀ (o : Nat) (u : Bool), w.cell? ⟨g, o, none⟩ ≠ some (.bool u)
theorem PsR.box {F : List Nat} {w w' : World} {g : Nat} {pv : Value} {ps : List (Int × Bool)} (h : PsR F w pv ps) (hg : NoBool w g) (hs : SameBut g w w') : PsR F w' pv ps := by
  obtain ⟨hl, A, c, rfl, hc, hx⟩ := h
  refine ⟨hl, A, c, rfl, hc, fun hne => ?_⟩
  obtain ⟨b, o, rfl, hb, hx⟩ := hx hne
  have hbg : b ≠ g := by
    rintro rfl
    obtain ⟨x, xs, rfl⟩ := List.exists_cons_of_ne_nil hne
    exact hg _ _ (hx 0 x rfl).2
  refine ⟨b, o, rfl, ⟨by rw [hs.size]; exact hb.1, hb.2⟩, fun i x hi => ?_⟩
  obtain ⟨h1, h2⟩ := hx i x hi
  exact ⟨(World.cell?_of_block (a := ⟨b, _, none⟩) (hs.block b hbg)).trans h1, (World.cell?_of_block (a := ⟨b, _, none⟩) (hs.block b hbg)).trans h2⟩
theorem OwnObs.box {F : List Nat} {w w' : World} {g : Nat} {v : Value} {xs : List Ob} (h : OwnObs F w v xs) (hg : NoBool w g) (hs : SameBut g w w') (hv : v.ownBlock ≠ some g) : OwnObs F w' v xs := by
  obtain ⟨h0, cs, hr, hc⟩ := h
  refine ⟨h0, cs, ownsRow_same hr fun b hb => hs.block b (by rintro rfl; exact hv hb), fun i x hi => ?_⟩
  obtain ⟨h0, h1, h2, h3, h4, h5, h6, pv, h7, hp⟩ := hc i x hi
  exact ⟨h0, h1, h2, h3, h4, h5, h6, pv, h7, hp.box hg hs⟩
theorem Sc.box {F : List Nat} {w w' : World} {p g : Nat} {a : Abs} (h : Sc F w p a) (hg : NoBool w g) (hs : SameBut g w w') (hF : g ∉ F) : Sc F w' p a := by
  obtain ⟨ov, mv, vs, ms, h⟩ := h
  have hft := h.ft
  have hin : ∀ v, v ∈ ov :: mv :: (vs ++ ms) → v.ownBlock ≠ some g := fun v hv e => hF (by rw [hft]; exact List.mem_cons_of_mem _ (List.mem_filterMap.2 ⟨v, hv, e⟩))
  have hp : p ≠ g := by rintro rfl; exact hF (by rw [hft]; exact List.mem_cons_self)
  refine ⟨ov, mv, vs, ms, (hs.block p hp).trans h.blk, ownsRow_same h.ow fun b hb => hs.block b (by rintro rfl; exact hin ov (by simp) hb), ownsRow_same h.mw fun b hb => hs.block b (by rintro rfl; exact hin mv (by simp) hb),
    ⟨h.os.1, fun i v xs hi hx => (h.os.2 i v xs hi hx).box hg hs (hin v (by have := List.mem_of_getElem? hi; simp [this]))⟩, ⟨h.ms_.1, fun i v xs hi hx => (h.ms_.2 i v xs hi hx).box hg hs (hin v (by have := List.mem_of_getElem? hi; simp [this]))⟩, h.ft, h.nd, h.small⟩
theorem noBool3 {w : World} {g : Nat} {t : TypeId} {A B : Option Addr} {n c m d : Nat} {i : Int} (h : w.heap[g]? = some (.cells #[.slice A n c, .int .i64 i, .slice B m d] t (0, 0))) : NoBool w g := by
  intro o u he
  rw [cell_of_row w g o _ t (0, 0) h] at he
  match o, he with
  | 0, he => simp at he
  | 1, he => simp at he
  | 2, he => simp at he
  | n + 3, he => simp at he
theorem Sc.lt {F : List Nat} {w : World} {p : Nat} {a : Abs} (h : Sc F w p a) : ∀ b ∈ F, b < w.heap.size := by
  obtain ⟨_, _, _, _, h⟩ := h; exact h.lt
theorem f10_do {F : List Nat} {w : World} {p : Nat} {a : Abs} (h : Sc F w p a) : Calls Try.prog 10 #[.pointer (some ⟨p, 0, none⟩)] w fun e w' => e = .returned (.int .i64 (openA a).1) ∧ ∃ F', Fr F w F' w' ∧ Sc F' w' p (openA a).2 := by
  refine (f10_any h).mono ?_
  rintro e w' (⟨h1, rfl, rfl⟩ | ⟨h1, rfl, F', h2, h3⟩)
  · rw [openA, if_pos h1]; exact ⟨rfl, F, Fr.refl _ _, h⟩
  · rw [openA, if_neg (by omega)]; exact ⟨rfl, F', h2, h3⟩
theorem f12_do {F : List Nat} {w : World} {p : Nat} {a : Abs} (h : Sc F w p a) : Calls Try.prog 12 #[.pointer (some ⟨p, 0, none⟩)] w fun e w' => e = .returned (.int .i64 (closeA a).1) ∧ ∃ F', Fr F w F' w' ∧ Sc F' w' p (closeA a).2 := by
  refine (f12_any h).mono ?_
  rintro e w' (⟨h1, rfl, rfl⟩ | ⟨h1, rfl, F', h2, h3⟩)
  · rw [closeA, if_pos h1]; exact ⟨rfl, F, Fr.refl _ _, h⟩
  · rw [closeA, if_neg (by omega)]; exact ⟨rfl, F', h2, h3⟩
theorem f33_all {F : List Nat} {w : World} {p : Nat} {a : Abs} (lev : Int) (x : Ob) (pv : Value) (h : Sc F w p a) (hps : PsR F w pv x.ps) :
    Calls Try.prog 33 #[.pointer (some ⟨p, 0, none⟩), .int .i64 lev, obV x pv] w fun e w' => e = .returned (.int .i64 (change a lev x).1) ∧ ∃ F', Fr F w F' w' ∧ Sc F' w' p (change a lev x).2 := by
  by_cases hb : lev < 0 ∨ (a.opn.length : Int) ≤ lev
  · refine (f33_out lev x pv h hb).mono ?_
    rintro e w' ⟨rfl, hB⟩
    rw [change, if_pos hb]
    exact ⟨rfl, F, Fr.of_below hB, h.below hB⟩
  · obtain ⟨k, rfl⟩ : ∃ k : Nat, lev = k := ⟨lev.toNat, by omega⟩
    exact f33_any k x pv h hps (by omega)

def opV (o : OpD) (pv lv : Value) : Value := .agg #[.int .i64 o.kind, .int .i64 o.n, .string o.x.nm, .int .i64 o.x.kd, .int .i64 o.x.ty, .int .i64 o.x.lv, .int .i32 o.x.n, .int .i64 o.x.md, .bool o.x.out, pv, lv]
def DoPost (X F : List Nat) (w : World) (p n : Nat) (e : Ending) (w' : World) : Prop := ∃ v' F' a' r', e = .returned (.tuple #[v', .bool true]) ∧ Fr F w F' w' ∧ Sc F' w' p a' ∧ RfR (X ++ F') w' v' r' ∧ Rel a' r' ∧ r'.l.length ≤ n + 1

theorem do_world (w : World) (o1 o2 o3 o4 : Obj) : ∀ W, W = (((w.alloc o1).alloc o2).alloc o3).alloc o4 → Below w.heap.size w W ∧ W.heap[w.heap.size]? = some o1 ∧ W.heap[w.heap.size + 1]? = some o2 ∧ W.heap[w.heap.size + 1 + 1]? = some o3 ∧ W.heap[w.heap.size + 1 + 1 + 1]? = some o4 ∧ w.heap.size + 1 + 1 + 1 < W.heap.size := by
  rintro W rfl
  have e : ((((w.alloc o1).alloc o2).alloc o3).alloc o4).heap.size = w.heap.size + 1 + 1 + 1 + 1 := by simp
  refine ⟨((((Below.refl w.heap.size w).alloc (Nat.le_refl _) o1).alloc (by simp) o2).alloc (by rw [World.size_alloc, World.size_alloc]; omega) o3).alloc (by rw [World.size_alloc, World.size_alloc, World.size_alloc]; omega) o4, ?_, ?_, ?_, ?_, by rw [e]; omega⟩
  · rw [Below.heap_alloc _ _ _ (by rw [World.size_alloc, World.size_alloc, World.size_alloc]; omega), Below.heap_alloc _ _ _ (by rw [World.size_alloc, World.size_alloc]; omega)]; exact heap_alloc2_old w _ _
  · rw [Below.heap_alloc _ _ _ (by rw [World.size_alloc, World.size_alloc, World.size_alloc]; omega), Below.heap_alloc _ _ _ (by rw [World.size_alloc, World.size_alloc]; omega)]; exact heap_alloc2_new w _ _
  · rw [Below.heap_alloc _ _ _ (by rw [World.size_alloc, World.size_alloc, World.size_alloc]; omega)]; exact heap_alloc3_new w _ _ _
  · have := heap_alloc_new (((w.alloc o1).alloc o2).alloc o3) o4
    simpa using this

theorem do_tail {X F F' : List Nat} {w W wa wb w6 w7 : World} {p g2 g3 n : Nat} {a' : Abs} {r' : Rf} {v' : Value} (hBW : Below w.heap.size w W) (hf : Fr F W F' wa) (hs : Sc F' wa p a') (hb : Below wa.heap.size wa wb)
    (hr : RfR (g2 :: g3 :: (X ++ F')) wb v' r') (s6 : SameBut g3 wb w6) (s7 : SameBut g2 w6 w7) (h3 : NoBool wb g3) (h2 : NoBool w6 g2) (l2 : w.heap.size ≤ g2) (l3 : w.heap.size ≤ g3) (n2 : g2 ∉ F') (n3 : g3 ∉ F') (hrel : Rel a' r') (hl : r'.l.length ≤ n + 1) :
    DoPost X F w p n (.returned (.tuple #[v', .bool true])) w7 := by
  have hsW := hBW.size
  have hsa := hf.size
  have hsb := hb.size
  have hf7 : Fr (g2 :: g3 :: (X ++ F')) wb (g2 :: g3 :: (X ++ F')) w7 := (s6.fr (by simp)).trans (s7.fr (by simp))
  refine ⟨v', F', a', r', rfl, ?_, ((hs.below hb).box h3 s6 n3).box h2 s7 n2, (by
    obtain ⟨x, y, rfl, h1, h2⟩ := hr
    exact ⟨x, y, rfl, (h1.keep hf7).weak fun b hb => List.mem_cons_of_mem _ (List.mem_cons_of_mem _ hb), (h2.keep hf7).weak fun b hb => List.mem_cons_of_mem _ (List.mem_cons_of_mem _ hb)⟩), hrel, hl⟩
  refine ⟨(s7.os.trans s6.os).trans (hb.os.trans (hf.os.trans hBW.os)), (s7.tape.trans s6.tape).trans (hb.tape.trans (hf.tape.trans hBW.tape)), (s7.output.trans s6.output).trans (hb.output.trans (hf.output.trans hBW.output)), by rw [s7.size, s6.size]; omega, fun b hb' hbF => ?_, fun b hb' => ?_⟩
  · rw [s7.block b (by omega), s6.block b (by omega), hb.block b (by omega), hf.block b (by omega) hbF, hBW.block b hb']
  · rcases hf.sub b hb' with h | h
    · exact .inl h
    · exact .inr (by omega)

theorem openR_len (r : Rf) : (openR r).2.l.length ≤ r.l.length + 1 := by unfold openR; split <;> simp
theorem closeR_len (r : Rf) : (closeR r).2.l.length ≤ r.l.length + 1 := by
  unfold closeR; split
  · simp
  · exact Nat.le_succ_of_le (List.length_filter_le _ _)
theorem declareR_len (r : Rf) (x : Ob) : (declareR r x).2.l.length ≤ r.l.length + 1 := by
  unfold declareR; split
  · simp
  · split <;> simp
theorem changeR_len (r : Rf) (lv : Int) (x : Ob) : (changeR r lv x).2.l.length ≤ r.l.length + 1 := by
  unfold changeR; split <;> simp
theorem importR_len (r : Rf) (s : ByteArray) (es : List Ex) : (importR r s es).2.2.l.length ≤ r.l.length + 1 := by
  unfold importR; split
  · simp
  · have := declareR_len r (modOb s ((r.mods.length : Int) + 1))
    simp only
    split
    · simp
    · exact this
set_option maxHeartbeats 4000000 in
set_option maxRecDepth 100000 in
theorem f21_open {F X : List Nat} {w : World} {p : Nat} {a : Abs} {r : Rf} {v pv lv : Value} (o : OpD) (hs : Sc F w p a) (hr : RfR (X ++ F) w v r) (hX : ∀ b ∈ X, b < w.heap.size) (hrel : Rel a r) (hsm : r.l.length ≤ 1000) (hps : PsR (X ++ F) w pv o.x.ps) (hes : ExR (X ++ F) w lv o.list) (hk : o.kind = 0) :
    Calls Try.prog 21 #[.pointer (some ⟨p, 0, none⟩), v, opV o pv lv] w (DoPost X F w p r.l.length) := by
  obtain ⟨L, mv, rfl, hl, hm⟩ := hr
  obtain ⟨A, c, rfl, hc, hn, _⟩ := ob_at hl
  obtain ⟨B, d, rfl, hd, _⟩ := obs_shape hm
  obtain ⟨Ap, cp, rfl, _⟩ := ps_at hps
  obtain ⟨E, f, rfl, _⟩ := eim_at hes
  have hFl := hs.lt
  have hR : RfR (X ++ F) w (.agg #[.slice A r.l.length c, .int .i64 r.lv, .slice B r.mods.length d]) r := ⟨_, _, rfl, hl, hm⟩
  obtain ⟨W, hW⟩ : ∃ W, W = (((w.alloc (.cells #[.slice A r.l.length c, .int .i64 r.lv, .slice B r.mods.length d] 31)).alloc (.cells #[.int .i64 0, .int .i64 o.n, .string o.x.nm, .int .i64 o.x.kd, .int .i64 o.x.ty, .int .i64 o.x.lv, .int .i32 o.x.n, .int .i64 o.x.md, .bool o.x.out, .slice Ap o.x.ps.length cp, .slice E o.list.length f] 57)).alloc (.cells #[.slice none 0 0, .int .i64 0, .slice none 0 0] 31)).alloc (.cells #[.slice A r.l.length c, .int .i64 r.lv, .slice B r.mods.length d] 31) := ⟨_, rfl⟩
  obtain ⟨hBW, W1, W2, W3, W4, hWl⟩ := do_world w _ _ _ _ W hW
  have nF : ∀ g, w.heap.size ≤ g → g ∉ F := fun g hg hm => by have := hFl g hm; omega
  have h0 : 0 ≤ r.lv := by have := hrel.lv; have := hrel.pos; omega
  have h64 : r.lv ≤ 64 := by have := hrel.lv; have := hrel.le; omega
  have HW := Lib.hid hW
  have HW1 := Lib.hid W1
  have HW2 := Lib.hid W2
  have HW3 := Lib.hid W3
  have HW4 := Lib.hid W4
  have HR := Lib.hid hR
  have HS := Lib.hid (hs.below hBW)
  have HREL := Lib.hid hrel
  have HP := Lib.hid hps
  have HE := Lib.hid hes
  have HNF := Lib.hid nF
  obtain ⟨q, hq⟩ : ∃ q, q = openR r := ⟨_, rfl⟩
  have hrel2 := hrel.open_
  rw [← hq] at hrel2
  have HREL2 := Lib.hid hrel2
  have HQ := Lib.hid hq
  have hCP := f10_do HS.out
  rw [hrel2.1] at hCP
  have HCP := Lib.hid hCP
  clear hs hl hm hps hes hrel hW W1 W2 W3 W4 hR hFl nF hrel2 hCP hq
  unfold opV
  rw [hk]
  go_enter Try.func21, Try.ntmps21
  go_wp2_with fail
  rw [← HW.out]
  refine HCP.out.mono ?_
  rintro e wa ⟨rfl, F', hf, hsa⟩
  have nF' : w.heap.size + 1 + 1 ∉ F' ∧ w.heap.size + 1 + 1 + 1 ∉ F' ∧ w.heap.size ∉ F' ∧ w.heap.size + 1 ∉ F' := (by refine ⟨fun hm => ?_, fun hm => ?_, fun hm => ?_, fun hm => ?_⟩ <;> (rcases hf.sub _ hm with h | h; exact HNF.out _ (by omega) h; omega))
  have HN := Lib.hid nF'
  have hwal := hf.size
  have k1 := (hf.block _ (by omega) (HNF.out _ (by omega))).trans HW1.out
  have k2 := (hf.block _ (by omega) (HNF.out _ (by omega))).trans HW2.out
  have k3 := (hf.block _ (by omega) (HNF.out _ (by omega))).trans HW3.out
  have k4 := (hf.block _ (by omega) (HNF.out _ (by omega))).trans HW4.out
  obtain ⟨⟨c0, c1, c2⟩, _⟩ := cells3 k1
  have K1 := Lib.hid k1
  have K2 := Lib.hid k2
  have K3 := Lib.hid k3
  have K4 := Lib.hid k4
  have HF := Lib.hid hf
  have HSA := Lib.hid hsa
  have la0 : w.heap.size < wa.heap.size := (by omega)
  have la1 : w.heap.size + 1 < wa.heap.size := (by omega)
  have la2 : w.heap.size + 1 + 1 < wa.heap.size := (by omega)
  have la3 : w.heap.size + 1 + 1 + 1 < wa.heap.size := (by omega)
  clear k1 k2 k3 k4 hf hsa nF' hwal
  have FRG : Fr ((w.heap.size + 1 + 1) :: (w.heap.size + 1 + 1 + 1) :: (X ++ F)) W ((w.heap.size + 1 + 1) :: (w.heap.size + 1 + 1 + 1) :: (X ++ F')) wa :=
    ⟨HF.out.os, HF.out.tape, HF.out.output, HF.out.size, fun b hb hbF => HF.out.block b hb (fun hm => hbF (by simp [hm])), fun b hb => by
      simp at hb
      rcases hb with h | h | h | h
      · exact .inl (by simp [h])
      · exact .inl (by simp [h])
      · exact .inl (by simp [h])
      · rcases HF.out.sub b h with h | h
        · exact .inl (by simp [h])
        · exact .inr h⟩
  have hCR := f29_any (F := (w.heap.size + 1 + 1) :: (w.heap.size + 1 + 1 + 1) :: (X ++ F')) (w := wa) ((HR.out.keep (Fr.more hBW (F' := (w.heap.size + 1 + 1) :: (w.heap.size + 1 + 1 + 1) :: (X ++ F)) (fun b hb => by simp at hb; rcases hb with h | h | h; exact .inr (by omega); exact .inr (by omega); exact .inl (List.mem_append.2 h)))).keep (w' := wa) (F' := (w.heap.size + 1 + 1) :: (w.heap.size + 1 + 1 + 1) :: (X ++ F')) FRG) h0 h64
  rw [← HQ.out] at hCR
  have HC := Lib.hid hCR
  clear hCR
  go_wp2_with fail
  refine HC.out.mono ?_
  rintro e wb ⟨v', rfl, hb, hr⟩
  have HRB := Lib.hid hr
  obtain ⟨_, _, rfl, hlb, hmb⟩ := hr
  obtain ⟨A', c', rfl, _⟩ := ob_at hlb
  obtain ⟨B', d', rfl, _⟩ := obs_shape hmb
  have b3 := (hb.block _ la2).trans K3.out
  have b4 := (hb.block _ la3).trans K4.out
  obtain ⟨⟨y0, y1, y2⟩, yf⟩ := cells3 b4
  obtain ⟨⟨z0, z1, z2⟩, zf⟩ := cells3 b3
  have yf0 := yf 0
  have yf1 := yf 1
  have yf2 := yf 2
  have zf0 := zf 0
  have zf1 := zf 1
  have zf2 := zf 2
  have BK3 := Lib.hid b3
  have BK4 := Lib.hid b4
  have HB := Lib.hid hb
  clear b3 b4 yf zf hb hlb hmb
  go_wp2_with fail
  obtain ⟨w6, hw6⟩ : ∃ w6, w6 = ((wb.setCell ⟨w.heap.size + 1 + 1 + 1, 0, none⟩ (.slice A' q.2.l.length c')).setCell ⟨w.heap.size + 1 + 1 + 1, 1, none⟩ (.int .i64 q.2.lv)).setCell ⟨w.heap.size + 1 + 1 + 1, 2, none⟩ (.slice B' q.2.mods.length d') := ⟨_, rfl⟩
  rw [← hw6]
  obtain ⟨w7, hw7⟩ : ∃ w7, w7 = ((w6.setCell ⟨w.heap.size + 1 + 1, 0, none⟩ (.slice A' q.2.l.length c')).setCell ⟨w.heap.size + 1 + 1, 1, none⟩ (.int .i64 q.2.lv)).setCell ⟨w.heap.size + 1 + 1, 2, none⟩ (.slice B' q.2.mods.length d') := ⟨_, rfl⟩
  rw [← hw7]
  obtain ⟨hx6, s6⟩ := block3 (BK4.out) _ _ _ hw6
  obtain ⟨hx7, s7⟩ := block3 ((s6.block _ (by omega)).trans BK3.out) _ _ _ hw7
  clear hw6 hw7
  refine bodyPost_ret (results_ref _ 6 7 Try.results21 _ _ _ _ _ _ _ rfl rfl hx7) rfl ?_
  have hlen : q.2.l.length ≤ r.l.length + 1 := by rw [HQ.out]; exact openR_len r
  exact do_tail hBW HF.out HSA.out HB.out HRB.out s6 s7 (noBool3 BK4.out) (noBool3 ((s6.block _ (by omega)).trans BK3.out)) (by omega) (by omega) HN.out.1 HN.out.2.1 HREL2.out.2 hlen
set_option maxHeartbeats 4000000 in
set_option maxRecDepth 100000 in
theorem f21_close {F X : List Nat} {w : World} {p : Nat} {a : Abs} {r : Rf} {v pv lv : Value} (o : OpD) (hs : Sc F w p a) (hr : RfR (X ++ F) w v r) (hX : ∀ b ∈ X, b < w.heap.size) (hrel : Rel a r) (hsm : r.l.length ≤ 1000) (hps : PsR (X ++ F) w pv o.x.ps) (hes : ExR (X ++ F) w lv o.list) (hk : o.kind = 1) :
    Calls Try.prog 21 #[.pointer (some ⟨p, 0, none⟩), v, opV o pv lv] w (DoPost X F w p r.l.length) := by
  obtain ⟨L, mv, rfl, hl, hm⟩ := hr
  obtain ⟨A, c, rfl, hc, hn, _⟩ := ob_at hl
  obtain ⟨B, d, rfl, hd, _⟩ := obs_shape hm
  obtain ⟨Ap, cp, rfl, _⟩ := ps_at hps
  obtain ⟨E, f, rfl, _⟩ := eim_at hes
  have hFl := hs.lt
  have hR : RfR (X ++ F) w (.agg #[.slice A r.l.length c, .int .i64 r.lv, .slice B r.mods.length d]) r := ⟨_, _, rfl, hl, hm⟩
  obtain ⟨W, hW⟩ : ∃ W, W = (((w.alloc (.cells #[.slice A r.l.length c, .int .i64 r.lv, .slice B r.mods.length d] 31)).alloc (.cells #[.int .i64 1, .int .i64 o.n, .string o.x.nm, .int .i64 o.x.kd, .int .i64 o.x.ty, .int .i64 o.x.lv, .int .i32 o.x.n, .int .i64 o.x.md, .bool o.x.out, .slice Ap o.x.ps.length cp, .slice E o.list.length f] 57)).alloc (.cells #[.slice none 0 0, .int .i64 0, .slice none 0 0] 31)).alloc (.cells #[.slice A r.l.length c, .int .i64 r.lv, .slice B r.mods.length d] 31) := ⟨_, rfl⟩
  obtain ⟨hBW, W1, W2, W3, W4, hWl⟩ := do_world w _ _ _ _ W hW
  have nF : ∀ g, w.heap.size ≤ g → g ∉ F := fun g hg hm => by have := hFl g hm; omega
  have h0 : 0 ≤ r.lv := by have := hrel.lv; have := hrel.pos; omega
  have h64 : r.lv ≤ 64 := by have := hrel.lv; have := hrel.le; omega
  have HW := Lib.hid hW
  have HW1 := Lib.hid W1
  have HW2 := Lib.hid W2
  have HW3 := Lib.hid W3
  have HW4 := Lib.hid W4
  have HR := Lib.hid hR
  have HS := Lib.hid (hs.below hBW)
  have HREL := Lib.hid hrel
  have HP := Lib.hid hps
  have HE := Lib.hid hes
  have HNF := Lib.hid nF
  obtain ⟨q, hq⟩ : ∃ q, q = closeR r := ⟨_, rfl⟩
  have hrel2 := hrel.close
  rw [← hq] at hrel2
  have HREL2 := Lib.hid hrel2
  have HQ := Lib.hid hq
  have hCP := f12_do HS.out
  rw [hrel2.1] at hCP
  have HCP := Lib.hid hCP
  clear hs hl hm hps hes hrel hW W1 W2 W3 W4 hR hFl nF hrel2 hCP hq
  unfold opV
  rw [hk]
  go_enter Try.func21, Try.ntmps21
  go_wp2_with fail
  rw [← HW.out]
  refine HCP.out.mono ?_
  rintro e wa ⟨rfl, F', hf, hsa⟩
  have nF' : w.heap.size + 1 + 1 ∉ F' ∧ w.heap.size + 1 + 1 + 1 ∉ F' ∧ w.heap.size ∉ F' ∧ w.heap.size + 1 ∉ F' := (by refine ⟨fun hm => ?_, fun hm => ?_, fun hm => ?_, fun hm => ?_⟩ <;> (rcases hf.sub _ hm with h | h; exact HNF.out _ (by omega) h; omega))
  have HN := Lib.hid nF'
  have hwal := hf.size
  have k1 := (hf.block _ (by omega) (HNF.out _ (by omega))).trans HW1.out
  have k2 := (hf.block _ (by omega) (HNF.out _ (by omega))).trans HW2.out
  have k3 := (hf.block _ (by omega) (HNF.out _ (by omega))).trans HW3.out
  have k4 := (hf.block _ (by omega) (HNF.out _ (by omega))).trans HW4.out
  obtain ⟨⟨c0, c1, c2⟩, _⟩ := cells3 k1
  have K1 := Lib.hid k1
  have K2 := Lib.hid k2
  have K3 := Lib.hid k3
  have K4 := Lib.hid k4
  have HF := Lib.hid hf
  have HSA := Lib.hid hsa
  have la0 : w.heap.size < wa.heap.size := (by omega)
  have la1 : w.heap.size + 1 < wa.heap.size := (by omega)
  have la2 : w.heap.size + 1 + 1 < wa.heap.size := (by omega)
  have la3 : w.heap.size + 1 + 1 + 1 < wa.heap.size := (by omega)
  clear k1 k2 k3 k4 hf hsa nF' hwal
  have FRG : Fr ((w.heap.size + 1 + 1) :: (w.heap.size + 1 + 1 + 1) :: (X ++ F)) W ((w.heap.size + 1 + 1) :: (w.heap.size + 1 + 1 + 1) :: (X ++ F')) wa :=
    ⟨HF.out.os, HF.out.tape, HF.out.output, HF.out.size, fun b hb hbF => HF.out.block b hb (fun hm => hbF (by simp [hm])), fun b hb => by
      simp at hb
      rcases hb with h | h | h | h
      · exact .inl (by simp [h])
      · exact .inl (by simp [h])
      · exact .inl (by simp [h])
      · rcases HF.out.sub b h with h | h
        · exact .inl (by simp [h])
        · exact .inr h⟩
  have hCR := f30_any (F := (w.heap.size + 1 + 1) :: (w.heap.size + 1 + 1 + 1) :: (X ++ F')) (w := wa) ((HR.out.keep (Fr.more hBW (F' := (w.heap.size + 1 + 1) :: (w.heap.size + 1 + 1 + 1) :: (X ++ F)) (fun b hb => by simp at hb; rcases hb with h | h | h; exact .inr (by omega); exact .inr (by omega); exact .inl (List.mem_append.2 h)))).keep (w' := wa) (F' := (w.heap.size + 1 + 1) :: (w.heap.size + 1 + 1 + 1) :: (X ++ F')) FRG) h0 h64 (fun b hb => by
      simp at hb
      rcases hb with h | h | h | h
      · omega
      · omega
      · have := hX b h; omega
      · exact HSA.out.lt b h)
  rw [← HQ.out] at hCR
  have HC := Lib.hid hCR
  clear hCR
  go_wp2_with fail
  refine HC.out.mono ?_
  rintro e wb ⟨v', rfl, hb, hr⟩
  have HRB := Lib.hid hr
  obtain ⟨_, _, rfl, hlb, hmb⟩ := hr
  obtain ⟨A', c', rfl, _⟩ := ob_at hlb
  obtain ⟨B', d', rfl, _⟩ := obs_shape hmb
  have b3 := (hb.block _ la2).trans K3.out
  have b4 := (hb.block _ la3).trans K4.out
  obtain ⟨⟨y0, y1, y2⟩, yf⟩ := cells3 b4
  obtain ⟨⟨z0, z1, z2⟩, zf⟩ := cells3 b3
  have yf0 := yf 0
  have yf1 := yf 1
  have yf2 := yf 2
  have zf0 := zf 0
  have zf1 := zf 1
  have zf2 := zf 2
  have BK3 := Lib.hid b3
  have BK4 := Lib.hid b4
  have HB := Lib.hid hb
  clear b3 b4 yf zf hb hlb hmb
  go_wp2_with fail
  obtain ⟨w6, hw6⟩ : ∃ w6, w6 = ((wb.setCell ⟨w.heap.size + 1 + 1 + 1, 0, none⟩ (.slice A' q.2.l.length c')).setCell ⟨w.heap.size + 1 + 1 + 1, 1, none⟩ (.int .i64 q.2.lv)).setCell ⟨w.heap.size + 1 + 1 + 1, 2, none⟩ (.slice B' q.2.mods.length d') := ⟨_, rfl⟩
  rw [← hw6]
  obtain ⟨w7, hw7⟩ : ∃ w7, w7 = ((w6.setCell ⟨w.heap.size + 1 + 1, 0, none⟩ (.slice A' q.2.l.length c')).setCell ⟨w.heap.size + 1 + 1, 1, none⟩ (.int .i64 q.2.lv)).setCell ⟨w.heap.size + 1 + 1, 2, none⟩ (.slice B' q.2.mods.length d') := ⟨_, rfl⟩
  rw [← hw7]
  obtain ⟨hx6, s6⟩ := block3 (BK4.out) _ _ _ hw6
  obtain ⟨hx7, s7⟩ := block3 ((s6.block _ (by omega)).trans BK3.out) _ _ _ hw7
  clear hw6 hw7
  refine bodyPost_ret (results_ref _ 6 7 Try.results21 _ _ _ _ _ _ _ rfl rfl hx7) rfl ?_
  have hlen : q.2.l.length ≤ r.l.length + 1 := by rw [HQ.out]; exact closeR_len r
  exact do_tail hBW HF.out HSA.out HB.out HRB.out s6 s7 (noBool3 BK4.out) (noBool3 ((s6.block _ (by omega)).trans BK3.out)) (by omega) (by omega) HN.out.1 HN.out.2.1 HREL2.out.2 hlen
end Go.Proofs.Ytengenceelmijaa
