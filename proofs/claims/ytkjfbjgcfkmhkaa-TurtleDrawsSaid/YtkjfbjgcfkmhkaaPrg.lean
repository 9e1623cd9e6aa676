import Derived.Test.YtkjfbjgcfkmhkaaTu
import Derived.WalkLawsBesides
import Derived.Laws.Cover3
import Derived.BigQuiet
import Derived.Deep.QuietTactic
import Derived.BigRegion
namespace Go.Proofs.Ytkjfbjgcfkmhkaa
open Go.RowKit
set_option linter.unusedVariables false

theorem far_dec (x : Int) : decide (1099511627776 < max x (-x)) = farB x := by
  unfold farB
  rw [Bool.eq_iff_iff]; simp; omega
theorem f35_any {a b : Nat} {x y : Int} (ha : FI a x) (hb : FI b y) (w : World) : Calls Try.prog 35 #[cpx a b] w fun e w' => e = .returned (.bool (farB x || farB y)) ∧ w = w' := by
  obtain ⟨m, hm, hmax⟩ := max_float (P := Try.prog) ha ha.neg
  obtain ⟨n, hn, hmay⟩ := max_float (P := Try.prog) hb hb.neg
  have hneg : ∀ b : Nat, Op.unary .neg (.float .f64 b) = pure (.float .f64 (Op.negFloat .f64 b)) := fun _ => rfl
  have g1 := hm.gt FI_most
  have g2 := hn.gt FI_most
  rw [far_dec] at g1 g2
  cases hx : farB x with
  | true =>
    rw [hx] at g1
    clear hm hn ha hb hx g2
    go_enter Try.func35, Try.ntmps35
    go_wp2
    go_ret
    exact ⟨rfl, rfl⟩
  | false =>
    rw [hx] at g1
    cases hy : farB y with
    | true =>
      rw [hy] at g2
      clear hm hn ha hb hx hy
      go_enter Try.func35, Try.ntmps35
      go_wp2
      go_ret
      exact ⟨rfl, rfl⟩
    | false =>
      rw [hy] at g2
      clear hm hn ha hb hx hy
      go_enter Try.func35, Try.ntmps35
      go_wp2
      go_ret
      exact ⟨rfl, rfl⟩
theorem f24_any (x y : Int) (w : World) (hx : x.natAbs ≤ 9007199254740992) (hy : y.natAbs ≤ 9007199254740992) : Calls Try.prog 24 #[.int .i64 x, .int .i64 y] w fun e w' => ∃ a b, e = .returned (cpx a b) ∧ FI a x ∧ FI b y ∧ w = w' := by
  have h1 := Lib.hid (FI_int x hx)
  have h2 := Lib.hid (FI_int y hy)
  clear hx hy
  go_enter Try.func24, Try.ntmps24
  go_wp2
  go_ret
  exact ⟨_, _, rfl, h1.out, h2.out, rfl⟩
theorem f9_any (w : World) : Calls Try.prog 9 #[] w fun e w' => e = .returned (.pointer (some ⟨w.heap.size, 0, none⟩)) ∧ Below w.heap.size w w' ∧ Tu [w.heap.size] w' w.heap.size st0 := by
  go_enter Try.func9, Try.ntmps9
  go_wp2
  go_ret
  refine ⟨rfl, (Below.refl _ _).alloc (Nat.le_refl _) _, _, _, _, _, _, _, [], heap_alloc_new w _, FI_zero, FI_zero, FI_one, FI_zero, FI_one, World.ownsRow_nil _ _ _ _, fun i k h => by simp [st0] at h, rfl, by simp [Value.ownBlock], Bd.st0⟩


theorem info68 : (Try.prog.info? 68).map (fun i => (i.zero, i.size, i.bytes)) = some (some (.agg #[.complex .f64 0 0, .complex .f64 0 0]), 2, 32) := by kernel_rfl
theorem ti49 : TI Try.prog 49 68 (.agg #[.complex .f64 0 0, .complex .f64 0 0]) 2 32 := ⟨Try.underlying49, info68, rfl, by decide, by decide⟩

theorem ne_flag {a b : Nat} {x y : Int} (h : FI a x) (k : FI b y) : (FloatKind.f64.format.order a b == some .eq) = !decide (x ≠ y) := by rw [h.eq k]; simp

/-- Behind a write of its place alone. -/
theorem TuV.moved {F : List Nat} {w w' : World} {p : Nat} {s : St} {a b c d e a' b' : Nat} {sv sv' : Value} {cs cs' : List Value} {x y : Int} {l : List Sk} (h : TuV F w p s a b c d e sv cs)
    (hp : w'.heap[p]? = some (.cells #[cpx a' b', cpx c d, .float .f64 e, .bool s.down, sv'] 51 (0, 0))) (ha : FI a' x) (hb : FI b' y) (ho : w'.ownsRow 0 68 2 sv' l.length cs') (hs : SC cs' l) (hn : sv'.ownBlock ≠ some p)
    (hbd : Bd { s with x := x, y := y, l := l }) : TuV (p :: sv'.ownBlock.toList) w' p { s with x := x, y := y, l := l } a' b' c d e sv' cs' :=
  ⟨hp, ha, hb, h.fc, h.fd, h.fe, ho, hs, rfl, hn, hbd⟩
theorem SC.snoc {cs : List Value} {l : List Sk} {k : Sk} {u v : Value} (h : SC cs l) (hl : cs.length = l.length * 2) (hu : CI u k.x k.y) (hv : CI v k.u k.v) : SC (cs ++ [u, v]) (l ++ [k]) := by
  intro i q hq
  rw [List.getElem?_append] at hq
  split at hq
  · rename_i hi
    obtain ⟨u', v', h1, h2, h3, h4⟩ := h i q hq
    exact ⟨u', v', by rw [List.getElem?_append_left (by omega)]; exact h1, by rw [List.getElem?_append_left (by omega)]; exact h2, h3, h4⟩
  · rename_i hi
    have h0 : i - l.length = 0 := by
      have := (List.getElem?_eq_some_iff.1 hq).1
      simp at this; omega
    rw [h0] at hq
    simp at hq
    subst hq
    refine ⟨u, v, ?_, ?_, hu, hv⟩
    · rw [List.getElem?_append_right (by omega), show i * 2 - cs.length = 0 by omega]; rfl
    · rw [List.getElem?_append_right (by omega), show i * 2 + 1 - cs.length = 1 by omega]; rfl

theorem st_cpx (w : World) (ad : Addr) (x y : Nat) (m : Mode) : (store ad (.complex .f64 x y) m).run Try.prog w = stored Try.prog w ad (.complex .f64 x y) m := run_store Try.prog w ad _ m rfl
theorem st_flt (w : World) (ad : Addr) (x : Nat) (m : Mode) : (store ad (.float .f64 x) m).run Try.prog w = stored Try.prog w ad (.float .f64 x) m := run_store Try.prog w ad _ m rfl

theorem move_done {F : List Nat} {w w5 : World} {p : Nat} {s : St} {sa sb sc sd se a b : Nat} {A A1 : Option Addr} {c c1 : Nat} {cs : List Value} {x y : Int} {O : Obj}
    (h : TuV F w p s sa sb sc sd se (.slice A s.l.length c) cs) (ha : FI a x) (hb : FI b y) (hown : w5.ownsRow 0 68 2 (.slice A1 (s.l.length + 1) c1) (s.l.length + 1) (cs ++ [cpx sa sb, cpx a b]))
    (hg : ((w.alloc O).drew).grownBy w5 (Value.slice A s.l.length c).ownBlock)
    (hob : (Value.slice A1 (s.l.length + 1) c1).ownBlock = (Value.slice A s.l.length c).ownBlock ∨ (Value.slice A1 (s.l.length + 1) c1).ownBlock = some ((w.alloc O).drew).heap.size)
    (hbd : Bd { s with x := x, y := y, l := s.l ++ [⟨s.x, s.y, x, y⟩] }) :
    ∃ F', Fr F w F' ((w5.setCell ⟨p, 4, none⟩ (.slice A1 (s.l.length + 1) c1)).setCell ⟨p, 0, none⟩ (cpx a b)) ∧ Tu F' ((w5.setCell ⟨p, 4, none⟩ (.slice A1 (s.l.length + 1) c1)).setCell ⟨p, 0, none⟩ (cpx a b)) p { s with x := x, y := y, l := s.l ++ [⟨s.x, s.y, x, y⟩] } := by
  have hplt := h.plt
  have hsz : ((w.alloc O).drew).heap.size = w.heap.size + 1 := by simp
  rw [hsz] at hob
  have hsz5 := hg.size
  rw [hsz] at hsz5
  have k5 : ∀ q, q < w.heap.size → (Value.slice A s.l.length c).ownBlock ≠ some q → w5.heap[q]? = w.heap[q]? := fun q hq hn => (hg.block q (by rw [hsz]; omega) (fun e => hn e.symm)).trans (Below.heap_alloc w O q hq)
  have kp := (k5 p hplt h.np).trans h.blk
  have k1 := heap_setCell_same w5 p 4 _ 51 (.slice A1 (s.l.length + 1) c1) kp
  have k2 := heap_setCell_same (w5.setCell ⟨p, 4, none⟩ (.slice A1 (s.l.length + 1) c1)) p 0 _ 51 (cpx a b) k1
  have kk : ∀ q, q ≠ p → ((w5.setCell ⟨p, 4, none⟩ (.slice A1 (s.l.length + 1) c1)).setCell ⟨p, 0, none⟩ (cpx a b)).heap[q]? = w5.heap[q]? := fun q hq =>
    (Below.heap_setCell _ _ _ _ (fun e => hq e)).trans (Below.heap_setCell _ _ _ _ (fun e => hq e))
  have hnp : (Value.slice A1 (s.l.length + 1) c1).ownBlock ≠ some p := fun e => by
    rcases hob with h1 | h1
    · exact h.np (h1 ▸ e)
    · rw [h1] at e; injection e with e; omega
  refine ⟨p :: (Value.slice A1 (s.l.length + 1) c1).ownBlock.toList, ⟨hg.os, hg.tape, hg.output, by simp; omega, fun q hq hn => ?_, fun q hq => ?_⟩, a, b, sc, sd, se, _, _, h.moved (by simpa using k2) ha hb (ownsRow_same (by simpa using hown) fun q hq => kk q (fun e => hnp (e ▸ hq))) (h.sc.snoc (by rw [h.ow.1]) ⟨sa, sb, rfl, h.fa, h.fb⟩ ⟨a, b, rfl, ha, hb⟩) hnp hbd⟩
  · rw [h.ft] at hn
    have h1 : q ≠ p := fun e => hn (by simp [e])
    exact (kk q h1).trans (k5 q hq (fun e => hn (by simp [e])))
  · rcases List.mem_cons.1 hq with rfl | hq
    · exact .inl (by rw [h.ft]; simp)
    · have hq : (Value.slice A1 (s.l.length + 1) c1).ownBlock = some q := by simpa using hq
      rcases hob with h1 | h1
      · exact .inl (by rw [h.ft, ← h1, hq]; simp)
      · rw [h1] at hq; injection hq with hq; exact .inr (by omega)

set_option maxHeartbeats 1000000 in
theorem f27_any {F : List Nat} {w : World} {p : Nat} {s : St} {a b : Nat} {x y : Int} (h : Tu F w p s) (hl : s.l.length ≤ 1000000) (ha : FI a x) (hb : FI b y) :
    Calls Try.prog 27 #[.pointer (some ⟨p, 0, none⟩), cpx a b] w fun e w' => e = .returned (.int .i64 (moveT s x y).2) ∧ ∃ F', Fr F w F' w' ∧ Tu F' w' p (moveT s x y).1 := by
  have hst := st_cpx
  have hT := h
  obtain ⟨sa, sb, sc, sd, se, sv, cs, h⟩ := h
  obtain ⟨⟨c0, c1, c2, c3, c4⟩, cf⟩ := cells5 h.blk
  have f0 := cf 0
  have f4 := cf 4
  have e1 := ne_flag ha h.fa
  have e2 := ne_flag hb h.fb
  have hown := h.ow
  have hlt := h.plt
  have hfr0 : ∀ q, q ≠ p → ∀ u : Value, (w.setCell ⟨p, 0, none⟩ u).heap[q]? = w.heap[q]? := fun q hq u => Below.heap_setCell _ _ _ _ (fun e => hq e)
  have HH := Lib.hid h
  have HA := Lib.hid ha
  have HB := Lib.hid hb
  have HC := Lib.hid (f35_any ha hb w)
  have HT := Lib.hid hT
  clear h ha hb cf hT
  cases hfar : farB x || farB y with
  | true =>
    rw [hfar] at HC
    have hm : moveT s x y = (s, 90) := by unfold moveT; rw [hfar, if_pos rfl]
    rw [hm]
    clear hm hfar
    go_enter Try.func27, Try.ntmps27
    go_wp2_with (go_at_call 35; refine HC.out.mono ?_; rintro e w' ⟨rfl, rfl⟩)
    go_ret
    exact ⟨rfl, F, Fr.refl _ _, HT.out⟩
  | false =>
    rw [hfar] at HC
    have hbd := HH.out.bd.move x y
    cases hmv : s.down && (decide (x ≠ s.x) || decide (y ≠ s.y)) with
    | false =>
      have hm : moveT s x y = ({ s with x := x, y := y, l := s.l }, 0) := by unfold moveT; rw [hfar, if_neg (by simp), hmv]; rfl
      rw [hm] at hbd ⊢
      have fin : Fr F w F (w.setCell ⟨p, 0, none⟩ (cpx a b)) ∧ Tu F (w.setCell ⟨p, 0, none⟩ (cpx a b)) p { s with x := x, y := y, l := s.l } := by
        have hF := HH.out.ft
        have hfr : Fr F w F (w.setCell ⟨p, 0, none⟩ (cpx a b)) := ⟨rfl, rfl, rfl, by simp, fun q hq hn => hfr0 q (fun e => hn (by rw [hF, e]; simp)) _, fun q hq => .inl hq⟩
        refine ⟨hfr, a, b, sc, sd, se, sv, cs, ?_⟩
        have := HH.out.moved (w' := w.setCell ⟨p, 0, none⟩ (cpx a b)) (a' := a) (b' := b) (sv' := sv) (cs' := cs) (x := x) (y := y) (l := s.l) (heap_setCell_same w p 0 _ 51 _ HH.out.blk) HA.out HB.out
          (ownsRow_same HH.out.ow fun q hq => hfr0 q (fun e => HH.out.np (e ▸ hq)) _) HH.out.sc HH.out.np hbd
        rw [← hF] at this
        exact this
      have FIN := Lib.hid fin
      clear fin hbd hm hfar hfr0
      cases hdn : s.down with
      | false =>
        rw [hdn] at c3 FIN
        clear hmv hdn
        go_enter Try.func27, Try.ntmps27
        go_wp2_with (go_at_call 35; refine HC.out.mono ?_; rintro e w' ⟨rfl, rfl⟩)
        go_ret
        exact ⟨rfl, F, FIN.out⟩
      | true =>
        rw [hdn] at c3 hmv FIN
        rw [Bool.true_and, Bool.or_eq_false_iff] at hmv
        rw [hmv.1] at e1
        rw [hmv.2] at e2
        simp only [Bool.not_false] at e1 e2
        clear hmv hdn
        go_enter Try.func27, Try.ntmps27
        go_wp2_with (go_at_call 35; refine HC.out.mono ?_; rintro e w' ⟨rfl, rfl⟩)
        go_ret
        exact ⟨rfl, F, FIN.out⟩
    | true =>
      have hm : moveT s x y = ({ s with x := x, y := y, l := s.l ++ [⟨s.x, s.y, x, y⟩] }, 0) := by unfold moveT; rw [hfar, if_neg (by simp), hmv]; rfl
      rw [hm] at hbd ⊢
      have HBD := Lib.hid hbd
      rw [Bool.and_eq_true] at hmv
      obtain ⟨hdn, hmv⟩ := hmv
      rw [hdn] at c3
      obtain ⟨A, c, rfl, hcap, hA⟩ := own_cells hown
      have HFR := Lib.hid hfr0
      clear hbd hm hfar hfr0 hA
      have hne : Hid (∀ q, q < w.heap.size → (Value.slice A s.l.length c).ownBlock = some q → q ≠ p) := Lib.hid fun q _ hq e => HH.out.np (e ▸ hq)
      rcases hd1 : decide (x ≠ s.x) with _ | _
      all_goals
        rw [hd1] at hmv e1
        try (rw [Bool.false_or] at hmv; rw [hmv] at e2)
        simp only [Bool.not_false, Bool.not_true] at e1 e2
        clear hd1 hmv hdn
        go_enter Try.func27, Try.ntmps27
        go_wp2_with (go_at_call 35; refine HC.out.mono ?_; rintro e w' ⟨rfl, rfl⟩)
        refine wp_region_G (fun w' => w'.cell? ⟨p, 4, none⟩ = some (.slice A s.l.length c) ∧ w'.cell? ⟨p, 0, none⟩ = some (cpx sa sb)) [15] (by kernel_rfl) ?_
        refine wpG_range 0 11 5 (by kernel_rfl) rfl (by kernel_rfl) (by decide) ⟨c4, c0⟩ (fun K hK => ?_)
        simp only [List.drop_zero, List.take_succ_cons, List.take_zero]
        iterate 11 (refine wpPure_plain (v := ?_) rfl (fun y hy => ?_) ?_; rotate_left; (obtain ⟨h0, h1⟩ := hy; go_simp; rfl))
        refine wpPure_nil ?_
        go_simp
        refine hK _ ?_
        clear hK K
        refine wpG_one 11 4 rfl (by kernel_rfl) rfl ?_
        go_wp2
        refine Cont.mk ⟨fun _ => ?_, ?_⟩
        · go_keep
        refine wpG_one 12 3 rfl (by kernel_rfl) rfl ?_
        refine wpList_app ti49 rfl _ _ rfl (by rfl) (hown.alloc (.cells #[cpx sa sb, cpx a b] 68)) (by rfl) [cpx sa sb, cpx a b] rfl (new_src w #[cpx sa sb, cpx a b] 68 (0, 0) 1) (by simp [Value.oneCell']) (by omega) ?_
        intro A1 c1' w5 hown5 hg5 hob5
        have e5 : ((w.alloc (.cells #[cpx sa sb, cpx a b] 68)).drew).heap.size = w.heap.size + 1 := by simp
        have k5 : ∀ q, q < w.heap.size → (Value.slice A s.l.length c).ownBlock ≠ some q → w5.heap[q]? = w.heap[q]? := fun q hq hn => (hg5.block q (by rw [e5]; omega) (fun e => hn e.symm)).trans (Below.heap_alloc w (.cells #[cpx sa sb, cpx a b] 68) q hq)
        have kp := k5 p hlt HH.out.np
        have kc : ∀ o u, w.cell? ⟨p, o, none⟩ = some u → w5.cell? ⟨p, o, none⟩ = some u := fun o u h => (World.cell?_of_block (a := ⟨p, o, none⟩) kp).trans h
        have S5 : w5.cell? ⟨p, 4, none⟩ = some (.slice A s.l.length c) ∧ w5.cell? ⟨p, 0, none⟩ = some (cpx sa sb) := ⟨kc _ _ c4, kc _ _ c0⟩
        have g4 : w5.frozen? ⟨p, 4, none⟩ = false := (World.frozen?_of_block (a := ⟨p, 4, none⟩) kp).trans f4
        have g0 : w5.frozen? ⟨p, 0, none⟩ = false := (World.frozen?_of_block (a := ⟨p, 0, none⟩) kp).trans f0
        refine wpList_nil (Cont.mk ⟨fun _ => S5, ?_⟩)
        have r5 := S5.1
        have r0 := S5.2
        have H5 := Lib.hid hg5
        have HO5 := Lib.hid hob5
        have HK5 := Lib.hid k5
        clear S5 kc k5 hg5 hob5 e5
        refine wpG_one 13 2 rfl (by kernel_rfl) rfl ?_
        go_wp2
        refine Cont.mk ⟨fun _ => ⟨r5, r0⟩, ?_⟩
        refine wpG_one 14 1 rfl (by kernel_rfl) rfl ?_
        go_wp2
        refine Cont.mk ⟨fun _ => ⟨r5, r0⟩, ?_⟩
        refine wpG_one 15 0 rfl (by kernel_rfl) rfl ?_
        go_wp2
        refine Cont.mk ⟨fun h => absurd (by simp) h, ?_⟩
        refine wpG_done (by kernel_rfl) (NoPanic.normal ?_) _
        go_wp2
        go_ret
        obtain ⟨F', q1, q2⟩ := move_done HH.out HA.out HB.out hown5 H5.out HO5.out HBD.out
        exact ⟨rfl, F', q1, q2⟩
end Go.Proofs.Ytkjfbjgcfkmhkaa
