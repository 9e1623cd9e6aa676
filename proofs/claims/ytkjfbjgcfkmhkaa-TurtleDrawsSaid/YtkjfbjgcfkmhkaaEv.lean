import Derived.Test.YtkjfbjgcfkmhkaaRTxt
namespace Go.Proofs.Ytkjfbjgcfkmhkaa
open Go.RowKit
set_option linter.unusedVariables false
set_option linter.unusedSimpArgs false

def EPr (w : World) (b o : Nat) (p : Int × Int) : Prop := cel w b o (.int .i32 p.1) ∧ cel w b (o + 1) (.int .i32 p.2)
def PrR (F : List Nat) (w : World) (v : Value) (ps : List (Int × Int)) : Prop := Sl (Good F w) 2 (EPr w) v ps
def EEv (w : World) (b o : Nat) (e : Int × Int) : Prop := cel w b o (.int .i64 e.1) ∧ cel w b (o + 1) (.int .i32 e.2)
def EvR (F : List Nat) (w : World) (v : Value) (es : List (Int × Int)) : Prop := Sl (Good F w) 2 (EEv w) v es
theorem PrR.keep {F F' : List Nat} {w w' : World} {v : Value} {l : List (Int × Int)} (h : PrR F w v l) (hf : Fr F w F' w') : PrR F' w' v l :=
  Sl.imp h (fun _ => hf.good) fun _ _ _ hb he => ⟨he.1.keep hf hb, he.2.keep hf hb⟩
theorem EvR.keep {F F' : List Nat} {w w' : World} {v : Value} {l : List (Int × Int)} (h : EvR F w v l) (hf : Fr F w F' w') : EvR F' w' v l :=
  Sl.imp h (fun _ => hf.good) fun _ _ _ hb he => ⟨he.1.keep hf hb, he.2.keep hf hb⟩
def evc (e : Int × Int) : List Value := [.int .i64 e.1, .int .i32 e.2]
theorem evc_len (e : Int × Int) : (evc e).length = 2 := rfl
theorem EEv_iff {w : World} {b o : Nat} {k : Int × Int} : EEv w b o k ↔ ∀ (r : Nat) (u : Value), (evc k)[r]? = some u → w.cell? ⟨b, o + r, none⟩ = some u := by
  constructor
  · rintro ⟨h0, h1⟩ r u hu
    match r, hu with
    | 0, hu => simp [evc] at hu; subst hu; exact h0
    | 1, hu => simp [evc] at hu; subst hu; exact h1
    | n + 2, hu => simp [evc] at hu
  · intro h
    exact ⟨h 0 _ rfl, h 1 _ rfl⟩
theorem EvR.of_own {F : List Nat} {w : World} {v : Value} {l : List (Int × Int)} (h : w.ownsRow 0 72 2 v l.length (l.flatMap evc)) (hF : ∀ b, v.ownBlock = some b → b ∉ F) (hl : l.length ≤ 4194304) : EvR F w v l := by
  obtain ⟨A, c, rfl, hc, hx⟩ := own_cells h
  refine ⟨hl, A, c, rfl, hc, fun hne => ?_⟩
  obtain ⟨g, rfl, hb, hg, hx⟩ := hx (List.length_pos_iff.2 hne)
  refine ⟨g, 0, rfl, ⟨hg, hF g hb⟩, fun i x hi => EEv_iff.2 fun r u hu => ?_⟩
  have hr : r < 2 := by have := (List.getElem?_eq_some_iff.1 hu).1; rwa [evc_len] at this
  rw [Nat.zero_add]
  exact hx _ u (by rw [flat_at (by decide) evc_len hi hr]; exact hu)
theorem info72 : (Try.prog.info? 72).map (fun i => (i.zero, i.size, i.bytes)) = some (some (.agg #[.int .i64 0, .int .i32 0]), 2, 16) := by kernel_rfl
theorem ti38 : TI Try.prog 38 72 (.agg #[.int .i64 0, .int .i32 0]) 2 16 := ⟨Try.underlying38, info72, rfl, by decide, by decide⟩
theorem pr_at {F : List Nat} {w : World} {v : Value} {l : List (Int × Int)} (h : PrR F w v l) : ∃ A c, v = .slice A l.length c ∧ l.length ≤ c ∧ l.length ≤ 4194304 ∧ ∀ i x, l[i]? = some x → ∃ b o, A = some ⟨b, o, none⟩ ∧ Good F w b ∧ EPr w b (o + i * 2) x := by
  obtain ⟨hl, A, c, rfl, hc, hx⟩ := h
  refine ⟨A, c, rfl, hc, hl, fun i x hi => ?_⟩
  obtain ⟨b, o, rfl, hb, h⟩ := hx (by rintro rfl; simp at hi)
  exact ⟨b, o, rfl, hb, h i x hi⟩
theorem ev_at {F : List Nat} {w : World} {v : Value} {l : List (Int × Int)} (h : EvR F w v l) : ∃ A c, v = .slice A l.length c ∧ l.length ≤ c ∧ l.length ≤ 4194304 ∧ ∀ i x, l[i]? = some x → ∃ b o, A = some ⟨b, o, none⟩ ∧ Good F w b ∧ EEv w b (o + i * 2) x := by
  obtain ⟨hl, A, c, rfl, hc, hx⟩ := h
  refine ⟨A, c, rfl, hc, hl, fun i x hi => ?_⟩
  obtain ⟨b, o, rfl, hb, h⟩ := hx (by rintro rfl; simp at hi)
  exact ⟨b, o, rfl, hb, h i x hi⟩
def evs (ps : List (Int × Int)) : List (Int × Int) := ps.flatMap fun p => [(0, p.1), (0, p.2)]
theorem evs_succ {l : List (Int × Int)} {j : Nat} {k : Int × Int} (h : l[j]? = some k) : evs (l.take (j + 1)) = evs (l.take j) ++ [(0, k.1), (0, k.2)] := by
  unfold evs; rw [List.take_add_one, h]; simp
theorem evs_len (l : List (Int × Int)) : (evs l).length = 2 * l.length := by
  unfold evs
  induction l with
  | nil => rfl
  | cons x l ih => rw [List.flatMap_cons, List.length_append, ih]; simp; omega

set_option maxHeartbeats 2000000 in
theorem f18_any {F : List Nat} {w : World} {v : Value} {ps : List (Int × Int)} (h : PrR F w v ps) (hF : ∀ b ∈ F, b < w.heap.size) (hl : ps.length ≤ 1000000) :
    Calls Try.prog 18 #[v] w fun e w' => ∃ v', e = .returned v' ∧ Below w.heap.size w w' ∧ EvR F w' v' (evs ps) := by
  obtain ⟨A, c, rfl, hc, _, hA⟩ := pr_at h
  have HA := Lib.hid hA
  have HF := Lib.hid hF
  clear hA h hF
  go_enter Try.func18, Try.ntmps18
  go_wp2_with fail
  go_loopw [3, 4] (fun a i wr => ∃ (j : Nat) (B : Option Addr) (d : Nat), j ≤ ps.length ∧ i = .int .i64 j ∧ a = .slice B (2 * j) d ∧ Hid (wr.ownsRow 0 72 2 (.slice B (2 * j) d) (2 * j) ((evs (ps.take j)).flatMap evc)) ∧ Hid (∀ b, (Value.slice B (2 * j) d).ownBlock = some b → w.heap.size ≤ b) ∧ Hid (Below w.heap.size w wr)) (fun _ i _ => ps.length - (intOf i).toNat)
  case atStart => exact ⟨0, none, 0, Nat.zero_le _, rfl, rfl, Lib.hid (World.ownsRow_nil _ _ _ _), Lib.hid (fun b hb => by simp [Value.ownBlock] at hb), Lib.hid (Below.refl _ _)⟩
  case round =>
    obtain ⟨j, B, d, hj, rfl, rfl, hown, hnew, hBl⟩ := hrel
    by_cases hlt : j < ps.length
    · obtain ⟨z, hz⟩ : ∃ z, ps[j]? = some z := ⟨_, List.getElem?_eq_getElem hlt⟩
      obtain ⟨b2, o2, rfl, hgd, e0, e1⟩ := HA.out j z hz
      have t0 := (hBl.out.cell (p := ⟨b2, o2 + j * 2, none⟩) hgd.1).trans e0
      have t1 := (hBl.out.cell (p := ⟨b2, o2 + j * 2 + 1, none⟩) hgd.1).trans e1
      have HZ := Lib.hid (evs_succ hz)
      have hs := hBl.out.size
      have hb2 : b2 < wr.heap.size := Nat.lt_of_lt_of_le hgd.1 hBl.out.size
      have hb2w : b2 < w.heap.size := hgd.1
      clear e0 e1 hz hgd
      go_wp2_with fail
      refine wp_region_G (fun w' => w'.cell? ⟨b2, o2 + j * 2, none⟩ = some (.int .i32 z.1) ∧ w'.cell? ⟨b2, o2 + j * 2 + 1, none⟩ = some (.int .i32 z.2)) [15] (by kernel_rfl) ?_
      refine wpG_range 0 13 3 (by kernel_rfl) rfl (by kernel_rfl) (by decide) ⟨t0, t1⟩ (fun K hK => ?_)
      simp only [List.drop_zero, List.take_succ_cons, List.take_zero]
      iterate 13 (refine wpPure_plain (v := ?_) rfl (fun y hy => ?_) ?_; rotate_left; (obtain ⟨h0, h1⟩ := hy; go_simp; rfl))
      refine wpPure_nil ?_
      go_simp
      refine hK _ ?_
      clear hK K
      refine wpG_one 13 2 rfl (by kernel_rfl) rfl ?_
      go_wp2
      refine Cont.mk ⟨fun _ => ?_, ?_⟩
      · go_keep
      refine wpG_one 14 1 rfl (by kernel_rfl) rfl ?_
      refine wpList_app ti38 rfl _ _ rfl (by rfl) (hown.out.alloc (.cells #[.int .i64 0, .int .i32 z.1, .int .i64 0, .int .i32 z.2] 72)) (by rfl) ([(0, z.1), (0, z.2)].flatMap evc) rfl (new_src wr #[.int .i64 0, .int .i32 z.1, .int .i64 0, .int .i32 z.2] 72 (0, 0) 2) (by simp [evc, Value.oneCell']) (by omega) ?_
      intro A1 c1 w5 hown5 hg5 hob5
      have e5 : ((wr.alloc (.cells #[.int .i64 0, .int .i32 z.1, .int .i64 0, .int .i32 z.2] 72)).drew).heap.size = wr.heap.size + 1 := by simp
      have kb := (hg5.block b2 (by rw [e5]; omega) (fun e => by have := hnew.out b2 e.symm; omega)).trans (Below.heap_alloc wr (.cells #[.int .i64 0, .int .i32 z.1, .int .i64 0, .int .i32 z.2] 72) b2 hb2)
      have S5 : w5.cell? ⟨b2, o2 + j * 2, none⟩ = some (.int .i32 z.1) ∧ w5.cell? ⟨b2, o2 + j * 2 + 1, none⟩ = some (.int .i32 z.2) := ⟨(World.cell?_of_block (a := ⟨b2, o2 + j * 2, none⟩) kb).trans t0, (World.cell?_of_block (a := ⟨b2, o2 + j * 2 + 1, none⟩) kb).trans t1⟩
      have hB5 : Below w.heap.size w w5 := ((hBl.out.alloc hBl.out.size (.cells #[.int .i64 0, .int .i32 z.1, .int .i64 0, .int .i32 z.2] 72)).drew).grown hg5 (by rw [e5]; omega) (fun b hb => hnew.out b hb)
      have hn5 : ∀ b, (Value.slice A1 (2 * j + 2) c1).ownBlock = some b → w.heap.size ≤ b := fun b hb => by
        rcases hob5 with h | h
        · exact hnew.out b (h ▸ hb)
        · rw [h, e5] at hb; injection hb with hb; omega
      have HO5 := Lib.hid hown5
      have HB5 := Lib.hid hB5
      have HN5 := Lib.hid hn5
      refine wpList_nil (Cont.mk ⟨fun _ => S5, ?_⟩)
      clear hg5 hob5 kb hown5 hB5 hn5 e5 S5
      refine wpG_one 15 0 rfl (by kernel_rfl) rfl ?_
      go_wp2
      refine Cont.mk ⟨fun h => absurd (by simp) h, ?_⟩
      refine wpG_done (by kernel_rfl) (NoPanic.normal ?_) _
      go_wp2
      go_roundw
      case rel => exact ⟨j + 1, A1, c1, by omega, by go_num, by rw [show 2 * (j + 1) = 2 * j + 2 by omega], Lib.hid (by rw [HZ.out, List.flatMap_append, show 2 * (j + 1) = 2 * j + 2 by omega]; exact HO5.out), Lib.hid (by rw [show 2 * (j + 1) = 2 * j + 2 by omega]; exact HN5.out), HB5⟩
      case measure => simp [intOf]; omega
    · obtain rfl : j = ps.length := by omega
      go_wp2_with fail
      go_ret
      refine ⟨_, rfl, hBl.out, ?_⟩
      have h1 := hown.out
      rw [List.take_length] at h1
      exact EvR.of_own (by rw [evs_len]; exact h1) (fun b hb hm => by have := HF.out b hm; have := hnew.out b hb; omega) (by rw [evs_len]; omega)
end Go.Proofs.Ytkjfbjgcfkmhkaa
