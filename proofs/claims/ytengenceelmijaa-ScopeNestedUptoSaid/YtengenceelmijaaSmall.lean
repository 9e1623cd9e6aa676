import Derived.Test.YtengenceelmijaaOwn
import Derived.Test.YtengenceelmijaaFind
import Derived.Test.YtengenceelmijaaLib
import Derived.WalkSpells
namespace Go.Proofs.Ytengenceelmijaa
open Go.RowKit
set_option linter.unusedVariables false

theorem add_block (a : Addr) (j : Nat) : (a.add j).block = a.block := by unfold Addr.add; split <;> rfl
theorem info69 : (Try.prog.info? 69).map (fun i => (i.zero, i.size, i.bytes)) = some (some (.agg #[.int .i64 0, .bool false]), 2, 16) := by kernel_rfl
theorem ti23 : TI Try.prog 23 69 (.agg #[.int .i64 0, .bool false]) 2 16 := ⟨Try.underlying23, info69, rfl, by decide, by decide⟩

theorem f9_any {F : List Nat} {w : World} {p : Nat} {a : Abs} (h : Sc F w p a) :
    Calls Try.prog 9 #[.pointer (some ⟨p, 0, none⟩)] w fun e w' => e = .returned (.int .i64 ((a.opn.length : Int) - 1)) ∧ w = w' := by
  obtain ⟨ov, mv, vs, ms, h⟩ := h
  obtain ⟨h0, h1, hf, hp⟩ := h.pcell
  have hs := h.small
  obtain ⟨A, c, rfl, _⟩ := own_cells h.ow
  clear h h1
  have hs1 := hs.1
  have hs2 := hs.2.2
  clear hs
  go_enter Try.func9, Try.ntmps9
  go_wp2
  go_ret
  exact ⟨rfl, rfl⟩

def pcs (p : Int × Bool) : List Value := [.int .i64 p.1, .bool p.2]
theorem pcs_len (p : Int × Bool) : (pcs p).length = 2 := rfl
theorem EP_iff {w : World} {b o : Nat} {p : Int × Bool} : EP w b o p ↔ ∀ (r : Nat) (u : Value), (pcs p)[r]? = some u → w.cell? ⟨b, o + r, none⟩ = some u := by
  constructor
  · rintro ⟨h0, h1⟩ r u hu
    match r, hu with
    | 0, hu => simp [pcs] at hu; subst hu; exact h0
    | 1, hu => simp [pcs] at hu; subst hu; exact h1
    | n + 2, hu => simp [pcs] at hu
  · intro h
    exact ⟨h 0 _ rfl, h 1 _ rfl⟩
theorem PsR.src {F : List Nat} {w : World} {A : Option Addr} {c : Nat} {ps : List (Int × Bool)} (h : PsR F w (.slice A ps.length c) ps) :
    0 < ps.length → ∃ ad, A = some ad ∧ ad.block < w.heap.size ∧ ∀ (j : Nat) (u : Value), (ps.flatMap pcs)[j]? = some u → w.cell? (ad.add j) = some u := by
  intro h0
  obtain ⟨_, A', c', he, _, hx⟩ := h
  injection he with he _ _
  subst he
  obtain ⟨b, o, rfl, hg, hx⟩ := hx (by rintro rfl; simp at h0)
  exact ⟨_, rfl, hg.1, flat_from (by decide) pcs_len fun i x hi r u hu => EP_iff.1 (hx i x hi) r u hu⟩
theorem PsR.of_own {F : List Nat} {w : World} {v : Value} {ps : List (Int × Bool)} (h : w.ownsRow 0 69 2 v ps.length (ps.flatMap pcs)) (hF : ∀ b, v.ownBlock = some b → b ∉ F) (hl : ps.length ≤ 4194304) : PsR F w v ps := by
  obtain ⟨A, c, rfl, hc, hx⟩ := own_cells h
  refine ⟨hl, A, c, rfl, hc, fun hne => ?_⟩
  obtain ⟨g, rfl, hb, hg, hx⟩ := hx (List.length_pos_iff.2 hne)
  refine ⟨g, 0, rfl, ⟨hg, hF g hb⟩, fun i x hi => EP_iff.2 fun r u hu => ?_⟩
  have hr : r < 2 := by have := (List.getElem?_eq_some_iff.1 hu).1; rwa [pcs_len] at this
  rw [Nat.zero_add]
  exact hx _ u (by rw [flat_at (by decide) pcs_len hi hr]; exact hu)

theorem cells_one_pcs (ps : List (Int × Bool)) : ∀ u ∈ ps.flatMap pcs, u.oneCell' = true := by
  intro u hu
  obtain ⟨p, _, hp⟩ := List.mem_flatMap.1 hu
  simp [pcs] at hp
  rcases hp with rfl | rfl <;> rfl

theorem f26_any {F : List Nat} {w : World} {v : Value} {ps : List (Int × Bool)} (h : PsR F w v ps) (hF : ∀ b ∈ F, b < w.heap.size) :
    Calls Try.prog 26 #[v] w fun e w' => ∃ v', e = .returned v' ∧ Below w.heap.size w w' ∧ PsR F w' v' ps := by
  have h' := h
  obtain ⟨hl, A, c, rfl, hc, hx⟩ := h
  have hsrc := h'.src
  have H := Lib.hid h'
  clear hx h'
  have hq := fun (w : World) (a : Option Addr) (n c : Nat) => @Lib.run_eql_slice_nil Try.prog w 23 69 a n c 0 0 Try.underlying23
  cases A with
  | none =>
    go_enter Try.func26, Try.ntmps26
    go_wp2_with fail
    go_ret
    have : ps = [] := by
      rcases ps with _ | ⟨x, ps⟩
      · rfl
      · obtain ⟨ad, h, _⟩ := hsrc (by simp); cases h
    subst this
    exact ⟨_, rfl, Below.refl _ _, Sl.nil _ _ _⟩
  | some ad =>
    have HS := Lib.hid hsrc
    clear hsrc
    go_enter Try.func26, Try.ntmps26
    go_wp2_with (at_builtin; refine wpList_app ti23 (by rfl) _ _ (by rfl) (by rfl) (own_empty _ _ _) (by rfl) (ps.flatMap pcs) (flat_len pcs_len ps) ?_ (cells_one_pcs ps) (by omega) ?_)
    · intro h0
      obtain ⟨ad', e, hb, hc⟩ := HS.out h0
      injection e with e
      subst e
      exact ⟨_, rfl, fun j u hu => (World.cell?_alloc_lt _ _ _ (by rw [add_block]; exact hb)).trans (hc j u hu)⟩
    · intro A' c' w' hown hg hob
      go_wp2
      go_ret
      refine ⟨.slice A' ps.length c', rfl, ((Below.refl _ w).alloc (Nat.le_refl _) _).grown hg (by simp) (fun k e => by cases e; simp), PsR.of_own (by simpa using hown) (fun b hb hm => ?_) hl⟩
      have := hF b hm
      rcases hob with h1 | h1 <;> rw [hb] at h1 <;> simp [Value.ownBlock] at h1 <;> omega
theorem info66 : (Try.prog.info? 66).map (fun i => (i.zero, i.size, i.bytes)) = some (some (.slice none 0 0), 1, 24) := by kernel_rfl
theorem ti62 : TI Try.prog 62 66 (.slice none 0 0) 1 24 := ⟨Try.underlying62, info66, rfl, by decide, by decide⟩

theorem f20_any (w : World) : Calls Try.prog 20 #[] w fun e w' => ∃ p F, e = .returned (.pointer (some ⟨p, 0, none⟩)) ∧ Fr [] w F w' ∧ Sc F w' p ⟨[[]], []⟩ := by
  have hmk : ∀ w : World, (Instr.makeSlice 62 (.int .i64 1) (.int .i64 1)).run Try.prog w = .ok (.slice (some ⟨w.heap.size, 0, none⟩) 1 1) (w.alloc (.cells #[.slice none 0 0] 66)) := fun _ => by kernel_rfl
  go_enter Try.func20, Try.ntmps20
  go_wp2
  go_ret
  have hb : Below w.heap.size w ((w.alloc (.cells #[.slice none 0 0] 66)).alloc (.cells #[.slice (some ⟨w.heap.size, 0, none⟩) 1 1, .slice none 0 0] 64)) := ((Below.refl _ w).alloc (Nat.le_refl _) _).alloc (by simp) _
  refine ⟨w.heap.size + 1, [w.heap.size + 1, w.heap.size], rfl, ⟨hb.os, hb.tape, hb.output, hb.size, fun b hb' _ => hb.block b hb', fun b hb' => by simp at hb'; omega⟩,
    .slice (some ⟨w.heap.size, 0, none⟩) 1 1, .slice none 0 0, [.slice none 0 0], [], ?_⟩
  refine ⟨heap_alloc2_new w _ _, ?_, World.ownsRow_nil _ _ _ _, ⟨rfl, fun i v xs hi hx => ?_⟩, ⟨rfl, fun i v xs hi hx => by simp at hi⟩, rfl, by simp, by simp⟩
  · exact ⟨rfl, .inr ⟨w.heap.size, 1, _, rfl, Nat.zero_le _, heap_alloc2_old w _ _, Nat.le_refl _, by unfold maxLen; omega, rfl, rfl⟩⟩
  · match i, hi, hx with
    | 0, hi, hx =>
      simp at hi hx; subst hi; subst hx
      exact ⟨by simp, [], World.ownsRow_nil _ _ _ _, fun i x hi => by simp at hi⟩
    | i + 1, hi, hx => simp at hi

end Go.Proofs.Ytengenceelmijaa
