import Derived.Test.YtkjfbjgcfkmhkaaRTxt
import Derived.Test.YtkjfbjgcfkmhkaaRegIn
import Derived.RangeFuncNested
import Derived.RangeFuncBound
import Derived.RangeFuncCalls
import Derived.RangeFuncLeaves
import Derived.RangeFuncFrom
import Derived.Shelf.Abstract
import Derived.Shelf.RegionOpen
import Derived.OwnWalkIn
import Derived.TacticsInMore
import Derived.LoopNIn
import Derived.LoopIn
import Derived.IntWalk
import Derived.Stop.RegionWithIn
namespace Go.Proofs.Ytkjfbjgcfkmhkaa
open Go.RowKit Go.Shelf
set_option linter.unusedVariables false
set_option linter.unusedSimpArgs false

attribute [local go_sem] Oper.semAt_some

/-- The pairs of numbers; a last one alone is left out. -/
def pr (zs : List Int) (j : Nat) : Int × Int := (zs[2 * j]?.getD 0, zs[2 * j + 1]?.getD 0)
def upto (zs : List Int) (k : Nat) : List (Int × Int) := (List.range k).map (pr zs)
theorem upto_succ (zs : List Int) (k : Nat) : upto zs (k + 1) = upto zs k ++ [pr zs k] := by simp [upto, List.range_succ]
theorem upto_length (zs : List Int) (k : Nat) : (upto zs k).length = k := by simp [upto]
def prs (zs : List Int) : List (Int × Int) := upto zs (zs.length / 2)

/-- What a round leaves as it was. -/
def Kept (L : Nat → Prop) (W W' : World) : Prop := W.heap.size ≤ W'.heap.size ∧ ∀ b, L b → b < W.heap.size → W'.heap[b]? = W.heap[b]?
theorem Kept.refl (L : Nat → Prop) (W : World) : Kept L W W := ⟨Nat.le_refl _, fun _ _ _ => rfl⟩
theorem Kept.trans {L : Nat → Prop} {A B C : World} (h : Kept L A B) (k : Kept L B C) : Kept L A C :=
  ⟨Nat.le_trans h.1 k.1, fun b hb hl => (k.2 b hb (Nat.lt_of_lt_of_le hl h.1)).trans (h.2 b hb hl)⟩
theorem Kept.drew {L : Nat → Prop} {A B : World} (h : Kept L A B) : Kept L A B.drew := h
theorem Kept.cell {L : Nat → Prop} {A B : World} (h : Kept L A B) {b o : Nat} (hb : L b) (hl : b < A.heap.size) : B.cell? ⟨b, o, none⟩ = A.cell? ⟨b, o, none⟩ := World.cell?_of_block (h.2 b hb hl)

/-- A slice of int32s. -/
def I32R (L : Nat → Prop) (w : World) (v : Value) (zs : List Int) : Prop := zs.length ≤ 4194304 ∧ ∃ A c, v = .slice A zs.length c ∧ zs.length ≤ c ∧ (0 < zs.length → ∃ b o, A = some ⟨b, o, none⟩ ∧ (L b ∧ b < w.heap.size) ∧ ∀ j, j < zs.length → w.cell? ⟨b, o + j, none⟩ = some (.int .i32 (zs[j]?.getD 0)))
theorem I32R.kept {L : Nat → Prop} {w w' : World} {v : Value} {zs : List Int} (h : I32R L w v zs) (hB : Kept L w w') : I32R L w' v zs := by
  obtain ⟨hl, A, c, rfl, hc, hx⟩ := h
  refine ⟨hl, A, c, rfl, hc, fun h0 => ?_⟩
  obtain ⟨b, o, rfl, hb, hx⟩ := hx h0
  exact ⟨b, o, rfl, ⟨hb.1, Nat.lt_of_lt_of_le hb.2 hB.1⟩, fun j hj => (hB.cell hb.1 hb.2).trans (hx j hj)⟩

theorem f19_in (F : Fence) (n : Nat) (h19 : F.fn 19) (hro : F.round = none) (a : Option Addr) (len cap : Nat) (w : World) :
    CallsIn F n Try.prog 19 #[.slice a len cap] w fun e w' => e = .returned (.func (.func 32) #[] #[.pointer (some ⟨w.heap.size, 0, none⟩)]) ∧ w' = w.alloc (.cells #[.slice a len cap] 53) := by
  refine callsIn_of_wp Try.func19 rfl h19 ?_ hro
  simp only [Try.ntmps19, List.size_toArray, List.length_cons, List.length_nil, Nat.reduceAdd, Nat.reduceSub, Array.replicate_succ, Array.replicate_zero, List.push_toArray, List.append_toArray, List.nil_append, List.cons_append]
  gi_wp2
  go_ret
  exact ⟨rfl, rfl⟩

set_option maxRecDepth 100000 in
set_option maxHeartbeats 2000000 in
theorem f32_in (F : Fence) (n : Nat) (h32 : F.fn 32) (hro : F.round = none) (hn : 1 ≤ n) (L : Nat → Prop) (l Bs cap : Nat) (A : Option Addr) (zs : List Int) (hBs : L Bs) (J Jx : List (Int × Int) → World → Prop)
    (hY : ∀ pre x W, J pre W → pre.length < zs.length / 2 → YieldAt F (n - 1) Try.prog l #[.int .i32 x.1, .int .i32 x.2] W fun e W' =>
      (e = .returned (.bool true) ∧ J (pre ++ [x]) W' ∧ Kept L W W') ∨ (e = .returned (.bool false) ∧ Jx (pre ++ [x]) W'))
    (W : World) (hBl : Bs < W.heap.size) (hB : W.cell? ⟨Bs, 0, none⟩ = some (.slice A zs.length cap)) (hc : I32R L W (.slice A zs.length cap) zs) (h0 : J [] W) (hdr : ∀ xs W, J xs W → J xs W.drew) :
    CallsIn F n Try.prog 32 #[.func (.yield l) #[] #[], .pointer (some ⟨Bs, 0, none⟩)] W fun e W' => (∃ v, e = .returned v) ∧
      ((∃ ys, ys = prs zs ∧ J ys W') ∨ (∃ pre, (∃ k, k ≤ zs.length / 2 ∧ pre = upto zs k) ∧ Jx pre W')) := by
  have hl := hc.1
  refine callsIn_of_wp Try.func32 rfl h32 ?_ hro
  simp only [Try.ntmps32, List.size_toArray, List.length_cons, List.length_nil, Nat.reduceAdd, Nat.reduceSub, Array.replicate_succ, Array.replicate_zero, List.push_toArray, List.append_toArray, List.nil_append, List.cons_append]
  gi_wp2
  gi_loopw [3] (fun i wr => ∃ k : Nat, k ≤ zs.length / 2 ∧ i = .int .i64 ((2 * k : Nat) : Int) ∧ J (upto zs k) wr ∧ Kept L W wr)
    (fun i _ => zs.length - (intOf i).toNat)
  case atStart => exact ⟨0, Nat.zero_le _, rfl, h0, Kept.refl _ _⟩
  case round =>
    obtain ⟨k, hk, rfl, hJs, hnx⟩ := hrel
    have hbx := (hnx.cell (o := 0) hBs hBl).trans hB
    by_cases hlt : k < zs.length / 2
    · have hr := hc.kept hnx
      obtain ⟨_, A', c', he, _, hx⟩ := hr
      injection he with he _ _
      subst he
      obtain ⟨b, o, rfl, hb, hx⟩ := hx (by omega)
      have c0 := hx (2 * k) (by omega)
      have c1 := hx (2 * k + 1) (by omega)
      have lt1 : (2 * (k : Int)) + 1 < (zs.length : Int) := by omega
      have lt0 : (2 * (k : Int)) < (zs.length : Int) := by omega
      have p0 : (0 : Int) ≤ 2 * (k : Int) := by omega
      have tn0 : (2 * (k : Int)).toNat = 2 * k := by omega
      have tn1 : (2 * (k : Int) + 1).toNat = 2 * k + 1 := by omega
      have c1' := c1
      rw [← Nat.add_assoc] at c1'
      have p1 : (0 : Int) ≤ 2 * (k : Int) + 1 := by omega
      obtain ⟨fn, tmps, assign, body, hy, hR⟩ := hY _ (pr zs k) wr.drew (hdr _ _ hJs) (by rw [upto_length]; exact hlt)
      unfold pr at hy
      dsimp only at hy
      have hR' : RoundIn F (n - 1) Try.prog l fn tmps assign body wr.drew fun e W' => ∃ bb : Bool, e = .returned (.bool bb) ∧ Hid ((bb = true ∧ J (upto zs (k + 1)) W' ∧ Kept L W W') ∨ (bb = false ∧ Jx (upto zs (k + 1)) W')) := by
        refine hR.mono ?_
        rintro e W' (⟨rfl, h1, h2⟩ | ⟨rfl, h1⟩)
        · exact ⟨true, rfl, Lib.hid (.inl ⟨rfl, by rw [upto_succ]; exact h1, hnx.drew.trans h2⟩)⟩
        · exact ⟨false, rfl, Lib.hid (.inr ⟨rfl, by rw [upto_succ]; exact h1⟩)⟩
      have HR := Lib.hid hR'
      clear hx hR hR' hc hdr hnx hB h0
      gi_wp2
      have wr1 : IntKind.i64.wrap (2 * (k : Int) + 1) = 2 * (k : Int) + 1 := IntWalk.i64_in _ (by omega)
      refine wpIn_region_G (fun w' => w' = wr.drew) [10, 11] (by kernel_rfl) ?_
      refine wpGIn_range 0 10 2 (by kernel_rfl) (by kernel_rfl) rfl (by kernel_rfl) (by decide) rfl (fun K hK => ?_)
      simp only [List.drop_succ_cons, List.drop_zero, List.take_succ_cons, List.take_zero]
      iterate 10 (refine wpPureIn_plain (v := ?_) rfl (fun _ => rfl) (fun y hy => ?_) ?_; rotate_left; (subst hy; go_simp; rfl))
      refine wpPureIn_nil ?_
      go_simp
      refine hK _ ?_
      clear hK K
      refine wpGIn_one 10 1 rfl (by kernel_rfl) rfl ?_
      gi_wp2
      refine HR.out.mono ?_
      rintro e W3 ⟨bb, rfl, hb3⟩
      clear HR
      gi_wp2
      refine Cont.mk ⟨fun h => absurd (by simp) h, ?_⟩
      refine wpGIn_one 11 0 rfl (by kernel_rfl) rfl ?_
      gi_wp2
      refine Cont.mk ⟨fun h => absurd (by simp) h, ?_⟩
      refine wpGIn_done (by kernel_rfl) (NoPanic.normal ?_) _
      have wr2 : IntKind.i64.wrap (2 * (k : Int) + 2) = 2 * (k : Int) + 2 := IntWalk.i64_in _ (by clear wr1; omega)
      cases bb with
      | true =>
        obtain ⟨_, hJ3, hB3⟩ | ⟨h, _⟩ := hb3.out
        · gi_wp2
          go_roundw
          case rel => exact ⟨k + 1, by omega, by congr 1, hJ3, hB3⟩
          case measure => clear wr1 wr2; simp only [intOf]; omega
        · cases h
      | false =>
        obtain ⟨h, _⟩ | ⟨_, hJ3⟩ := hb3.out
        · cases h
        · gi_wp2
          refine bodyPost_ret (results_none rfl _ _ _) rfl ?_
          exact ⟨⟨_, rfl⟩, .inr ⟨_, ⟨k + 1, by omega, rfl⟩, hJ3⟩⟩
    · obtain rfl : k = zs.length / 2 := by omega
      have ge1 : ¬ (2 * ((zs.length / 2 : Nat) : Int)) + 1 < (zs.length : Int) := by omega
      gi_wp2
      go_end0
      exact ⟨⟨_, rfl⟩, .inl hJs⟩
theorem pairs_stops (F : Fence) (n : Nat) (h32 : F.fn 32) (hro : F.round = none) (hn : 1 ≤ n) (L : Nat → Prop) (Bs cap : Nat) (A : Option Addr) (zs : List Int) (w : World) (hL : ∀ b, L b → b < w.heap.size) (hBs : L Bs)
    (hB : w.cell? ⟨Bs, 0, none⟩ = some (.slice A zs.length cap)) (hc : I32R L w (.slice A zs.length cap) zs) :
    SeqStopsK F n Try.prog 32 #[.pointer (some ⟨Bs, 0, none⟩)] (fun x : Int × Int => #[Value.int .i32 x.1, Value.int .i32 x.2]) (Kept L) (fun ys => ys = prs zs)
      (fun pre => ∃ k, k ≤ zs.length / 2 ∧ pre = upto zs k) (zs.length / 2) w := fun l J Jx W hW hJ _ hY h0 => by
  have hk : Kept L w W := ⟨hW.size, fun b _ hb => hW.block b hb⟩
  refine f32_in F n h32 hro hn L l Bs cap A zs hBs J Jx hY W (Nat.lt_of_lt_of_le (hL _ hBs) hW.size) ((hW.cell (p := ⟨Bs, 0, none⟩) (hL _ hBs)).trans hB) (hc.kept hk) h0 ?_
  intro xs W1 h1
  exact hJ xs W1 W1.drew none h1 ⟨rfl, rfl, rfl, Nat.le_refl _, fun _ _ _ => rfl⟩ (fun r e => by cases e)
end Go.Proofs.Ytkjfbjgcfkmhkaa
