import Derived.Test.YtengenceelmijaaRefH
namespace Go.Proofs.Ytengenceelmijaa
open Go.RowKit
set_option linter.unusedVariables false

theorem results_one (fn : Func) (r : Nat) (hr : fn.results = #[.cell r 46]) (tmps : Array Value) (w : World) (g : Nat) (c0 c1 c2 c3 c4 c5 c6 c7 : Value) (hp : tmps.getD r undef = .pointer (some ⟨g, 0, none⟩))
    (hg : w.heap[g]? = some (.cells #[c0, c1, c2, c3, c4, c5, c6, c7] 46 (0, 0))) :
    (results fn tmps).run Try.prog w = .ok (.agg #[c0, c1, c2, c3, c4, c5, c6, c7]) w := by
  have hp' : tmps[r]?.getD undef = .pointer (some ⟨g, 0, none⟩) := by simpa using hp
  obtain ⟨⟨h0, h1, h2, h3, h4, h5, h6, h7⟩, _⟩ := cells8 hg
  simp [results, hr, hp', asAddr, go_sem, h0, h1, h2, h3, h4, h5, h6, h7]

set_option maxRecDepth 100000 in
theorem f32_any {F : List Nat} {w : World} (x : Ob) (pv : Value) (hp : PsR F w pv x.ps) : Calls Try.prog 32 #[obV x pv] w fun e w' => e = .returned (obV x pv) ∧ Below w.heap.size w w' := by
  obtain ⟨Ap, cp, rfl, _⟩ := ps_at hp
  clear hp
  unfold obV
  go_enter Try.func32, Try.ntmps32
  go_wp2_with fail
  refine bodyPost_ret (results_one _ 2 Try.results32 _ _ _ _ _ _ _ _ _ _ _ rfl (heap_alloc2_new w _ _)) rfl ?_
  exact ⟨rfl, ((Below.refl _ w).alloc (Nat.le_refl _) _).alloc (by simp) _⟩

set_option maxRecDepth 100000 in
theorem f19_same {F : List Nat} {w : World} (x : Ob) (pv qv : Value) (hp : PsR F w pv x.ps) (hq : PsR F w qv x.ps) : Calls Try.prog 19 #[obV x pv, obV x qv] w fun e w' => e = .returned (.bool true) ∧ Below w.heap.size w w' := by
  obtain ⟨Ap, cp, rfl, _⟩ := ps_at hp
  obtain ⟨Aq, cq, rfl, _⟩ := ps_at hq
  have HP := Lib.hid hp
  have HQ := Lib.hid hq
  clear hp hq
  have kB : ∀ o1 o2, Below w.heap.size w ((w.alloc o1).alloc o2) := fun o1 o2 => ((Below.refl w.heap.size w).alloc (Nat.le_refl _) o1).alloc (by simp) o2
  unfold obV
  go_enter Try.func19, Try.ntmps19
  go_wp2_with (go_at_call 27; refine (f27_same (F := F) (by exact HP.out.keep (Fr.of_below (kB _ _))) (by exact HQ.out.keep (Fr.of_below (kB _ _)))).mono ?_; rintro e w1 ⟨rfl, hb⟩)
  go_ret
  exact ⟨rfl, (kB _ _).trans (hb.mono (kB _ _).size)⟩

theorem str_at {w : World} {B : Nat} {v : Value} {ns : List ByteArray} (h : OwnN B w 9 1 v ns.length (strs ns)) : ∃ A c, v = .slice A ns.length c ∧ ns.length ≤ c ∧ ∀ i x, ns[i]? = some x → ∃ b, A = some ⟨b, 0, none⟩ ∧ b < w.heap.size ∧ w.cell? ⟨b, i, none⟩ = some (.string x) := by
  obtain ⟨A, c, rfl, hc, hx⟩ := own_cells h.1
  refine ⟨A, c, rfl, hc, fun i x hi => ?_⟩
  obtain ⟨g, rfl, _, hg, hx⟩ := hx (by have := (List.getElem?_eq_some_iff.1 hi).1; omega)
  exact ⟨g, rfl, hg, hx i _ (by rw [strs, List.getElem?_map, hi]; rfl)⟩

set_option maxHeartbeats 1000000 in
set_option maxRecDepth 100000 in
theorem f22_same {w : World} {B C : Nat} {u v : Value} {ns : List ByteArray} (h : OwnN B w 9 1 u ns.length (strs ns)) (k : OwnN C w 9 1 v ns.length (strs ns)) (hl : ns.length ≤ 4194304) :
    Calls Try.prog 22 #[u, v] w fun e w' => e = .returned (.bool true) ∧ Below w.heap.size w w' := by
  obtain ⟨A, c, rfl, hc, hA⟩ := str_at h
  obtain ⟨D, d, rfl, hd, hD⟩ := str_at k
  have HA := Lib.hid hA
  have HD := Lib.hid hD
  clear h k hA hD
  go_enter Try.func22, Try.ntmps22
  go_wp2
  go_loopw [5] (fun i wr => ∃ j : Nat, j ≤ ns.length ∧ i = .int .i64 j ∧ Below w.heap.size w wr) (fun i _ => ns.length - (intOf i).toNat)
  case atStart => exact ⟨0, Nat.zero_le _, rfl, Below.refl _ _⟩
  case round =>
    obtain ⟨j, hj, rfl, hBl⟩ := hrel
    by_cases hlt : j < ns.length
    · obtain ⟨x, hx⟩ : ∃ x, ns[j]? = some x := ⟨_, List.getElem?_eq_getElem hlt⟩
      obtain ⟨b, rfl, hbl, q0⟩ := HA.out j x hx
      obtain ⟨b', rfl, hbl', q0'⟩ := HD.out j x hx
      have r0 := (hBl.cell (p := ⟨b, j, none⟩) hbl).trans q0
      have s0 := (hBl.cell (p := ⟨b', j, none⟩) hbl').trans q0'
      have hbl1 := Nat.lt_of_lt_of_le hbl hBl.size
      have hbl1' := Nat.lt_of_lt_of_le hbl' hBl.size
      clear q0 q0' hx
      go_wp2
      go_region
      go_wp2
      go_roundw
      case rel => exact ⟨j + 1, by omega, by go_num, hBl.drew⟩
      case measure => simp [intOf]; omega
    · obtain rfl : j = ns.length := by omega
      go_wp2
      go_ret
      exact ⟨rfl, hBl⟩
end Go.Proofs.Ytengenceelmijaa
