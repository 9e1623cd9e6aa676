/- TurtleDraws: whatever the events, up to 200. -/
import Derived.Test.YtkjfbjgcfkmhkaaF4
import Derived.Test.YtkjfbjgcfkmhkaaRda
import Derived.JoinedOf
import Derived.OpenShut
import Derived.JoinedCond
namespace Go.Proofs.Ytkjfbjgcfkmhkaa
open Go.RowKit Go.ChangeShapes Go.WideShapes Go.Deep
set_option linter.unusedVariables false
section
variable {H : Type} {enc : TypeId × Value → H} {w : World} {sp : Nat → Bool} {held : Bool}
theorem take_one {cs : List Value} {o : Nat} {v : Value} (h : (cs.drop o).take 1 = [v]) : cs[o]? = some v := by
  have : ((cs.drop o).take 1)[0]? = some v := by rw [h]; rfl
  rw [List.getElem?_take, if_pos (by omega), List.getElem?_drop] at this
  simpa using this
theorem fld_i64 {n t o m : Nat} {cs : List Value} {y : DataW H × List MemPlace} (ht : Try.prog.underlying t = some (.int .i64)) (hn : n = 1) (h : DataW.trod enc Try.prog w 0 sp held m t ((cs.drop o).take n) = some y) : ∃ i, cs[o]? = some (.int .i64 i) := by
  subst hn
  obtain ⟨i, h1, _⟩ := DataW.trod_int ht h
  exact ⟨i, take_one h1⟩
theorem rng_i32 {i : Int} (h : (Lit.int .i32 i).wf = true) : -2147483648 ≤ i ∧ i ≤ 2147483647 := by
  have h1 : IntKind.i32.min = -2147483648 := by decide
  have h2 : IntKind.i32.max = 2147483647 := by decide
  simp only [Lit.wf, h1, h2, Bool.and_eq_true, decide_eq_true_eq] at h
  omega
theorem fld_i32 {n t o m : Nat} {cs : List Value} {y : DataW H × List MemPlace} (ht : Try.prog.underlying t = some (.int .i32)) (hn : n = 1) (h : DataW.trod enc Try.prog w 0 sp held m t ((cs.drop o).take n) = some y) : ∃ i, cs[o]? = some (.int .i32 i) ∧ -2147483648 ≤ i ∧ i ≤ 2147483647 := by
  subst hn
  obtain ⟨i, h1, _, hw⟩ := DataW.trod_int ht h
  exact ⟨i, take_one h1, rng_i32 hw⟩
theorem c3 : Try.prog.cellsOf 3 = 1 := by kernel_rfl
theorem c21 : Try.prog.cellsOf 21 = 1 := by kernel_rfl
theorem c72 : Try.prog.cellsOf 72 = 2 := by kernel_rfl
theorem c33 : Try.prog.cellsOf 33 = 2 := by kernel_rfl
theorem rd_ev {m : Nat} {cs : List Value} {x : DataW H × List MemPlace} (h : DataW.trod enc Try.prog w 0 sp held m 72 cs = some x) : ∃ p : Int × Int, ∀ b o, b < w.heap.size → (∀ (j : Nat) (u : Value), cs[j]? = some u → w.cell? ⟨b, o + j, none⟩ = some u) → EEv w b o p ∧ -2147483648 ≤ p.2 ∧ p.2 ≤ 2147483647 := by
  obtain ⟨xs, n, _, _, hl, hlen, hf⟩ := DataW.trod_struct Try.underlying72 h
  obtain ⟨y0, e0⟩ : ∃ y, xs[0]? = some y := ⟨_, List.getElem?_eq_getElem (by rw [hlen]; decide)⟩
  obtain ⟨y1, e1⟩ : ∃ y, xs[1]? = some y := ⟨_, List.getElem?_eq_getElem (by rw [hlen]; decide)⟩
  obtain ⟨i, hi⟩ := fld_i64 Try.underlying3 c3 ((hf 0 _ rfl).trans e0)
  obtain ⟨k, hk, hr⟩ := fld_i32 Try.underlying21 c21 ((hf 1 _ rfl).trans e1)
  exact ⟨(i, k), fun b o _ hc => ⟨⟨hc 0 _ hi, hc 1 _ hk⟩, hr⟩⟩
theorem rd_events {m : Nat} {cs : List Value} {x : DataW H × List MemPlace} (h : DataW.trod enc Try.prog w 0 sp held m 38 cs = some x) : ∃ A n c, cs = [.slice A n c] ∧ (n ≤ 4194304 → ∃ es : List (Int × Int), es.length = n ∧ EvR [] w (.slice A n c) es ∧ ∀ e ∈ es, -2147483648 ≤ e.2 ∧ e.2 ≤ 2147483647) := by
  obtain ⟨A, n, c, rfl, hx⟩ := read_slice_any (α := Int × Int) (fun b o p => EEv w b o p ∧ -2147483648 ≤ p.2 ∧ p.2 ≤ 2147483647) Try.underlying38 c72 (by decide) h fun cs' y k _ hy => rd_ev hy
  refine ⟨A, n, c, rfl, fun hn => ?_⟩
  obtain ⟨es, hl, hs⟩ := hx hn
  refine ⟨es, hl, Sl.imp hs (fun _ h => h) (fun _ _ _ _ h => h.1), fun e he => ?_⟩
  obtain ⟨i, hi, he⟩ := List.getElem_of_mem he
  obtain ⟨_, A', c', hv, _, hx⟩ := hs
  obtain ⟨b, o, _, _, hx⟩ := hx (by rintro rfl; simp at hi)
  exact (hx i e (by rw [List.getElem?_eq_getElem hi, he])).2
end

theorem own : ownKnob Try.prog.godebug = none := by kernel_rfl
theorem cells : SliceCells Try.prog [22, 33, 53, 38, 72, 3, 21, 4, 5] := by
  unfold SliceCells
  kernel_rfl

namespace turtleDraws
theorem contract (H : Type) (enc : TypeId × Value → H) (W : World) (base : Nat) (args : Array Value) (ds gs : List (DataW H)) (before : List MemPlace)
    (hval : ∀ (j : Nat) t v, Try.f4.params[j]? = some t → args[j]? = some v → Value.okWide Try.prog W .any base t v)
    (hW : DataW.Whole enc Try.prog Try.f4.params.toList Rows.turtleDrawsSpec.vars false W args.toList ds gs before) :
    Calls Try.prog 4 args W fun e W' => ∃ v, e = .returned v ∧ Rows.turtleDrawsSpec.post enc Try.prog Try.f4 false true false false W args v W' := by
  have hW' := hW
  obtain ⟨p, q, hA0, hV, rfl, hfz, hnd⟩ := hW
  have hA : DataW.TrodAll enc Try.prog W 0 (fun _ => true) true Try.f4.params.toList args.toList ds p := hA0
  rw [Try.params4] at hA hval
  obtain ⟨v0, vs0, d0, ds0, p0, q0, hargs, rfl, rfl, h0, r0⟩ := trodAll_cons hA
  obtain ⟨rfl, rfl, rfl⟩ := trodAll_nil r0
  obtain rfl : args = #[v0] := by cases args; simp_all
  obtain ⟨rfl, rfl⟩ := trodVars_none hV
  obtain ⟨m, hm⟩ := h0
  obtain ⟨A, n, c, hcs, hop⟩ := rd_events hm
  obtain ⟨A', n', c', rfl⟩ := okWide_slice Try.underlying38 (hval 0 38 v0 rfl rfl)
  obtain ⟨rfl, rfl, rfl⟩ : A' = A ∧ n' = n ∧ c' = c := by simpa [Value.cells] using hcs
  refine (f4_any (A := A') (n := n') (c := c') (fun hn => hop (by omega))).mono ?_
  rintro e W' ⟨rfl, hB⟩
  exact ⟨_, rfl, post_below cells (by rw [Try.params4]; simp) hW' rfl (fun _ _ _ => (trodAll_cons_mk (shut_bool Try.underlying4 _) trodAll_mk0)) rfl rfl hB (ok_one (by kernel_rfl) rfl (okWide_bool_mk Try.underlying4 _))⟩

set_option maxRecDepth 100000 in
theorem lifted (os : Os) (started : os.Started) (H : Type) (enc : TypeId × Value → H) :
    ReturnsInHanded {} Try.checked os 4 .any ((OpenSpec.ofChange Rows.turtleDrawsSpec).pre6 enc Try.prog Try.f4 Rows.turtleDrawsRow.domain false) (Rows.turtleDrawsSpec.post enc Try.prog Try.f4 false true false false) := by
  refine returnsInHanded_of_change (C := Try.checked) (s := Rows.turtleDrawsSpec) own started (by kernel_rfl) Try.func4
    (ChangeSpec.witness6 (enc := enc) (C := Try.checked) (s := Rows.turtleDrawsSpec) false ⟨#[], #[.slice none 0 0], []⟩ 8 (by kernel_rfl) (by kernel_rfl) (by kernel_rfl) (by kernel_rfl)) ?_
  intro W base args ds gs before hval hW _ _
  exact contract H enc W base args ds gs before hval hW

theorem over : Rows.turtleDrawsRow.holds Try.pinned (OpenSpec.ofChange Rows.turtleDrawsSpec) :=
  OpenClaim.holds_of_wide 4 Try.f4 rfl rfl rfl rfl rfl rfl rfl ⟨rfl, rfl, rfl, rfl, rfl⟩ rfl rfl rfl rfl rfl (by kernel_rfl) Try.func4 (by kernel_rfl)
    (of_decide_eq_true (by kernel_rfl)) (by unfold Func.isWrapper; first | (rw [if_pos (by decide +kernel)]; kernel_rfl) | (rw [if_neg (by decide +kernel)]; exact ⟨rfl, rfl⟩))
    (fun os started H enc _ => lifted os started H enc)

theorem proved : Rows.TurtleDrawsSaid := over
end turtleDraws
end Go.Proofs.Ytkjfbjgcfkmhkaa
