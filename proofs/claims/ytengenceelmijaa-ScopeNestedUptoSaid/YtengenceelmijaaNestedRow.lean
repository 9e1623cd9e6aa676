/- ScopeNested: behind any calls, what is declared within so many more scopes hides what is declared without, till they are closed. Condition: what the call reads is of bulk at most 1048576. -/
import Derived.Test.YtengenceelmijaaTake
import Derived.Test.YtengenceelmijaaNested
import Derived.OpenShut
import Derived.JoinedCond
namespace Go.Proofs.Ytengenceelmijaa.scopeNested
open Go.RowKit Go.ChangeShapes Go.WideShapes Go.ChangeAt
set_option linter.unusedVariables false

theorem own : ownKnob Try.prog.godebug = none := by kernel_rfl
theorem cells : SliceCells Try.prog [22, 57, 3, 25, 42, 9, 21, 4, 23, 69, 71, 5] := by
  unfold SliceCells
  kernel_rfl

theorem agg8 {cs : Array Value} {c0 c1 c2 c3 c4 c5 c6 c7 : Value} (h : cs.size = 8) (h0 : cs.toList[0]? = some c0) (h1 : cs.toList[1]? = some c1) (h2 : cs.toList[2]? = some c2) (h3 : cs.toList[3]? = some c3)
    (h4 : cs.toList[4]? = some c4) (h5 : cs.toList[5]? = some c5) (h6 : cs.toList[6]? = some c6) (h7 : cs.toList[7]? = some c7) : Value.agg cs = .agg #[c0, c1, c2, c3, c4, c5, c6, c7] := by
  congr 1
  obtain ⟨l⟩ := cs
  match l, h with
  | [d0, d1, d2, d3, d4, d5, d6, d7], _ => simp_all

theorem contract (H : Type) (enc : TypeId × Value → H) (W : World) (base : Nat) (args : Array Value) (ds gs : List (DataW H)) (before : List MemPlace)
    (hval : ∀ (j : Nat) t v, Try.f3.params[j]? = some t → args[j]? = some v → Value.okWide Try.prog W .any base t v)
    (hW : DataW.Whole enc Try.prog Try.f3.params.toList Rows.scopeNestedSpec.vars false W args.toList ds gs before) (hk : Rows.uptoSmall H (ds ++ gs) = true) :
    Calls Try.prog 3 args W fun e W' => ∃ v, e = .returned v ∧ Rows.scopeNestedSpec.post enc Try.prog Try.f3 false true false false W args v W' := by
  have hW' := hW
  obtain ⟨p, q, hA0, hV, rfl, hfz, hnd⟩ := hW
  have hA : DataW.TrodAll enc Try.prog W 0 (fun _ => true) true Try.f3.params.toList args.toList ds p := hA0
  rw [Try.params3] at hA hval
  obtain ⟨v0, vs0, d0, ds0, p0, q0, hargs, rfl, rfl, h0, r0⟩ := trodAll_cons hA
  obtain ⟨v1, vs1, d1, ds1, p1, q1, rfl, rfl, rfl, h1, r1⟩ := trodAll_cons r0
  obtain ⟨v2, vs2, d2, ds2, p2, q2, rfl, rfl, rfl, h2, r2⟩ := trodAll_cons r1
  obtain ⟨rfl, rfl, rfl⟩ := trodAll_nil r2
  obtain rfl : args = #[v0, v1, v2] := by cases args; simp_all
  obtain ⟨k, rfl, rfl, rfl, wk⟩ := open_int Try.underlying5 (hval 2 5 v2 rfl rfl) h2
  obtain ⟨hk0, hk1⟩ : 0 ≤ k ∧ k ≤ 255 := by simpa [Lit.wf, IntKind.min, IntKind.max, IntKind.signed, IntKind.bits] using wk
  obtain ⟨more, rfl⟩ : ∃ m : Nat, k = m := ⟨k.toNat, by omega⟩
  obtain ⟨rfl, rfl⟩ := trodVars_none hV
  have hb := bulks.bound hk
  have hb0 := bulks.part_le (d := d0) (l := [d0, d1, .lit (.int .u8 more)] ++ []) (by simp)
  have hb1 := bulks.part_le (d := d1) (l := [d0, d1, .lit (.int .u8 more)] ++ []) (by simp)
  obtain ⟨m, hm⟩ := h0
  obtain ⟨v, script, hcs, hop⟩ := rd_script hm (Nat.le_trans hb0 hb)
  obtain ⟨A, n, c, rfl⟩ := okWide_slice Try.underlying22 (hval 0 22 v0 rfl rfl)
  obtain rfl : Value.slice A n c = v := by simpa [Value.cells] using hcs
  obtain ⟨m1, hm1⟩ := h1
  obtain ⟨z, pv, hp, q0, q1, q2, q3, q4, q5, q6, q7⟩ := rd_ob hm1 (Nat.le_trans hb1 hb)
  obtain rfl : v1 = obV z pv := by
    have ho := hval 1 25 v1 rfl rfl
    unfold Value.okWide at ho
    rw [Try.underlying25] at ho
    obtain ⟨cs, rfl, hcz, _⟩ := ho
    rw [c25] at hcz
    exact agg8 hcz q0 q1 q2 q3 q4 q5 q6 q7
  refine (f3_any z more (by omega) hop hp).mono ?_
  rintro e W' ⟨rfl, hB⟩
  exact ⟨_, rfl, post_below cells (by rw [Try.params3]; simp) hW' rfl (fun _ _ _ => (trodAll_cons_mk (shut_bool Try.underlying4 _) trodAll_mk0)) rfl rfl hB (ok_one (by kernel_rfl) rfl (okWide_bool_mk Try.underlying4 _))⟩

set_option maxRecDepth 100000 in
theorem lifted (os : Os) (started : os.Started) (H : Type) (enc : TypeId × Value → H) (F : Stop.Interp) :
    ReturnsInHanded {} Try.checked os 3 .any ((Rows.OpenSpec.upto Rows.scopeNestedSpec).pre6 enc Try.prog Try.f3 Rows.scopeNestedUptoRow.domain false) (((Rows.OpenSpec.upto Rows.scopeNestedSpec).at F).post enc Try.prog Try.f3 false true false false) := by
  refine returnsInHanded_of_cond (C := Try.checked) (s := Rows.OpenSpec.upto Rows.scopeNestedSpec) (k := Rows.uptoSmall) rfl own started (by kernel_rfl) Try.func3
    (OpenSpec.witness (enc := enc) (C := Try.checked) (s := Rows.OpenSpec.upto Rows.scopeNestedSpec) (k := Rows.uptoSmall) rfl false ⟨#[], #[.slice none 0 0, .agg #[.string ⟨#[]⟩, .int .i64 0, .int .i64 0, .int .i64 0, .int .i32 0, .int .i64 0, .bool false, .slice none 0 0], .int .u8 0], []⟩ 8 (by kernel_rfl) (by kernel_rfl) (by kernel_rfl)
      (x := ([.nil, .agg [.lit (.string []), .lit (.int .i64 0), .lit (.int .i64 0), .lit (.int .i64 0), .lit (.int .i32 0), .lit (.int .i64 0), .lit (.bool false), .nil], .lit (.int .u8 0)], [], [])) (by kernel_rfl) rfl (by kernel_rfl)) ?_
  intro W base args ds gs before hval hW _ hk _
  exact contract H enc W base args ds gs before hval hW hk

theorem over : Rows.scopeNestedUptoRow.holds Try.pinned (Rows.OpenSpec.upto Rows.scopeNestedSpec) :=
  OpenClaim.holds_of_cond 3 Try.f3 rfl rfl rfl rfl rfl rfl rfl ⟨rfl, rfl, rfl, rfl, rfl⟩ rfl rfl rfl rfl rfl (by kernel_rfl) Try.func3 (by kernel_rfl)
    (of_decide_eq_true (by kernel_rfl)) (by unfold Func.isWrapper; first | (rw [if_pos (by decide +kernel)]; kernel_rfl) | (rw [if_neg (by decide +kernel)]; exact ⟨rfl, rfl⟩))
    (fun os started H enc _ F => lifted os started H enc F)

theorem proved : Rows.ScopeNestedUptoSaid := over
end Go.Proofs.Ytengenceelmijaa.scopeNested
