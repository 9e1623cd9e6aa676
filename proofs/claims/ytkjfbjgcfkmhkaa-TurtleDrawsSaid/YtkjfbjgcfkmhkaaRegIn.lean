/- A region that draws its order, inside a fence, walked in an order of our own: after the texts Reg (own) and the library's OrdersIn. -/
import Derived.Test.YtkjfbjgcfkmhkaaReg
import Derived.OrdersIn
import Derived.TacticsIn
import Derived.OwnWalkIn
namespace Go.Proofs.Ytkjfbjgcfkmhkaa
open Go.RowKit
set_option linter.unusedVariables false

section
variable {F : Fence} {n : Nat} {P : Program} {ops : Array Oper} {Q : Exit → Act → World → Prop} {S : World → Prop} {T : List Nat}

def wpGIn (F : Fence) (n : Nat) (P : Program) (ops : Array Oper) (Q : Exit → Act → World → Prop) (S : World → Prop) (T : List Nat) : Nat → Array Bool → Act → World → Prop
  | 0, listed, a, w => Region.ready .any ops listed = [] ∧ Q .normal a w
  | fuel + 1, listed, a, w =>
    (Region.ready .any ops listed = [] → Q .normal a w) ∧
    ∀ i ∈ Region.ready .any ops listed, wpOpIn F n P ops Q i (fun a' w' => (i ∉ T → S w') ∧ wpGIn F n P ops Q S T fuel (listed.setIfInBounds i true) a' w') a w

theorem wpAnyIn_of_G : ∀ (fuel : Nat) (listed : Array Bool) (a : Act) (w : World), wpGIn F n P ops Q S T fuel listed a w → wpAnyIn F n P .any ops Q fuel listed a w
  | 0, _, _, _, h => h
  | fuel + 1, _, _, _, h => ⟨h.1, fun i hi => wpOpIn_mono (fun a' w' h' => wpAnyIn_of_G fuel _ a' w' h'.2) (h.2 i hi)⟩

/-- No defer statement among them. -/
def noDefer (ops : Array Oper) : Bool := ops.all fun o => match o.op with | .defer _ => false | _ => true
theorem noDefer_spec (h : noDefer ops = true) (j : Nat) (o : Oper) (c : Call) (ho : ops[j]? = some o) : o.op ≠ .defer c := by
  intro heq
  have := Array.all_eq_true_iff_forall_mem.1 h o (Array.mem_of_getElem? ho)
  simp [heq] at this

/-- It yields in every world that meets S, and is about to make no call. -/
def YieldsFIf (P : Program) (ops : Array Oper) (S : World → Prop) (o : Oper) (v : Value) (a : Act) : Prop := YieldsIf P ops S o v a ∧ ∀ w, o.about P w a.eval = none

theorem YieldsFIf.wpOpIn {i : Nat} {o : Oper} {v : Value} {a : Act} (hro : noDefer ops = true) (hi : ops[i]? = some o) (hy : YieldsFIf P ops S o v a)
    {K : Act → World → Prop} {w : World} (hS : S w) (h : K (a.put o.dst v) w) : wpOpIn F n P ops Q i K a w := by
  unfold Go.wpOpIn
  simp only [hi]
  have hab : ∀ f, o.about P w a.eval = some f → F.fn f := fun f hf => by rw [hy.2 w] at hf; cases hf
  rcases hy.1 with ⟨hw, hv⟩ | ⟨hw, rfl⟩
  · simp only [hw, if_true, Oper.wpIn, Oper.semAt_plain F _ _ (fun c => noDefer_spec hro _ _ c hi), hv w hS, Oper.uponIn]; exact ⟨hab, h⟩
  · simp only [hw, Bool.false_eq_true, if_false]; exact ⟨hab, h⟩

theorem YieldsFIf.of_same {o : Oper} {v : Value} {a a' : Act} (hy : YieldsFIf P ops S o v a) (he : execOp a'.eval o = execOp a.eval o)
    (hw : Region.wanted o (yielded ops a'.tmps) = Region.wanted o (yielded ops a.tmps)) (hb : ∀ w, o.about P w a'.eval = o.about P w a.eval) : YieldsFIf P ops S o v a' :=
  ⟨hy.1.of_same he hw, fun w => by rw [hb w]; exact hy.2 w⟩

theorem wpOpIn_putIf {j : Nat} {oi oj : Oper} {v : Value} (hro : noDefer ops = true) (hj : ops[j]? = some oj) (hap : oi.apart ops oj = true)
    (hsi : ∀ cs b, oi.op ≠ .select cs b) (hsj : ∀ cs b, oj.op ≠ .select cs b)
    (hQ : ∀ c a w, Q (.panic c) (a.put oi.dst v) w → Q (.panic c) a w) {K : Act → World → Prop} {a : Act} {w : World}
    (hy : YieldsFIf P ops S oi v a) (h : wpOpIn F n P ops Q j K (a.put oi.dst v) w) :
    wpOpIn F n P ops Q j (fun a' w' => YieldsFIf P ops S oi v a' ∧ K (a'.put oi.dst v) w') a w := by
  obtain ⟨h1, h2, h3⟩ := Oper.apart_spec hap
  have hnd := fun c => noDefer_spec hro _ _ c hj
  have keep : ∀ (a : Act), YieldsFIf P ops S oi v a → ∀ u, YieldsFIf P ops S oi v (a.put oj.dst u) := fun a hy u =>
    hy.of_same (execOp_put oi hsi a oj.dst u h3) (wanted_put oi a oj.dst u h3) (fun w => about_put oi w a oj.dst u h3)
  have keepD : ∀ d, YieldsFIf P ops S oi v { a with defers := d :: a.defers } := fun d => hy.of_same rfl rfl (fun _ => rfl)
  unfold wpOpIn at *
  simp only [hj] at *
  rw [wanted_put oj a oi.dst v h1, about_put oj w a oi.dst v h1] at h
  split
  · rename_i hw
    simp only [hw, if_true] at h
    unfold Oper.wpIn at *
    rw [about_put oj w a oi.dst v h1] at h
    refine ⟨h.1, ?_⟩
    have h := h.2
    rw [Oper.semAt_plain F _ _ hnd, execOp_put oj hsj a oi.dst v h1] at h
    rw [Oper.semAt_plain F _ _ hnd]
    generalize (execOp a.eval oj).run P w = r at *
    cases r with
    | ok x w' =>
      cases x <;> simp only [Oper.uponIn] at h ⊢
      case value u => exact ⟨keep a hy u, by rw [← Act.put_comm a v u h2]; exact h⟩
      case skip => exact ⟨keep a hy _, by rw [← Act.put_comm a v undef h2]; exact h⟩
      case defer d =>
        refine ⟨keep _ (keepD d) _, ?_⟩
        rw [← Act.put_comm _ v undef h2, ← Act.put_defers]
        exact h
      case enter f args =>
        refine ⟨h.1, CallsIn.mono h.2 fun e w'' he => ?_⟩
        cases e with
        | returned u => exact ⟨keep a hy u, by rw [← Act.put_comm a v u h2]; exact he⟩
        | panicked c => exact hQ _ _ _ he
        | outgrown => exact he
      case row row args => exact ⟨h.1, RowsIn.mono h.2 fun u w'' he => ⟨keep a hy u, by rw [← Act.put_comm a v u h2]; exact he⟩⟩
      case round l f tmps assign body =>
        refine ⟨h.1, RoundIn.mono h.2 fun e w'' he => ?_⟩
        cases e with
        | returned u => exact ⟨keep a hy u, by rw [← Act.put_comm a v u h2]; exact he⟩
        | panicked c => exact hQ _ _ _ he
        | outgrown => exact he
    | halt x w' =>
      cases x <;> simp only [Oper.uponIn] at h ⊢
      case panic u => exact hQ _ _ _ h
  · rename_i hw
    simp only [hw] at h
    exact ⟨h.1, keep a hy _, by rw [← Act.put_comm a v undef h2]; exact h.2⟩

/-- t waits for i, by way of what is not yet listed. -/
inductive WaitC (ops : Array Oper) (listed : Array Bool) : Nat → Nat → Prop
  | one {t i : Nat} : Region.waitsFor .any ops t i = true → WaitC ops listed t i
  | more {t m i : Nat} : Region.waitsFor .any ops t m = true → listed.getD m true = false → WaitC ops listed m i → WaitC ops listed t i

def waitsB (ops : Array Oper) (listed : Array Bool) : Nat → Nat → Nat → Bool
  | 0, t, i => Region.waitsFor .any ops t i
  | fuel + 1, t, i => Region.waitsFor .any ops t i || (List.range ops.size).any fun m => Region.waitsFor .any ops t m && !(listed.getD m true) && waitsB ops listed fuel m i

theorem waitsB_spec {listed : Array Bool} : ∀ (fuel t i : Nat), waitsB ops listed fuel t i = true → WaitC ops listed t i
  | 0, _, _, h => .one h
  | fuel + 1, t, i, h => by
    simp only [waitsB, Bool.or_eq_true, List.any_eq_true, Bool.and_eq_true, Bool.not_eq_true'] at h
    rcases h with h | ⟨m, _, ⟨h1, h2⟩, h3⟩
    · exact .one h
    · exact .more h1 h2 (waitsB_spec fuel m i h3)

theorem waits_not {listed : Array Bool} {j m : Nat} (hj : j ∈ Region.ready .any ops listed) (hw : Region.waitsFor .any ops j m = true) (hm : listed.getD m true = false) : False := by
  obtain ⟨_, oj, hoj, hall⟩ := mem_ready.1 hj
  obtain ⟨oj', ho', e, he, hb, hon⟩ := Region.waitsFor_spec hw
  have : oj' = oj := Option.some.inj (ho'.symm.trans hoj)
  subst this
  have h1 := hall e he hb
  rw [hon] at h1
  rcases Nat.lt_or_ge m listed.size with h' | h'
  · simp [h'] at hm h1; rw [hm] at h1; cases h1
  · simp [Array.getElem?_eq_none h'] at hm

theorem WaitC.not {listed : Array Bool} {j i : Nat} (h : WaitC ops listed j i) (hj : j ∈ Region.ready .any ops listed) (hi : listed.getD i true = false) : False := by
  cases h with
  | one h => exact waits_not hj h hi
  | more h h' _ => exact waits_not hj h h'

theorem WaitC.set {listed : Array Bool} {j t i : Nat} (h : WaitC ops listed t i) (hj : j ∈ Region.ready .any ops listed) (hi : listed.getD i true = false) : WaitC ops (listed.setIfInBounds j true) t i := by
  induction h with
  | one h => exact .one h
  | more h h' hc ih =>
    refine .more h ?_ (ih hi)
    rw [getD_set_ne true]
    · exact h'
    · rintro rfl
      exact hc.not hj hi

theorem wpGIn_first {i : Nat} {oi : Oper} {v : Value} (hro : noDefer ops = true) (hi : ops[i]? = some oi) (hsel : ∀ (j : Nat) (o : Oper) cs b, ops[j]? = some o → o.op ≠ .select cs b)
    (hQ : ∀ c a w, Q (.panic c) (a.put oi.dst v) w → Q (.panic c) a w)   :
    ∀ (fuel : Nat) (listed : Array Bool) (a : Act) (w : World),
      (∀ j oj, ops[j]? = some oj → j ≠ i → listed.getD j true = false → (∀ e ∈ oj.after, Region.binds .any e = true → e.on ≠ i) → oi.apart ops oj = true) →
      (∀ t ∈ T, t = i ∨ WaitC ops listed t i) →
      i ∈ Region.ready .any ops listed → YieldsFIf P ops S oi v a → S w →
      wpGIn F n P ops Q S T fuel (listed.setIfInBounds i true) (a.put oi.dst v) w → wpGIn F n P ops Q S T (fuel + 1) listed a w := by
  intro fuel
  induction fuel with
  | zero =>
    intro listed a w _ hT hr hy hS H
    refine ⟨fun h => (by rw [h] at hr; cases hr), fun j hj => ?_⟩
    by_cases hji : j = i
    · subst hji; exact hy.wpOpIn hro hi hS ⟨fun _ => hS, H⟩
    · have := ready_mono hj hji
      rw [H.1] at this
      cases this
  | succ fuel ih =>
    intro listed a w hfree hT hr hy hS H
    refine ⟨fun h => (by rw [h] at hr; cases hr), fun j hj => ?_⟩
    by_cases hji : j = i
    · subst hji; exact hy.wpOpIn hro hi hS ⟨fun _ => hS, H⟩
    · have h1 := H.2 j (ready_mono hj hji)
      obtain ⟨hjun, oj, hoj, hall⟩ := mem_ready.1 hj
      have hnot : ∀ e ∈ oj.after, Region.binds .any e = true → e.on ≠ i := fun e he hb heq => by
        have h1 := hall e he hb
        have h0 := (mem_ready.1 hr).1
        rw [heq] at h1
        rcases Nat.lt_or_ge i listed.size with h' | h'
        · simp [h'] at h0 h1; rw [h0] at h1; cases h1
        · simp [Array.getElem?_eq_none h'] at h1
      have hjT : j ∉ T := fun hm => by
        rcases hT j hm with e | e
        · exact hji e
        · exact e.not hj (mem_ready.1 hr).1
      have h2 := wpOpIn_putIf hro hoj (hfree j oj hoj hji hjun hnot) (fun cs b => hsel i oi cs b hi) (fun cs b => hsel j oj cs b hoj) hQ hy h1
      have hfree' : ∀ k ok, ops[k]? = some ok → k ≠ i → (listed.setIfInBounds j true).getD k true = false →
          (∀ e ∈ ok.after, Region.binds .any e = true → e.on ≠ i) → oi.apart ops ok = true := fun k ok hk hki hun hno => by
        refine hfree k ok hk hki ?_ hno
        by_cases hjk : j = k
        · subst hjk; exact hjun
        · rw [getD_set_ne true hjk] at hun; exact hun
      have hT' : ∀ t ∈ T, t = i ∨ WaitC ops (listed.setIfInBounds j true) t i := fun t ht => (hT t ht).imp_right fun h => h.set hj (mem_ready.1 hr).1
      refine wpOpIn_mono (fun a' w' h3 => ⟨fun _ => h3.2.1 hjT, ih (listed.setIfInBounds j true) a' w' hfree' hT' (ready_mono hr (Ne.symm hji)) h3.1 (h3.2.1 hjT) ?_⟩) h2
      rw [Array.setIfInBounds_comm _ _ hji]
      exact h3.2.2

/-- These may be taken one behind the other. -/
def takesOkIn (ops : Array Oper) (T : List Nat) : Array Bool → List Nat → Bool
  | _, [] => true
  | listed, i :: is => (Region.ready .any ops listed).contains i && Region.free .any ops listed i && T.all (fun t => t == i || waitsB ops listed 6 t i) && (ops[i]?).isSome && takesOkIn ops T (listed.setIfInBounds i true) is

/-- Each of them reads its value in every world that meets S, and calls nobody. -/
def wpPureIn (P : Program) (ops : Array Oper) (S : World → Prop) (K : Act → Prop) : List Oper → Act → Prop
  | [], a => K a
  | o :: rest, a => ∃ v, YieldsFIf P ops S o v a ∧ wpPureIn P ops S K rest (a.put o.dst v)

theorem wpPureIn_nil {K : Act → Prop} {a : Act} (h : K a) : wpPureIn P ops S K [] a := h
theorem wpPureIn_plain {K : Act → Prop} {a : Act} {o : Oper} {rest : List Oper} {v : Value} (hg : o.guard = none) (ha : ∀ w, o.about P w a.eval = none) (hy : ∀ x, S x → (execOp a.eval o).run P x = .ok (.value v) x)
    (h : wpPureIn P ops S K rest (a.put o.dst v)) : wpPureIn P ops S K (o :: rest) a := ⟨v, ⟨.inl ⟨by simp [Region.wanted, hg], hy⟩, ha⟩, h⟩

theorem wpGIn_takes (hro : noDefer ops = true) (hQ : ∀ c a w o v, Q (.panic c) (a.put o v) w → Q (.panic c) a w) (hs : Region.noSelect ops = true) {fuel : Nat} {w : World} (hS : S w) :
    ∀ (is : List Nat) (listed : Array Bool) (a : Act), takesOkIn ops T listed is = true →
      wpPureIn P ops S (fun a' => wpGIn F n P ops Q S T fuel (takesSet listed is) a' w) (is.filterMap fun i => ops[i]?) a → wpGIn F n P ops Q S T (is.length + fuel) listed a w
  | [], listed, a, _, h => by rw [List.length_nil, Nat.zero_add]; exact h
  | i :: is, listed, a, hk, h => by
    simp only [takesOkIn, Bool.and_eq_true] at hk
    obtain ⟨⟨⟨⟨h1, h2⟩, h3⟩, h4⟩, h5⟩ := hk
    obtain ⟨oi, hoi⟩ := Option.isSome_iff_exists.1 h4
    rw [List.filterMap_cons, hoi] at h
    obtain ⟨v, hy, h⟩ := h
    rw [show (i :: is).length + fuel = (is.length + fuel) + 1 by simp; omega]
    exact wpGIn_first hro hoi (Region.noSelect_spec hs) (fun c a w => hQ c a w _ _) _ listed a w (Region.free_spec hoi h2) (fun t ht => by
      have := List.all_eq_true.1 h3 t ht
      simp only [Bool.or_eq_true, beq_iff_eq] at this
      exact this.imp_right (waitsB_spec _ _ _)) (by simpa using h1) hy hS (wpGIn_takes hro hQ hs hS is _ _ h5 h)

/-- Those from number k on, m of them, are taken first. -/
theorem wpGIn_range {l : List Oper} {N : Nat} {listed : Array Bool} {a : Act} {w : World} (k m fuel : Nat) (hro : noDefer l.toArray = true) (hs : Region.noSelect l.toArray = true) (hf : N = m + fuel) (hk : takesOkIn l.toArray T listed (List.range' k m) = true)
    (hle : k + m ≤ l.length) (hS : S w) (h : ∀ K : Act → Prop, (∀ a', wpGIn F n P l.toArray (NoPanic Q) S T fuel (takesSet listed (List.range' k m)) a' w → K a') → wpPureIn P l.toArray S K ((l.drop k).take m) a) : wpGIn F n P l.toArray (NoPanic Q) S T N listed a w := by
  have := wpGIn_takes (Q := NoPanic Q) (fuel := fuel) hro (fun _ _ _ _ _ h => (h : False).elim) hs hS (List.range' k m) listed a hk (by rw [range_ops m k hle]; exact h _ fun _ h => h)
  rw [List.length_range'] at this
  rw [hf]; exact this

/-- One alone may come up: it is walked as an operation of a region that asks for no order. -/
theorem wpGIn_one {o : Oper} {N : Nat} {listed : Array Bool} {a : Act} {w : World} (i fuel : Nat) (hf : N = fuel + 1) (hr : Region.ready .any ops listed = [i]) (ho : ops[i]? = some o)
    (h : wpListIn F n P ops (Cont (fun a' w' => (i ∉ T → S w') ∧ wpGIn F n P ops Q S T fuel (listed.setIfInBounds i true) a' w') Q) [o] a w) :
    wpGIn F n P ops Q S T N listed a w := by
  subst hf
  refine ⟨fun h0 => (by rw [hr] at h0; cases h0), fun j hj => ?_⟩
  rw [hr] at hj
  obtain rfl : j = i := by simpa using hj
  unfold wpOpIn
  simp only [ho]
  unfold wpListIn at h
  split at h
  · rename_i hw
    rw [if_pos hw]
    unfold Oper.wpIn at h ⊢
    refine ⟨h.1, ?_⟩
    have h := h.2
    generalize (o.semAt F.round a.eval).run P w = r at *
    cases r with
    | ok n w' =>
      cases n <;> simp only [Oper.uponIn, wpListIn, Cont] at h ⊢ <;>
        first
          | exact h
          | exact ⟨h.1, CallsIn.mono h.2 (fun e w'' he => by cases e <;> exact he)⟩
          | exact ⟨h.1, RoundIn.mono h.2 (fun e w'' he => by cases e <;> exact he)⟩
    | halt x w' => cases x <;> simp only [Oper.uponIn, Cont] at h ⊢ <;> exact h
  · rename_i hw
    rw [if_neg hw]
    exact h

/-- Any of these may come up. -/
theorem wpGIn_all {N : Nat} {listed : Array Bool} {a : Act} {w : World} (rs : List Nat) (fuel : Nat) (hf : N = fuel + 1) (hr : Region.ready .any ops listed = rs) (hne : rs ≠ [])
    (h : ∀ i ∈ rs, ∃ o, ops[i]? = some o ∧ wpListIn F n P ops (Cont (fun a' w' => (i ∉ T → S w') ∧ wpGIn F n P ops Q S T fuel (listed.setIfInBounds i true) a' w') Q) [o] a w) :
    wpGIn F n P ops Q S T N listed a w := by
  subst hf
  refine ⟨fun h0 => absurd (hr ▸ h0) hne, fun i hi => ?_⟩
  rw [hr] at hi
  obtain ⟨o, ho, h⟩ := h i hi
  unfold wpOpIn
  simp only [ho]
  unfold wpListIn at h
  split at h
  · rename_i hw
    rw [if_pos hw]
    unfold Oper.wpIn at h ⊢
    refine ⟨h.1, ?_⟩
    have h := h.2
    generalize (o.semAt F.round a.eval).run P w = r at *
    cases r with
    | ok n w' =>
      cases n <;> simp only [Oper.uponIn, wpListIn, Cont] at h ⊢ <;>
        first
          | exact h
          | exact ⟨h.1, CallsIn.mono h.2 (fun e w'' he => by cases e <;> exact he)⟩
          | exact ⟨h.1, RoundIn.mono h.2 (fun e w'' he => by cases e <;> exact he)⟩
    | halt x w' => cases x <;> simp only [Oper.uponIn, Cont] at h ⊢ <;> exact h
  · rename_i hw
    rw [if_neg hw]
    exact h

theorem wpGIn_done {listed : Array Bool} {a : Act} {w : World} (hr : Region.ready .any ops listed = []) (h : Q .normal a w) : ∀ fuel, wpGIn F n P ops Q S T fuel listed a w
  | 0 => ⟨hr, h⟩
  | _ + 1 => ⟨fun _ => h, by rw [hr]; simp⟩

theorem wpIn_region_G {id : Nat} {a : Act} {w : World} (S : World → Prop) (T : List Nat) (hm : P.follows .mixedOrders = true)
    (h : wpGIn F n P ops (NoPanic Q) S T ops.size (Array.replicate ops.size false) a w.drew) : (Code.region id ops true).wpIn F n P Q a w :=
  Go.wpIn_mono (wpIn_region_any hm (wpAnyIn_of_G _ _ _ _ h)) NoPanic.imp
end
end Go.Proofs.Ytkjfbjgcfkmhkaa
