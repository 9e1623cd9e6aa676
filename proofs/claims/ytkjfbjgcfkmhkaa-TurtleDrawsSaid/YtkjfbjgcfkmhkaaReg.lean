/- A region that draws its order, walked in an order of our own: what only reads is taken first, in every world that meets S; what is left comes up one at a time. Behind the operations of T, which wait for all that is taken first, S is not asked for. After the library's own OrdersHeld. -/
import Derived.OrdersHeld
import Derived.StillTail
import Derived.Deep.RegionHeld3
import Derived.WalkKit
import Derived.KernelRfl
namespace Go.Proofs.Ytkjfbjgcfkmhkaa
open Go.RowKit
set_option linter.unusedVariables false

section
variable {P : Program} {ops : Array Oper} {Q : Exit → Act → World → Prop} {S : World → Prop} {T : List Nat}

/-- Whatever order is picked from here on, and S holds behind each operation that is not of T. -/
def wpG (P : Program) (ops : Array Oper) (Q : Exit → Act → World → Prop) (S : World → Prop) (T : List Nat) : Nat → Array Bool → Act → World → Prop
  | 0, listed, a, w => Region.ready .any ops listed = [] ∧ Q .normal a w
  | fuel + 1, listed, a, w =>
    (Region.ready .any ops listed = [] → Q .normal a w) ∧
    ∀ i ∈ Region.ready .any ops listed, wpOp P ops Q i (fun a' w' => (i ∉ T → S w') ∧ wpG P ops Q S T fuel (listed.setIfInBounds i true) a' w') a w

theorem wpAny_of_G : ∀ (fuel : Nat) (listed : Array Bool) (a : Act) (w : World), wpG P ops Q S T fuel listed a w → wpAny P .any ops Q fuel listed a w
  | 0, _, _, _, h => h
  | fuel + 1, _, _, _, h => ⟨h.1, fun i hi => wpOp_mono (fun a' w' h' => wpAny_of_G fuel _ a' w' h'.2) (h.2 i hi)⟩

theorem wpG_first {i : Nat} {oi : Oper} {v : Value} (hi : ops[i]? = some oi) (hsel : ∀ (j : Nat) (o : Oper) cs b, ops[j]? = some o → o.op ≠ .select cs b)
    (hQ : ∀ c a w, Q (.panic c) (a.put oi.dst v) w → Q (.panic c) a w) (hT : ∀ t ∈ T, t = i ∨ Region.waitsFor .any ops t i = true) :
    ∀ (fuel : Nat) (listed : Array Bool) (a : Act) (w : World),
      (∀ j oj, ops[j]? = some oj → j ≠ i → listed.getD j true = false → (∀ e ∈ oj.after, Region.binds .any e = true → e.on ≠ i) → oi.apart ops oj = true) →
      i ∈ Region.ready .any ops listed → YieldsIf P ops S oi v a → S w →
      wpG P ops Q S T fuel (listed.setIfInBounds i true) (a.put oi.dst v) w → wpG P ops Q S T (fuel + 1) listed a w := by
  intro fuel
  induction fuel with
  | zero =>
    intro listed a w _ hr hy hS H
    refine ⟨fun h => (by rw [h] at hr; cases hr), fun j hj => ?_⟩
    by_cases hji : j = i
    · subst hji; exact hy.wpOp hi hS ⟨fun _ => hS, H⟩
    · have := ready_mono hj hji
      rw [H.1] at this
      cases this
  | succ fuel ih =>
    intro listed a w hfree hr hy hS H
    refine ⟨fun h => (by rw [h] at hr; cases hr), fun j hj => ?_⟩
    by_cases hji : j = i
    · subst hji; exact hy.wpOp hi hS ⟨fun _ => hS, H⟩
    · have h1 := H.2 j (ready_mono hj hji)
      obtain ⟨hjun, oj, hoj, hall⟩ := mem_ready.1 hj
      have hnot : ∀ e ∈ oj.after, Region.binds .any e = true → e.on ≠ i := fun e he hb heq => by
        have h1 := hall e he hb
        have h0 := (mem_ready.1 hr).1
        rw [heq] at h1
        rcases Nat.lt_or_ge i listed.size with h' | h'
        · simp [h'] at h0 h1; rw [h0] at h1; cases h1
        · simp [Array.getElem?_eq_none h'] at h1
      have hjT : j ∉ T := fun hm => by
        rcases hT j hm with e | e
        · exact hji e
        · obtain ⟨oj', ho', e, he, hb, hon⟩ := Region.waitsFor_spec e
          have : oj' = oj := Option.some.inj (ho'.symm.trans hoj)
          subst this
          exact hnot e he hb hon
      have h2 := wpOp_putIf hoj (hfree j oj hoj hji hjun hnot) (fun cs b => hsel i oi cs b hi) (fun cs b => hsel j oj cs b hoj) hQ hy h1
      have hfree' : ∀ k ok, ops[k]? = some ok → k ≠ i → (listed.setIfInBounds j true).getD k true = false →
          (∀ e ∈ ok.after, Region.binds .any e = true → e.on ≠ i) → oi.apart ops ok = true := fun k ok hk hki hun hno => by
        refine hfree k ok hk hki ?_ hno
        by_cases hjk : j = k
        · subst hjk; exact hjun
        · rw [getD_set_ne true hjk] at hun; exact hun
      refine wpOp_mono (fun a' w' h3 => ⟨fun _ => h3.2.1 hjT, ih (listed.setIfInBounds j true) a' w' hfree' (ready_mono hr (Ne.symm hji)) h3.1 (h3.2.1 hjT) ?_⟩) h2
      rw [Array.setIfInBounds_comm _ _ hji]
      exact h3.2.2

/-! ### Many at once -/
/-- These may be taken one behind the other. -/
def takesOk (ops : Array Oper) (T : List Nat) : Array Bool → List Nat → Bool
  | _, [] => true
  | listed, i :: is => (Region.ready .any ops listed).contains i && Region.free .any ops listed i && T.all (fun t => t == i || Region.waitsFor .any ops t i) && (ops[i]?).isSome && takesOk ops T (listed.setIfInBounds i true) is

def takesSet : Array Bool → List Nat → Array Bool
  | listed, [] => listed
  | listed, i :: is => takesSet (listed.setIfInBounds i true) is

/-- Each of them reads its value in every world that meets S. -/
def wpPure (P : Program) (ops : Array Oper) (S : World → Prop) (K : Act → Prop) : List Oper → Act → Prop
  | [], a => K a
  | o :: rest, a => ∃ v, YieldsIf P ops S o v a ∧ wpPure P ops S K rest (a.put o.dst v)

theorem wpPure_nil {K : Act → Prop} {a : Act} (h : K a) : wpPure P ops S K [] a := h
theorem wpPure_plain {K : Act → Prop} {a : Act} {o : Oper} {rest : List Oper} {v : Value} (hg : o.guard = none) (hy : ∀ x, S x → (execOp a.eval o).run P x = .ok (.value v) x)
    (h : wpPure P ops S K rest (a.put o.dst v)) : wpPure P ops S K (o :: rest) a := ⟨v, .inl ⟨by simp [Region.wanted, hg], hy⟩, h⟩
theorem wpPure_want {K : Act → Prop} {a : Act} {o : Oper} {rest : List Oper} {v : Value} (hg : Region.wanted o (yielded ops a.tmps) = true) (hy : ∀ x, S x → (execOp a.eval o).run P x = .ok (.value v) x)
    (h : wpPure P ops S K rest (a.put o.dst v)) : wpPure P ops S K (o :: rest) a := ⟨v, .inl ⟨hg, hy⟩, h⟩
theorem wpPure_skip {K : Act → Prop} {a : Act} {o : Oper} {rest : List Oper} (hg : Region.wanted o (yielded ops a.tmps) = false)
    (h : wpPure P ops S K rest (a.put o.dst undef)) : wpPure P ops S K (o :: rest) a := ⟨undef, .inr ⟨hg, rfl⟩, h⟩

theorem wpG_takes (hQ : ∀ c a w o v, Q (.panic c) (a.put o v) w → Q (.panic c) a w) (hs : Region.noSelect ops = true) {fuel : Nat} {w : World} (hS : S w) :
    ∀ (is : List Nat) (listed : Array Bool) (a : Act), takesOk ops T listed is = true →
      wpPure P ops S (fun a' => wpG P ops Q S T fuel (takesSet listed is) a' w) (is.filterMap fun i => ops[i]?) a → wpG P ops Q S T (is.length + fuel) listed a w
  | [], listed, a, _, h => by rw [List.length_nil, Nat.zero_add]; exact h
  | i :: is, listed, a, hk, h => by
    simp only [takesOk, Bool.and_eq_true] at hk
    obtain ⟨⟨⟨⟨h1, h2⟩, h3⟩, h4⟩, h5⟩ := hk
    obtain ⟨oi, hoi⟩ := Option.isSome_iff_exists.1 h4
    rw [List.filterMap_cons, hoi] at h
    obtain ⟨v, hy, h⟩ := h
    rw [show (i :: is).length + fuel = (is.length + fuel) + 1 by simp; omega]
    exact wpG_first hoi (Region.noSelect_spec hs) (fun c a w => hQ c a w _ _) (fun t ht => by
      have := List.all_eq_true.1 h3 t ht
      simpa using this) _ listed a w (Region.free_spec hoi h2) (by simpa using h1) hy hS (wpG_takes hQ hs hS is _ _ h5 h)

theorem range_ops {l : List Oper} : ∀ (m k : Nat), k + m ≤ l.length → (List.range' k m).filterMap (fun i => l.toArray[i]?) = (l.drop k).take m
  | 0, k, _ => by simp
  | m + 1, k, h => by
    have hk : k < l.length := by omega
    rw [List.range'_succ, List.filterMap_cons, List.getElem?_toArray, List.getElem?_eq_getElem hk]
    simp only []
    rw [range_ops m (k + 1) (by omega), List.drop_eq_getElem_cons hk, List.take_succ_cons]

/-- Those from number k on, m of them, are taken first. -/
theorem wpG_range {l : List Oper} {n : Nat} {listed : Array Bool} {a : Act} {w : World} (k m fuel : Nat) (hs : Region.noSelect l.toArray = true) (hf : n = m + fuel) (hk : takesOk l.toArray T listed (List.range' k m) = true)
    (hle : k + m ≤ l.length) (hS : S w) (h : ∀ K : Act → Prop, (∀ a', wpG P l.toArray (NoPanic Q) S T fuel (takesSet listed (List.range' k m)) a' w → K a') → wpPure P l.toArray S K ((l.drop k).take m) a) : wpG P l.toArray (NoPanic Q) S T n listed a w := by
  have := wpG_takes (Q := NoPanic Q) (fuel := fuel) (fun _ _ _ _ _ h => (h : False).elim) hs hS (List.range' k m) listed a hk (by rw [range_ops m k hle]; exact h _ fun _ h => h)
  rw [List.length_range'] at this
  rw [hf]; exact this

/-- What follows where an operation ends as it should. -/
def Cont (K : Act → World → Prop) (Q : Exit → Act → World → Prop) : Exit → Act → World → Prop
  | .normal, a, w => K a w
  | e, a, w => Q e a w
theorem Cont.mk {K : Act → World → Prop} {a : Act} {w : World} (h : K a w) : Cont K Q .normal a w := h

/-- One alone may come up: it is walked as an operation of a region that asks for no order. -/
theorem wpG_one {o : Oper} {n : Nat} {listed : Array Bool} {a : Act} {w : World} (i fuel : Nat) (hf : n = fuel + 1) (hr : Region.ready .any ops listed = [i]) (ho : ops[i]? = some o)
    (h : wpList P ops (Cont (fun a' w' => (i ∉ T → S w') ∧ wpG P ops Q S T fuel (listed.setIfInBounds i true) a' w') Q) [o] a w) :
    wpG P ops Q S T n listed a w := by
  subst hf
  refine ⟨fun h0 => (by rw [hr] at h0; cases h0), fun j hj => ?_⟩
  rw [hr] at hj
  obtain rfl : j = i := by simpa using hj
  unfold wpOp
  simp only [ho]
  unfold wpList at h
  split at h
  · rename_i hw
    rw [if_pos hw]
    rcases h with h | ⟨h1, h2⟩
    · refine .inl ?_
      unfold Oper.wp at h ⊢
      generalize (execOp a.eval o).run P w = r at *
      cases r with
      | ok n w' =>
        cases n <;> simp only [Oper.upon, wpList, Cont] at h ⊢ <;>
          first
            | exact h
            | exact Calls.mono h (fun e w'' he => by cases e <;> exact he)
      | halt x w' => cases x <;> simp only [Oper.upon, Cont] at h ⊢ <;> exact h
    · exact .inr ⟨h1, h2⟩
  · rename_i hw
    rw [if_neg hw]
    exact h

theorem wpG_done {listed : Array Bool} {a : Act} {w : World} (hr : Region.ready .any ops listed = []) (h : Q .normal a w) : ∀ fuel, wpG P ops Q S T fuel listed a w
  | 0 => ⟨hr, h⟩
  | _ + 1 => ⟨fun _ => h, by rw [hr]; simp⟩

theorem wp_region_G {id : Nat} {a : Act} {w : World} (S : World → Prop) (T : List Nat) (hm : P.follows .mixedOrders = true)
    (h : wpG P ops (NoPanic Q) S T ops.size (Array.replicate ops.size false) a w.drew) : (Code.region id ops true).wp P Q a w :=
  wp_region_noPanic (wp_region_any hm (wpAny_of_G _ _ _ _ h))
end
end Go.Proofs.Ytkjfbjgcfkmhkaa
