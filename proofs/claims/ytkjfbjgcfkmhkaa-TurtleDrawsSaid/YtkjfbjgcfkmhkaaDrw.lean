import Derived.Test.YtkjfbjgcfkmhkaaPrs
import Derived.Test.YtkjfbjgcfkmhkaaEv
namespace Go.Proofs.Ytkjfbjgcfkmhkaa
open Go.RowKit Go.Shelf
set_option linter.unusedVariables false
set_option linter.unusedSimpArgs false

/-! ### What is drawn -/
/-- The state, the place of the first pair that cannot be done, and why. -/
def draw (s : St) : List (Int × Int) → St × Nat × Int
  | [] => (s, 0, 0)
  | x :: xs => if (doT s x.1 x.2).2 ≠ 0 then ((doT s x.1 x.2).1, 0, (doT s x.1 x.2).2) else ((draw (doT s x.1 x.2).1 xs).1, (draw (doT s x.1 x.2).1 xs).2.1 + 1, (draw (doT s x.1 x.2).1 xs).2.2)
/-- All of them can be done, and lead there. -/
def Runs (s : St) : List (Int × Int) → St → Prop
  | [], t => s = t
  | x :: xs, t => (doT s x.1 x.2).2 = 0 ∧ Runs (doT s x.1 x.2).1 xs t
theorem Runs.snoc {xs : List (Int × Int)} : ∀ {s t : St} {x : Int × Int}, Runs s xs t → (doT t x.1 x.2).2 = 0 → Runs s (xs ++ [x]) (doT t x.1 x.2).1 := by
  induction xs with
  | nil => rintro s t x rfl h; exact ⟨h, rfl⟩
  | cons y ys ih => rintro s t x ⟨h1, h2⟩ h; exact ⟨h1, ih h2 h⟩
theorem Runs.draw {xs : List (Int × Int)} : ∀ {s t : St}, Runs s xs t → ∀ ys, draw s (xs ++ ys) = ((draw t ys).1, (draw t ys).2.1 + xs.length, (draw t ys).2.2) := by
  induction xs with
  | nil => rintro s t rfl ys; rfl
  | cons y zs ih =>
    rintro s t ⟨h1, h2⟩ ys
    rw [List.cons_append, Ytkjfbjgcfkmhkaa.draw, if_neg (by rw [h1]; simp), ih h2 ys]
    simp; omega
theorem Runs.all {s t : St} {xs : List (Int × Int)} (h : Runs s xs t) : Ytkjfbjgcfkmhkaa.draw s xs = (t, xs.length, 0) := by
  have := h.draw []
  rw [List.append_nil] at this
  rw [this]; simp [Ytkjfbjgcfkmhkaa.draw]
theorem Runs.stop {s t : St} {xs : List (Int × Int)} (h : Runs s xs t) (x : Int × Int) (hx : (doT t x.1 x.2).2 ≠ 0) (ys : List (Int × Int)) :
    Ytkjfbjgcfkmhkaa.draw s (xs ++ x :: ys) = ((doT t x.1 x.2).1, xs.length, (doT t x.1 x.2).2) := by
  rw [h.draw, Ytkjfbjgcfkmhkaa.draw, if_pos hx]; simp
theorem Runs.len {xs : List (Int × Int)} : ∀ {s t : St}, Runs s xs t → t.l.length ≤ s.l.length + xs.length := by
  induction xs with
  | nil => rintro s t rfl; simp
  | cons y ys ih =>
    rintro s t ⟨h1, h2⟩
    have := ih h2
    have := doT_len s y.1 y.2
    simp; omega

/-! ### A turtle in a world -/
theorem TuV.same {F : List Nat} {w w' : World} {p : Nat} {s : St} {a b c d e : Nat} {sv : Value} {cs : List Value} (h : TuV F w p s a b c d e sv cs) (hB : ∀ q ∈ F, w'.heap[q]? = w.heap[q]?) : TuV F w' p s a b c d e sv cs :=
  ⟨(hB p (by rw [h.ft]; simp)).trans h.blk, h.fa, h.fb, h.fc, h.fd, h.fe, ownsRow_same h.ow fun b hb => hB b (by rw [h.ft, hb]; simp), h.sc, h.ft, h.np, h.bd⟩
theorem Tu.same {F : List Nat} {w w' : World} {p : Nat} {s : St} (h : Tu F w p s) (hB : ∀ q ∈ F, w'.heap[q]? = w.heap[q]?) : Tu F w' p s := by
  obtain ⟨a, b, c, d, e, sv, cs, h⟩ := h
  exact ⟨a, b, c, d, e, sv, cs, h.same hB⟩
/-- Its blocks hold cells. -/
theorem Tu.cells {F : List Nat} {w : World} {p : Nat} {s : St} (h : Tu F w p s) : ∀ q ∈ F, ∃ o, w.heap[q]? = some o ∧ o.isCells = true := by
  obtain ⟨a, b, c, d, e, sv, cs, h⟩ := h
  intro q hq
  rw [h.ft] at hq
  rcases List.mem_cons.1 hq with rfl | hq
  · exact ⟨_, h.blk, rfl⟩
  · obtain ⟨_, h2⟩ := h.ow
    rcases h2 with h2 | ⟨g, cap, cur, he, hg, hh, r⟩
    · rw [h2.1] at hq; simp [Value.ownBlock] at hq
    · rw [he] at hq; simp [Value.ownBlock] at hq; subst hq
      exact ⟨_, hh, rfl⟩
theorem Tu.grown {F : List Nat} {w w' : World} {p : Nat} {s : St} (h : Tu F w p s) {row : Option Nat} (hg : w.grownBy w' row) (hr : ∀ r, row = some r → ∃ o : Obj, w.heap[r]? = some o ∧ o.isCells = false) : Tu F w' p s :=
  h.same fun q hq => by
    refine hg.block q (h.lt q hq) fun e => ?_
    obtain ⟨o, ho, hc⟩ := hr q e.symm
    obtain ⟨o', ho', hc'⟩ := h.cells q hq
    rw [ho] at ho'; injection ho' with ho'; subst ho'; rw [hc] at hc'; cases hc'
theorem Fr.others {F F' : List Nat} {w w' : World} {p : Nat} {s : St} (h : Fr F w F' w') (hT : Tu F w p s) : KeepsOthers w w' :=
  ⟨h.size, fun k o hk ho => by
    refine (h.block k (Array.getElem?_eq_some_iff.1 hk).1 fun hm => ?_).trans hk
    obtain ⟨o', ho', hc'⟩ := hT.cells k hm
    rw [hk] at ho'; injection ho' with ho'; subst ho'; rw [ho] at hc'; cases hc'⟩

/-! ### Appending, inside a fence -/
theorem wpListIn_app {P : Program} {t e : TypeId} {z : Value} {size bytes : Nat} {ops : Array Oper} {o : Oper} {a : Act} {w : World} {Q : Exit → Act → World → Prop} {F : Fence} {N : Nat} {rest : List Oper} (hT : TI P t e z size bytes) (hgd : o.guard = none) (s x : Operand) (ho : o.op = .call { callee := .builtin .append, args := #[s, x], argTypes := #[t, t] })
    {v : Value} {n : Nat} {xs : List Value} (hs : a.eval s = v) (hown : w.ownsRow 0 e size v n xs) {A : Option Addr} {m c : Nat} (hx : a.eval x = .slice A m c)
    (news : List Value) (hl : news.length = m * size) (hA : 0 < m → ∃ ad, A = some ad ∧ ∀ (j : Nat) (u : Value), news[j]? = some u → w.cell? (ad.add j) = some u)
    (h1 : ∀ u ∈ news, u.oneCell' = true) (hb : n + m ≤ 34359738368)
    (h : ∀ A' c' w', w'.ownsRow 0 e size (.slice A' (n + m) c') (n + m) (xs ++ news) → w.grownBy w' v.ownBlock → ((Value.slice A' (n + m) c').ownBlock = v.ownBlock ∨ (Value.slice A' (n + m) c').ownBlock = some w.heap.size) → wpListIn F N P ops Q rest (a.put o.dst (.slice A' (n + m) c')) w') : wpListIn F N P ops Q (o :: rest) a w := by
  refine wpListIn_plain hgd fun K hK' => ?_
  obtain ⟨v', w', hrun, h2, h3, h4⟩ := run_app hT o.type w hown A m c news hl hA h1 hb
  unfold Oper.wpIn
  refine ⟨?_, ?_⟩
  · simp [Oper.about, ho, resolve, Target.leads, Sem.run_pure]
  · rw [Oper.semAt_plain F _ _ (by rw [ho]; intro c hc'; cases hc')]
    simp [execOp, ho, resolve, invoke, builtin, hs, hx, hrun, Result.andThen]
    obtain ⟨A', c', rfl, _⟩ := own_cells h2
    exact hK' _ _ (h A' c' w' h2 h3 h4)

/-! ### The numbers -/
def nums (es : List (Int × Int)) : List Int := es.filterMap fun e => if e.1 = 0 then some e.2 else none
theorem nums_succ {es : List (Int × Int)} {j : Nat} {z : Int × Int} (h : es[j]? = some z) : nums (es.take (j + 1)) = nums (es.take j) ++ (if z.1 = 0 then [z.2] else []) := by
  unfold nums; rw [List.take_add_one, h]
  by_cases hz : z.1 = 0 <;> simp [hz]
theorem nums_len (es : List (Int × Int)) (j : Nat) : (nums (es.take j)).length ≤ j := by
  unfold nums
  exact Nat.le_trans (List.length_filterMap_le _ _) (by simp; omega)
theorem info21 : (Try.prog.info? 21).map (fun i => (i.zero, i.size, i.bytes)) = some (some (.int .i32 0), 1, 4) := by kernel_rfl
theorem und53 : Try.prog.underlying 53 = some (.slice 21) := by kernel_rfl
theorem ti53 : TI Try.prog 53 21 (.int .i32 0) 1 4 := ⟨und53, info21, rfl, by decide, by decide⟩
end Go.Proofs.Ytkjfbjgcfkmhkaa
