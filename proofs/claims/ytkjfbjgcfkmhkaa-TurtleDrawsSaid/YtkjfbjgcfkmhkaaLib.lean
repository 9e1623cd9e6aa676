/- Laws of the walk that no program's numbers enter: a type's row of the table under one name; append onto a row of the call's own, whatever is appended. -/
import Derived.WalkKit
import Derived.ProofKit
import Derived.Lib.Hide
import Derived.Deep.Draws
import Derived.Deep.AppendLies
import Derived.Maps.AppendAt
import Derived.Deep.RegionLaw
import Derived.Laws.AppendOwnNone
namespace Go.Proofs.Ytkjfbjgcfkmhkaa
open Go.RowKit
set_option linter.unusedVariables false

/-- A slice type t of elements e: its rows of the table. -/
structure TI (P : Program) (t e : TypeId) (z : Value) (size bytes : Nat) : Prop where
  u : P.underlying t = some (.slice e)
  i : (P.info? e).map (fun i => (i.zero, i.size, i.bytes)) = some (some z, size, bytes)
  zs : z.cells.size = size
  pos : 0 < size
  by_ : bytes ≤ 4096

theorem add_zero_addr (b o j : Nat) : (⟨b, o, none⟩ : Addr).add j = ⟨b, o + j, none⟩ := by
  unfold Addr.add; split <;> simp_all
theorem own_cells {w : World} {e : TypeId} {size n : Nat} {v : Value} {xs : List Value} (h : w.ownsRow 0 e size v n xs) : ∃ A c, v = .slice A n c ∧ n ≤ c ∧ (0 < n → ∃ g, A = some ⟨g, 0, none⟩ ∧ v.ownBlock = some g ∧ g < w.heap.size ∧ ∀ j u, xs[j]? = some u → w.cell? ⟨g, j, none⟩ = some u) := by
  have hl := h
  rcases h.2 with ⟨rfl, rfl⟩ | ⟨g, cap, cur, rfl, _, hh, hnc, _⟩
  · exact ⟨none, 0, rfl, Nat.le_refl _, fun h => absurd h (by omega)⟩
  · refine ⟨_, cap, rfl, hnc, fun _ => ⟨g, rfl, rfl, (hl.lt g rfl).2, fun j u hu => ?_⟩⟩
    have := hl.cells (g := g) rfl j u hu
    rwa [add_zero_addr, Nat.zero_add] at this

theorem run_app {P : Program} {t e : TypeId} {z : Value} {size bytes : Nat} (hT : TI P t e z size bytes) (ty : TypeId) (w : World) {v : Value} {n : Nat} {xs : List Value} (hown : w.ownsRow 0 e size v n xs)
    (A : Option Addr) (m c : Nat) (news : List Value) (hl : news.length = m * size) (hA : 0 < m → ∃ ad, A = some ad ∧ ∀ (j : Nat) (u : Value), news[j]? = some u → w.cell? (ad.add j) = some u)
    (h1 : ∀ u ∈ news, u.oneCell' = true) (hb : n + m ≤ 34359738368) :
    ∃ v' w', (Builtin.append_ #[t, t] ty #[v, .slice A m c]).run P w = .ok v' w' ∧ w'.ownsRow 0 e size v' (n + m) (xs ++ news) ∧ w.grownBy w' v.ownBlock ∧
      (v'.ownBlock = v.ownBlock ∨ v'.ownBlock = some w.heap.size) := by
  obtain ⟨i, hi, hz, hs, hby⟩ := info_parts hT.i
  rcases Nat.eq_zero_or_pos m with h0 | h0
  · subst h0
    have hn : news = [] := List.eq_nil_of_length_eq_zero (by simpa using hl)
    subst hn
    cases A with
    | none =>
      refine ⟨v, w, ?_, by simpa using hown, World.grownBy.refl w _, .inl rfl⟩
      have ht := hT.u
      rcases hown.2 with ⟨rfl, rfl⟩ | ⟨g, cap, cur, rfl, _, _, hnc, _⟩
      · simp [Builtin.append_, run_underlying ht, sizeOf, typeInfo, hi, Builtin.lenOf, Builtin.firstCells]
      · simp [Builtin.append_, run_underlying ht, sizeOf, typeInfo, hi, Builtin.lenOf, Builtin.firstCells, hnc, storeCells]
    | some ad =>
      obtain ⟨v', w', h2, h3, h4, _, h5⟩ := run_append_own_at (P := P) w 0 t ty e i z size bytes hT.u hi hz hs hby hT.zs hT.pos v n xs hown ad 0 c [] (by simp) (fun j u hu => by simp at hu) (by simp) (by unfold maxLen; omega)
        (by have := hT.by_; calc n * bytes ≤ 34359738368 * 4096 := Nat.mul_le_mul (by omega) this
              _ ≤ _ := by omega) (Nat.zero_le _)
      exact ⟨v', w', h2, h3, h4, h5⟩
  · obtain ⟨ad, rfl, hc⟩ := hA h0
    obtain ⟨v', w', h2, h3, h4, _, h5⟩ := run_append_own_at (P := P) w 0 t ty e i z size bytes hT.u hi hz hs hby hT.zs hT.pos v n xs hown ad m c news hl hc h1 (by unfold maxLen; omega)
        (by have := hT.by_; calc (n + m) * bytes ≤ 34359738368 * 4096 := Nat.mul_le_mul (by omega) this
              _ ≤ _ := by omega) (Nat.zero_le _)
    exact ⟨v', w', h2, h3, h4, h5⟩

section
variable {P : Program} {t e : TypeId} {z : Value} {size bytes : Nat} {ops : Array Oper} {o : Oper} {a : Act} {w : World} {K : Act → World → Prop} {Q : Exit → Act → World → Prop}
theorem wp_app (hT : TI P t e z size bytes) (s x : Operand) (ho : o.op = .call { callee := .builtin .append, args := #[s, x], argTypes := #[t, t] })
    {v : Value} {n : Nat} {xs : List Value} (hs : a.eval s = v) (hown : w.ownsRow 0 e size v n xs) {A : Option Addr} {m c : Nat} (hx : a.eval x = .slice A m c)
    (news : List Value) (hl : news.length = m * size) (hA : 0 < m → ∃ ad, A = some ad ∧ ∀ (j : Nat) (u : Value), news[j]? = some u → w.cell? (ad.add j) = some u)
    (h1 : ∀ u ∈ news, u.oneCell' = true) (hb : n + m ≤ 34359738368)
    (h : ∀ A' c' w', w'.ownsRow 0 e size (.slice A' (n + m) c') (n + m) (xs ++ news) → w.grownBy w' v.ownBlock → ((Value.slice A' (n + m) c').ownBlock = v.ownBlock ∨ (Value.slice A' (n + m) c').ownBlock = some w.heap.size) → K (a.put o.dst (.slice A' (n + m) c')) w') : o.wp P a w K Q := by
  obtain ⟨v', w', hrun, h2, h3, h4⟩ := run_app hT o.type w hown A m c news hl hA h1 hb
  unfold Oper.wp execOp
  simp only [ho, resolve, invoke, builtin, Sem.run_bind, Sem.run_pure, Result.andThen_ok, List.map_toArray, List.map_cons, List.map_nil, hs, hx, hrun]
  obtain ⟨A', c', rfl, _⟩ := own_cells h2
  exact h A' c' w' h2 h3 h4
theorem wpList_app {rest : List Oper} (hT : TI P t e z size bytes) (hgd : o.guard = none) (s x : Operand) (ho : o.op = .call { callee := .builtin .append, args := #[s, x], argTypes := #[t, t] })
    {v : Value} {n : Nat} {xs : List Value} (hs : a.eval s = v) (hown : w.ownsRow 0 e size v n xs) {A : Option Addr} {m c : Nat} (hx : a.eval x = .slice A m c)
    (news : List Value) (hl : news.length = m * size) (hA : 0 < m → ∃ ad, A = some ad ∧ ∀ (j : Nat) (u : Value), news[j]? = some u → w.cell? (ad.add j) = some u)
    (h1 : ∀ u ∈ news, u.oneCell' = true) (hb : n + m ≤ 34359738368)
    (h : ∀ A' c' w', w'.ownsRow 0 e size (.slice A' (n + m) c') (n + m) (xs ++ news) → w.grownBy w' v.ownBlock → ((Value.slice A' (n + m) c').ownBlock = v.ownBlock ∨ (Value.slice A' (n + m) c').ownBlock = some w.heap.size) → wpList P ops Q rest (a.put o.dst (.slice A' (n + m) c')) w') : wpList P ops Q (o :: rest) a w :=
  wpList_plain hgd fun _ hK => wp_app hT s x ho hs hown hx news hl hA h1 hb fun A' c' w' h2 h3 h4 => hK _ _ (h A' c' w' h2 h3 h4)
theorem step_app {E : Prop} (hT : TI P t e z size bytes) (hgd : o.guard = none) (s x : Operand) (ho : o.op = .call { callee := .builtin .append, args := #[s, x], argTypes := #[t, t] })
    {v : Value} {n : Nat} {xs : List Value} (hs : a.eval s = v) (hown : w.ownsRow 0 e size v n xs) {A : Option Addr} {m c : Nat} (hx : a.eval x = .slice A m c)
    (news : List Value) (hl : news.length = m * size) (hA : 0 < m → ∃ ad, A = some ad ∧ ∀ (j : Nat) (u : Value), news[j]? = some u → w.cell? (ad.add j) = some u)
    (h1 : ∀ u ∈ news, u.oneCell' = true) (hb : n + m ≤ 34359738368)
    (h : ∀ A' c' w', w'.ownsRow 0 e size (.slice A' (n + m) c') (n + m) (xs ++ news) → w.grownBy w' v.ownBlock → ((Value.slice A' (n + m) c').ownBlock = v.ownBlock ∨ (Value.slice A' (n + m) c').ownBlock = some w.heap.size) → K (a.put o.dst (.slice A' (n + m) c')) w') :
    if Region.wanted o (yielded ops a.tmps) = true then Oper.wp P o a w K Q else E := by
  have hw : Region.wanted o (yielded ops a.tmps) = true := by simp [Region.wanted, hgd]
  rw [if_pos hw]
  exact wp_app hT s x ho hs hown hx news hl hA h1 hb h
end

/-- What lies in a block that was just laid. -/
theorem new_cells (w : World) (cs : Array Value) (t : TypeId) (fr : Nat × Nat) : ∀ (j : Nat) (u : Value), cs.toList[j]? = some u → (w.alloc (.cells cs t fr)).cell? ((⟨w.heap.size, 0, none⟩ : Addr).add j) = some u := fun j u hu => by
  rw [add_zero_addr, cell_of_row _ w.heap.size (0 + j) cs t fr (heap_alloc_new w _)]
  simpa using hu
theorem new_src (w : World) (cs : Array Value) (t : TypeId) (fr : Nat × Nat) (m : Nat) : 0 < m → ∃ ad, some (⟨w.heap.size, 0, none⟩ : Addr) = some ad ∧ ∀ (j : Nat) (u : Value), cs.toList[j]? = some u → (w.alloc (.cells cs t fr)).cell? (ad.add j) = some u :=
  fun _ => ⟨_, rfl, new_cells w cs t fr⟩
theorem new_src_at (w : World) (cs : Array Value) (t : TypeId) (fr : Nat × Nat) (m n : Nat) (hn : n = w.heap.size) : 0 < m → ∃ ad, some (⟨n, 0, none⟩ : Addr) = some ad ∧ ∀ (j : Nat) (u : Value), cs.toList[j]? = some u → (w.alloc (.cells cs t fr)).cell? (ad.add j) = some u := by
  subst hn
  exact new_src w cs t fr m
/-- An empty row that was just laid. -/
theorem own_empty (w : World) (t : TypeId) (sz : Nat) : (w.alloc (.cells #[] t)).ownsRow 0 t sz (.slice (some ⟨w.heap.size, 0, none⟩) 0 0) 0 [] :=
  ⟨by simp, .inr ⟨w.heap.size, 0, #[], rfl, Nat.zero_le _, heap_alloc_new w _, Nat.le_refl _, by unfold maxLen; omega, by simp, by simp⟩⟩
/-- Cells laid out one element behind the other. -/
theorem flat_get {α : Type} {f : α → List Value} {sz : Nat} (hsz : 0 < sz) (hf : ∀ x, (f x).length = sz) (xs : List α) : ∀ j : Nat, (xs.flatMap f)[j]? = (xs[j / sz]?).bind fun x => (f x)[j % sz]? := by
  induction xs with
  | nil => intro j; simp
  | cons x xs ih =>
    intro j
    rw [List.flatMap_cons]
    rcases Nat.lt_or_ge j sz with h | h
    · rw [List.getElem?_append_left (by rw [hf]; exact h), Nat.div_eq_of_lt h, Nat.mod_eq_of_lt h]; rfl
    · rw [List.getElem?_append_right (by rw [hf]; exact h), hf, ih]
      have e1 : j / sz = (j - sz) / sz + 1 := by rw [Nat.div_eq_sub_div hsz h]
      have e2 : j % sz = (j - sz) % sz := by rw [Nat.mod_eq_sub_mod h]
      rw [e1, e2]; rfl
theorem flat_at {α : Type} {f : α → List Value} {sz : Nat} (hsz : 0 < sz) (hf : ∀ x, (f x).length = sz) {xs : List α} {i : Nat} {x : α} (h : xs[i]? = some x) {r : Nat} (hr : r < sz) : (xs.flatMap f)[i * sz + r]? = (f x)[r]? := by
  rw [flat_get hsz hf, show (i * sz + r) / sz = i from by rw [Nat.mul_comm, Nat.mul_add_div hsz, Nat.div_eq_of_lt hr]; rfl, show (i * sz + r) % sz = r from by rw [Nat.mul_comm, Nat.mul_add_mod, Nat.mod_eq_of_lt hr], h]; rfl
theorem flat_len {α : Type} {f : α → List Value} {sz : Nat} (hf : ∀ x, (f x).length = sz) (xs : List α) : (xs.flatMap f).length = xs.length * sz := by
  induction xs with
  | nil => simp
  | cons x xs ih => rw [List.flatMap_cons, List.length_append, ih, hf, List.length_cons, Nat.succ_mul]; omega
theorem flat_from {α : Type} {f : α → List Value} {sz : Nat} (hsz : 0 < sz) (hf : ∀ x, (f x).length = sz) {xs : List α} {w : World} {b o : Nat}
    (h : ∀ (i : Nat) (x : α), xs[i]? = some x → ∀ (r : Nat) (u : Value), (f x)[r]? = some u → w.cell? ⟨b, o + i * sz + r, none⟩ = some u) :
    ∀ (j : Nat) (u : Value), (xs.flatMap f)[j]? = some u → w.cell? ((⟨b, o, none⟩ : Addr).add j) = some u := by
  intro j u hu
  rw [flat_get hsz hf] at hu
  obtain ⟨x, hx, hu⟩ := Option.bind_eq_some_iff.1 hu
  have := h _ x hx _ u hu
  rw [add_zero_addr]
  rw [← this, Nat.add_assoc, show j / sz * sz + j % sz = j from by rw [Nat.mul_comm]; exact Nat.div_add_mod j sz]
end Go.Proofs.Ytkjfbjgcfkmhkaa
