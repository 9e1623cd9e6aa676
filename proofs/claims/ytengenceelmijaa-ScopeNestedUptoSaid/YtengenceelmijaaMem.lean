/- Words for memory: what a slice reads as, what the scopes own, and what a call leaves as it was. Nothing here names a Go function. -/
import Derived.Test.YtengenceelmijaaRows
import Derived.WalkKit
import Derived.ProofKit
import Derived.Lib.Hide
import Derived.Deep.Draws
import Derived.Deep.AppendLies
import Derived.Maps.AppendAt
namespace Go.Proofs.Ytengenceelmijaa
open Go.RowKit
set_option linter.unusedVariables false

/-- What a block holds that nobody owns. -/
def Good (F : List Nat) (w : World) (b : Nat) : Prop := b < w.heap.size ∧ b ∉ F

/-- What a call leaves: all that lay there, but what is owned; what is owned behind it was owned or is new. -/
structure Fr (F : List Nat) (w : World) (F' : List Nat) (w' : World) : Prop where
  os : w'.os = w.os
  tape : w'.tape = w.tape
  output : w'.output = w.output
  size : w.heap.size ≤ w'.heap.size
  block : ∀ b, b < w.heap.size → b ∉ F → w'.heap[b]? = w.heap[b]?
  sub : ∀ b, b ∈ F' → b ∈ F ∨ w.heap.size ≤ b

theorem Fr.refl (F : List Nat) (w : World) : Fr F w F w := ⟨rfl, rfl, rfl, Nat.le_refl _, fun _ _ _ => rfl, fun _ h => .inl h⟩
theorem Fr.trans {F F1 F2 : List Nat} {w w1 w2 : World} (h : Fr F w F1 w1) (k : Fr F1 w1 F2 w2) : Fr F w F2 w2 :=
  ⟨k.os.trans h.os, k.tape.trans h.tape, k.output.trans h.output, Nat.le_trans h.size k.size,
   fun b hb hF => by
     have h1 : b ∉ F1 := fun hc => by
       rcases h.sub b hc with h1 | h1
       · exact hF h1
       · omega
     exact (k.block b (Nat.lt_of_lt_of_le hb h.size) h1).trans (h.block b hb hF),
   fun b hb => by
     rcases k.sub b hb with h1 | h1
     · exact h.sub b h1
     · exact .inr (Nat.le_trans h.size h1)⟩
theorem Fr.of_below {F : List Nat} {w w' : World} (h : Below w.heap.size w w') : Fr F w F w' :=
  ⟨h.os, h.tape, h.output, h.size, fun b hb _ => h.block b hb, fun _ h => .inl h⟩
theorem Fr.drew {F F' : List Nat} {w w' : World} (h : Fr F w F' w') : Fr F w F' w'.drew := ⟨h.os, h.tape, h.output, h.size, h.block, h.sub⟩
theorem Fr.drewN {F F' : List Nat} {w w' : World} (h : Fr F w F' w') (n : Nat) : Fr F w F' (w'.drewN n) := ⟨h.os, h.tape, h.output, h.size, h.block, h.sub⟩
theorem Fr.below {w w' : World} {F' : List Nat} (h : Fr [] w F' w') : Below w.heap.size w w' := ⟨h.os, h.tape, h.output, h.size, fun b hb => h.block b hb (by simp)⟩
theorem Fr.good {F F' : List Nat} {w w' : World} (h : Fr F w F' w') {b : Nat} (hb : Good F w b) : Good F' w' b :=
  ⟨Nat.lt_of_lt_of_le hb.1 h.size, fun hc => by
    rcases h.sub b hc with h1 | h1
    · exact hb.2 h1
    · exact absurd hb.1 (by omega)⟩
theorem Fr.cell {F F' : List Nat} {w w' : World} (h : Fr F w F' w') {b : Nat} (hb : Good F w b) (o : Nat) : w'.cell? ⟨b, o, none⟩ = w.cell? ⟨b, o, none⟩ :=
  World.cell?_of_block (w := w) (h.block b hb.1 hb.2)
theorem Fr.frozen {F F' : List Nat} {w w' : World} (h : Fr F w F' w') {b : Nat} (hb : Good F w b) (o : Nat) : w'.frozen? ⟨b, o, none⟩ = w.frozen? ⟨b, o, none⟩ :=
  World.frozen?_of_block (w := w) (h.block b hb.1 hb.2)

/-- A slice that reads as a list. -/
def Sl {α : Type} (G : Nat → Prop) (sz : Nat) (E : Nat → Nat → α → Prop) (v : Value) (xs : List α) : Prop :=
  xs.length ≤ 4194304 ∧ ∃ A c, v = .slice A xs.length c ∧ xs.length ≤ c ∧ (xs ≠ [] → ∃ b o, A = some ⟨b, o, none⟩ ∧ G b ∧ ∀ i x, xs[i]? = some x → E b (o + i * sz) x)

theorem Sl.imp {α : Type} {G G' : Nat → Prop} {sz : Nat} {E E' : Nat → Nat → α → Prop} {v : Value} {xs : List α} (h : Sl G sz E v xs) (hG : ∀ b, G b → G' b)
    (hE : ∀ b o x, G b → E b o x → E' b o x) : Sl G' sz E' v xs := by
  obtain ⟨h0, A, c, rfl, hc, h⟩ := h
  refine ⟨h0, A, c, rfl, hc, fun hx => ?_⟩
  obtain ⟨b, o, rfl, hb, h⟩ := h hx
  exact ⟨b, o, rfl, hG b hb, fun i x hi => hE _ _ _ hb (h i x hi)⟩
theorem Sl.nil {α : Type} (G : Nat → Prop) (sz : Nat) (E : Nat → Nat → α → Prop) : Sl G sz E (.slice none 0 0) ([] : List α) :=
  ⟨by simp, none, 0, rfl, Nat.le_refl _, fun h => absurd rfl h⟩

/-- An object: all it says but its parameters' place. -/
structure Ob where
  nm : ByteArray
  kd : Int
  ty : Int
  lv : Int
  n : Int
  md : Int
  out : Bool
  ps : List (Int × Bool)
structure Ex where
  nm : ByteArray
  kd : Int
  ty : Int
  v : Int
  ps : List (Int × Bool)
structure OpD where
  kind : Int
  n : Int
  x : Ob
  list : List Ex

abbrev cel (w : World) (b o : Nat) (v : Value) : Prop := w.cell? ⟨b, o, none⟩ = some v

def EP (w : World) (b o : Nat) (p : Int × Bool) : Prop := cel w b o (.int .i64 p.1) ∧ cel w b (o + 1) (.bool p.2)
def PsR (F : List Nat) (w : World) (v : Value) (ps : List (Int × Bool)) : Prop := Sl (Good F w) 2 (EP w) v ps
def Ob7 (w : World) (b o : Nat) (x : Ob) : Prop :=
  cel w b o (.string x.nm) ∧ cel w b (o + 1) (.int .i64 x.kd) ∧ cel w b (o + 2) (.int .i64 x.ty) ∧ cel w b (o + 3) (.int .i64 x.lv) ∧ cel w b (o + 4) (.int .i32 x.n) ∧
  cel w b (o + 5) (.int .i64 x.md) ∧ cel w b (o + 6) (.bool x.out)
def EO (F : List Nat) (w : World) (b o : Nat) (x : Ob) : Prop := Ob7 w b o x ∧ ∃ pv, cel w b (o + 7) pv ∧ PsR F w pv x.ps
def ObR (F : List Nat) (w : World) (v : Value) (xs : List Ob) : Prop := Sl (Good F w) 8 (EO F w) v xs
def EE (F : List Nat) (w : World) (b o : Nat) (x : Ex) : Prop :=
  cel w b o (.string x.nm) ∧ cel w b (o + 1) (.int .i64 x.kd) ∧ cel w b (o + 2) (.int .i64 x.ty) ∧ cel w b (o + 3) (.int .i32 x.v) ∧ ∃ pv, cel w b (o + 4) pv ∧ PsR F w pv x.ps
def ExR (F : List Nat) (w : World) (v : Value) (xs : List Ex) : Prop := Sl (Good F w) 5 (EE F w) v xs
def ES (w : World) (b o : Nat) (x : ByteArray) : Prop := cel w b o (.string x)
def StR (F : List Nat) (w : World) (v : Value) (xs : List ByteArray) : Prop := Sl (Good F w) 1 (ES w) v xs
def EL (F : List Nat) (w : World) (b o : Nat) (xs : List Ob) : Prop := ∃ v, cel w b o v ∧ ObR F w v xs
def ObsR (F : List Nat) (w : World) (v : Value) (xss : List (List Ob)) : Prop := Sl (Good F w) 1 (EL F w) v xss
def EOp (F : List Nat) (w : World) (b o : Nat) (x : OpD) : Prop :=
  cel w b o (.int .i64 x.kind) ∧ cel w b (o + 1) (.int .i64 x.n) ∧ EO F w b (o + 2) x.x ∧ ∃ lv, cel w b (o + 10) lv ∧ ExR F w lv x.list
def OpR (F : List Nat) (w : World) (v : Value) (xs : List OpD) : Prop := Sl (Good F w) 11 (EOp F w) v xs

section
variable {F F' : List Nat} {w w' : World} {v : Value}
theorem cel.keep (h : Fr F w F' w') {b o : Nat} (hb : Good F w b) {v : Value} (hc : cel w b o v) : cel w' b o v := (h.cell hb o).trans hc
theorem PsR.keep {ps : List (Int × Bool)} (h : PsR F w v ps) (hf : Fr F w F' w') : PsR F' w' v ps :=
  Sl.imp h (fun _ => hf.good) fun _ _ _ hb he => ⟨he.1.keep hf hb, he.2.keep hf hb⟩
theorem Ob7.keep (hf : Fr F w F' w') {b o : Nat} (hb : Good F w b) {x : Ob} (h : Ob7 w b o x) : Ob7 w' b o x := by
  obtain ⟨h0, h1, h2, h3, h4, h5, h6⟩ := h
  exact ⟨h0.keep hf hb, h1.keep hf hb, h2.keep hf hb, h3.keep hf hb, h4.keep hf hb, h5.keep hf hb, h6.keep hf hb⟩
theorem EO.keep (hf : Fr F w F' w') {b o : Nat} (hb : Good F w b) {x : Ob} (h : EO F w b o x) : EO F' w' b o x := by
  obtain ⟨h0, pv, h7, hp⟩ := h
  exact ⟨h0.keep hf hb, pv, h7.keep hf hb, hp.keep hf⟩
theorem ObR.keep {xs : List Ob} (h : ObR F w v xs) (hf : Fr F w F' w') : ObR F' w' v xs := Sl.imp h (fun _ => hf.good) fun _ _ _ hb he => he.keep hf hb
theorem EE.keep (hf : Fr F w F' w') {b o : Nat} (hb : Good F w b) {x : Ex} (h : EE F w b o x) : EE F' w' b o x := by
  obtain ⟨h0, h1, h2, h3, pv, h4, hp⟩ := h
  exact ⟨h0.keep hf hb, h1.keep hf hb, h2.keep hf hb, h3.keep hf hb, pv, h4.keep hf hb, hp.keep hf⟩
theorem ExR.keep {xs : List Ex} (h : ExR F w v xs) (hf : Fr F w F' w') : ExR F' w' v xs := Sl.imp h (fun _ => hf.good) fun _ _ _ hb he => he.keep hf hb
theorem StR.keep {xs : List ByteArray} (h : StR F w v xs) (hf : Fr F w F' w') : StR F' w' v xs := Sl.imp h (fun _ => hf.good) fun _ _ _ hb he => cel.keep hf hb he
theorem EL.keep (hf : Fr F w F' w') {b o : Nat} (hb : Good F w b) {x : List Ob} (h : EL F w b o x) : EL F' w' b o x := by
  obtain ⟨v, h0, hp⟩ := h
  exact ⟨v, h0.keep hf hb, hp.keep hf⟩
theorem ObsR.keep {xs : List (List Ob)} (h : ObsR F w v xs) (hf : Fr F w F' w') : ObsR F' w' v xs := Sl.imp h (fun _ => hf.good) fun _ _ _ hb he => he.keep hf hb
theorem EOp.keep (hf : Fr F w F' w') {b o : Nat} (hb : Good F w b) {x : OpD} (h : EOp F w b o x) : EOp F' w' b o x := by
  obtain ⟨h0, h1, h2, pv, h4, hp⟩ := h
  exact ⟨h0.keep hf hb, h1.keep hf hb, h2.keep hf hb, pv, h4.keep hf hb, hp.keep hf⟩
theorem OpR.keep {xs : List OpD} (h : OpR F w v xs) (hf : Fr F w F' w') : OpR F' w' v xs := Sl.imp h (fun _ => hf.good) fun _ _ _ hb he => he.keep hf hb
end

/-! ### What is owned -/
/-- Cells that are objects. -/
def OC (F : List Nat) (w : World) (cs : List Value) (xs : List Ob) : Prop :=
  ∀ i x, xs[i]? = some x → cs[i * 8]? = some (.string x.nm) ∧ cs[i * 8 + 1]? = some (.int .i64 x.kd) ∧ cs[i * 8 + 2]? = some (.int .i64 x.ty) ∧ cs[i * 8 + 3]? = some (.int .i64 x.lv) ∧
    cs[i * 8 + 4]? = some (.int .i32 x.n) ∧ cs[i * 8 + 5]? = some (.int .i64 x.md) ∧ cs[i * 8 + 6]? = some (.bool x.out) ∧ ∃ pv, cs[i * 8 + 7]? = some pv ∧ PsR F w pv x.ps
def OwnObs (F : List Nat) (w : World) (v : Value) (xs : List Ob) : Prop := xs.length ≤ 4194304 ∧ ∃ cs, w.ownsRow 0 25 8 v xs.length cs ∧ OC F w cs xs
def AllObs (F : List Nat) (w : World) (vs : List Value) (xss : List (List Ob)) : Prop := vs.length = xss.length ∧ ∀ (i : Nat) (v : Value) (xs : List Ob), vs[i]? = some v → xss[i]? = some xs → OwnObs F w v xs

structure Abs where
  opn : List (List Ob)
  mds : List (List Ob)

def footOf (p : Nat) (ov mv : Value) (vs ms : List Value) : List Nat := p :: (ov :: mv :: (vs ++ ms)).filterMap Value.ownBlock

structure ScV (F : List Nat) (w : World) (p : Nat) (a : Abs) (ov mv : Value) (vs ms : List Value) : Prop where
  blk : w.heap[p]? = some (.cells #[ov, mv] 64 (0, 0))
  ow : w.ownsRow 0 66 1 ov a.opn.length vs
  mw : w.ownsRow 0 66 1 mv a.mds.length ms
  os : AllObs F w vs a.opn
  ms_ : AllObs F w ms a.mds
  ft : F = footOf p ov mv vs ms
  nd : F.Nodup
  small : a.opn.length ≤ 65 ∧ a.mds.length ≤ 64 ∧ 0 < a.opn.length

def Sc (F : List Nat) (w : World) (p : Nat) (a : Abs) : Prop := ∃ ov mv vs ms, ScV F w p a ov mv vs ms

theorem OC.keep {F F' : List Nat} {w w' : World} {cs : List Value} {xs : List Ob} (h : OC F w cs xs) (hf : Fr F w F' w') : OC F' w' cs xs := fun i x hi => by
  obtain ⟨h0, h1, h2, h3, h4, h5, h6, pv, h7, hp⟩ := h i x hi
  exact ⟨h0, h1, h2, h3, h4, h5, h6, pv, h7, hp.keep hf⟩
theorem ownsRow_same {w w' : World} {e : TypeId} {size n : Nat} {v : Value} {xs : List Value} (h : w.ownsRow 0 e size v n xs)
    (hb : ∀ b, v.ownBlock = some b → w'.heap[b]? = w.heap[b]?) : w'.ownsRow 0 e size v n xs := by
  obtain ⟨h1, h2⟩ := h
  refine ⟨h1, ?_⟩
  rcases h2 with h2 | ⟨g, cap, cur, rfl, hg, hh, r⟩
  · exact .inl h2
  · exact .inr ⟨g, cap, cur, rfl, hg, by rw [hb g rfl]; exact hh, r⟩
end Go.Proofs.Ytengenceelmijaa
