import Derived.Test.YtengenceelmijaaRead
namespace Go.Proofs.Ytengenceelmijaa
open Go.RowKit Go.ChangeShapes Go.WideShapes Go.Deep
set_option linter.unusedVariables false

instance : Inhabited (Int × Bool) := ⟨(0, false)⟩
section
variable {H : Type} {enc : TypeId × Value → H} {w : World} {sp : Nat → Bool} {held : Bool}
theorem take_one {cs : List Value} {o : Nat} {v : Value} (h : (cs.drop o).take 1 = [v]) : cs[o]? = some v := by
  have : ((cs.drop o).take 1)[0]? = some v := by rw [h]; rfl
  rw [List.getElem?_take, if_pos (by omega), List.getElem?_drop] at this
  simpa using this
theorem fld_int {n t o m : Nat} {k : IntKind} {cs : List Value} {y : DataW H × List MemPlace} (ht : Try.prog.underlying t = some (.int k)) (hn : n = 1) (h : DataW.trod enc Try.prog w 0 sp held m t ((cs.drop o).take n) = some y) : ∃ i, cs[o]? = some (.int k i) := by
  subst hn
  obtain ⟨i, h1, _⟩ := DataW.trod_int ht h
  exact ⟨i, take_one h1⟩
theorem fld_bool {n t o m : Nat} {cs : List Value} {y : DataW H × List MemPlace} (ht : Try.prog.underlying t = some .bool) (hn : n = 1) (h : DataW.trod enc Try.prog w 0 sp held m t ((cs.drop o).take n) = some y) : ∃ i, cs[o]? = some (.bool i) := by
  subst hn
  obtain ⟨i, h1, _⟩ := DataW.trod_bool ht h
  exact ⟨i, take_one h1⟩
theorem fld_str {n t o m : Nat} {cs : List Value} {y : DataW H × List MemPlace} (ht : Try.prog.underlying t = some .string) (hn : n = 1) (h : DataW.trod enc Try.prog w 0 sp held m t ((cs.drop o).take n) = some y) : ∃ i, cs[o]? = some (.string i) := by
  subst hn
  obtain ⟨i, h1, _⟩ := DataW.trod_string ht h
  exact ⟨i, take_one h1⟩
theorem c3 : Try.prog.cellsOf 3 = 1 := by kernel_rfl
theorem c4 : Try.prog.cellsOf 4 = 1 := by kernel_rfl
theorem c9 : Try.prog.cellsOf 9 = 1 := by kernel_rfl
theorem c21 : Try.prog.cellsOf 21 = 1 := by kernel_rfl
theorem c23 : Try.prog.cellsOf 23 = 1 := by kernel_rfl
theorem c25 : Try.prog.cellsOf 25 = 8 := by kernel_rfl
theorem c42 : Try.prog.cellsOf 42 = 1 := by kernel_rfl
theorem c57 : Try.prog.cellsOf 57 = 11 := by kernel_rfl
theorem c69 : Try.prog.cellsOf 69 = 2 := by kernel_rfl
theorem c71 : Try.prog.cellsOf 71 = 5 := by kernel_rfl

theorem agg_part {xs : List (DataW H × List MemPlace)} {i : Nat} {y : DataW H × List MemPlace} {B : Nat} (h : xs[i]? = some y) (hb : Rows.uptoBulk (DataW.agg (xs.map (·.1))) ≤ B) : Rows.uptoBulk y.1 ≤ B := by
  have h1 := bulks.part_le (d := y.1) (l := xs.map (·.1)) (List.mem_map.2 ⟨y, List.mem_of_getElem? h, rfl⟩)
  simp only [Rows.uptoBulk] at hb
  omega

theorem rd_param {m : Nat} {cs : List Value} {x : DataW H × List MemPlace} (h : DataW.trod enc Try.prog w 0 sp held m 69 cs = some x) : ∃ p : Int × Bool, ∀ b o, (∀ (j : Nat) (u : Value), cs[j]? = some u → w.cell? ⟨b, o + j, none⟩ = some u) → EP w b o p := by
  obtain ⟨xs, n, _, _, hl, hlen, hf⟩ := DataW.trod_struct Try.underlying69 h
  obtain ⟨y0, e0⟩ : ∃ y, xs[0]? = some y := ⟨_, List.getElem?_eq_getElem (by rw [hlen]; decide)⟩
  obtain ⟨y1, e1⟩ : ∃ y, xs[1]? = some y := ⟨_, List.getElem?_eq_getElem (by rw [hlen]; decide)⟩
  obtain ⟨i, hi⟩ := fld_int Try.underlying3 c3 ((hf 0 _ rfl).trans e0)
  obtain ⟨b, hb⟩ := fld_bool Try.underlying4 c4 ((hf 1 _ rfl).trans e1)
  exact ⟨(i, b), fun bl o hc => ⟨hc 0 _ hi, hc 1 _ hb⟩⟩
theorem rd_params {m n o : Nat} {cs : List Value} {x : DataW H × List MemPlace} (hn : n = 1) (h : DataW.trod enc Try.prog w 0 sp held m 23 ((cs.drop o).take n) = some x) (hb : Rows.uptoBulk x.1 ≤ 1048576) : ∃ pv ps, cs[o]? = some pv ∧ PsR [] w pv ps := by
  subst hn
  obtain ⟨v, ps, h1, h2⟩ := read_slice (α := Int × Bool) (EP w) Try.underlying23 c69 (by decide) h hb fun cs' y k hl hy _ => by
    obtain ⟨p, hp⟩ := rd_param hy
    exact ⟨p, fun b o _ hc => hp b o hc⟩
  exact ⟨v, ps, take_one h1, h2⟩
theorem rd_ob {m : Nat} {cs : List Value} {x : DataW H × List MemPlace} (h : DataW.trod enc Try.prog w 0 sp held m 25 cs = some x) (hb : Rows.uptoBulk x.1 ≤ 1048576) : ∃ (z : Ob) (pv : Value), PsR [] w pv z.ps ∧
    cs[0]? = some (.string z.nm) ∧ cs[1]? = some (.int .i64 z.kd) ∧ cs[2]? = some (.int .i64 z.ty) ∧ cs[3]? = some (.int .i64 z.lv) ∧ cs[4]? = some (.int .i32 z.n) ∧ cs[5]? = some (.int .i64 z.md) ∧ cs[6]? = some (.bool z.out) ∧ cs[7]? = some pv := by
  obtain ⟨xs, n, _, rfl, hl, hlen, hf⟩ := DataW.trod_struct Try.underlying25 h
  have hx : ∀ i, i < 8 → ∃ y, xs[i]? = some y := fun i hi => ⟨_, List.getElem?_eq_getElem (by rw [hlen]; exact hi)⟩
  obtain ⟨y0, e0⟩ := hx 0 (by omega)
  obtain ⟨y1, e1⟩ := hx 1 (by omega)
  obtain ⟨y2, e2⟩ := hx 2 (by omega)
  obtain ⟨y3, e3⟩ := hx 3 (by omega)
  obtain ⟨y4, e4⟩ := hx 4 (by omega)
  obtain ⟨y5, e5⟩ := hx 5 (by omega)
  obtain ⟨y6, e6⟩ := hx 6 (by omega)
  obtain ⟨y7, e7⟩ := hx 7 (by omega)
  obtain ⟨nm, h0⟩ := fld_str Try.underlying9 c9 ((hf 0 _ rfl).trans e0)
  obtain ⟨kd, h1⟩ := fld_int Try.underlying3 c3 ((hf 1 _ rfl).trans e1)
  obtain ⟨ty, h2⟩ := fld_int Try.underlying3 c3 ((hf 2 _ rfl).trans e2)
  obtain ⟨lv, h3⟩ := fld_int Try.underlying3 c3 ((hf 3 _ rfl).trans e3)
  obtain ⟨nn, h4⟩ := fld_int Try.underlying21 c21 ((hf 4 _ rfl).trans e4)
  obtain ⟨md, h5⟩ := fld_int Try.underlying3 c3 ((hf 5 _ rfl).trans e5)
  obtain ⟨ot, h6⟩ := fld_bool Try.underlying4 c4 ((hf 6 _ rfl).trans e6)
  obtain ⟨pv, ps, h7, hp⟩ := rd_params c23 ((hf 7 _ rfl).trans e7) (agg_part e7 hb)
  exact ⟨⟨nm, kd, ty, lv, nn, md, ot, ps⟩, pv, hp, h0, h1, h2, h3, h4, h5, h6, h7⟩
theorem rd_ex {m : Nat} {cs : List Value} {x : DataW H × List MemPlace} (h : DataW.trod enc Try.prog w 0 sp held m 71 cs = some x) (hb : Rows.uptoBulk x.1 ≤ 1048576) : ∃ z : Ex, ∀ b o, (∀ (j : Nat) (u : Value), cs[j]? = some u → w.cell? ⟨b, o + j, none⟩ = some u) → EE [] w b o z := by
  obtain ⟨xs, n, _, rfl, hl, hlen, hf⟩ := DataW.trod_struct Try.underlying71 h
  have hx : ∀ i, i < 5 → ∃ y, xs[i]? = some y := fun i hi => ⟨_, List.getElem?_eq_getElem (by rw [hlen]; exact hi)⟩
  obtain ⟨y0, e0⟩ := hx 0 (by omega)
  obtain ⟨y1, e1⟩ := hx 1 (by omega)
  obtain ⟨y2, e2⟩ := hx 2 (by omega)
  obtain ⟨y3, e3⟩ := hx 3 (by omega)
  obtain ⟨y4, e4⟩ := hx 4 (by omega)
  obtain ⟨nm, h0⟩ := fld_str Try.underlying9 c9 ((hf 0 _ rfl).trans e0)
  obtain ⟨kd, h1⟩ := fld_int Try.underlying3 c3 ((hf 1 _ rfl).trans e1)
  obtain ⟨ty, h2⟩ := fld_int Try.underlying3 c3 ((hf 2 _ rfl).trans e2)
  obtain ⟨vv, h3⟩ := fld_int Try.underlying21 c21 ((hf 3 _ rfl).trans e3)
  obtain ⟨pv, ps, h4, hp⟩ := rd_params c23 ((hf 4 _ rfl).trans e4) (agg_part e4 hb)
  exact ⟨⟨nm, kd, ty, vv, ps⟩, fun bl o hc => ⟨hc 0 _ h0, hc 1 _ h1, hc 2 _ h2, hc 3 _ h3, pv, hc 4 _ h4, hp⟩⟩
theorem rd_exs {m n o : Nat} {cs : List Value} {x : DataW H × List MemPlace} (hn : n = 1) (h : DataW.trod enc Try.prog w 0 sp held m 42 ((cs.drop o).take n) = some x) (hb : Rows.uptoBulk x.1 ≤ 1048576) : ∃ lv es, cs[o]? = some lv ∧ ExR [] w lv es := by
  subst hn
  obtain ⟨v, ps, h1, h2⟩ := read_slice (α := Ex) (EE [] w) Try.underlying42 c71 (by decide) h hb fun cs' y k hl hy hyb => by
    obtain ⟨p, hp⟩ := rd_ex hy hyb
    exact ⟨p, fun b o _ hc => hp b o hc⟩
  exact ⟨v, ps, take_one h1, h2⟩
theorem rd_op {m : Nat} {cs : List Value} {x : DataW H × List MemPlace} (h : DataW.trod enc Try.prog w 0 sp held m 57 cs = some x) (hb : Rows.uptoBulk x.1 ≤ 1048576) : ∃ z : OpD, ∀ b o, (∀ (j : Nat) (u : Value), cs[j]? = some u → w.cell? ⟨b, o + j, none⟩ = some u) → EOp [] w b o z := by
  obtain ⟨xs, n, _, rfl, hl, hlen, hf⟩ := DataW.trod_struct Try.underlying57 h
  have hx : ∀ i, i < 4 → ∃ y, xs[i]? = some y := fun i hi => ⟨_, List.getElem?_eq_getElem (by rw [hlen]; exact hi)⟩
  obtain ⟨y0, e0⟩ := hx 0 (by omega)
  obtain ⟨y1, e1⟩ := hx 1 (by omega)
  obtain ⟨y2, e2⟩ := hx 2 (by omega)
  obtain ⟨y3, e3⟩ := hx 3 (by omega)
  obtain ⟨kd, h0⟩ := fld_int Try.underlying3 c3 ((hf 0 _ rfl).trans e0)
  obtain ⟨nn, h1⟩ := fld_int Try.underlying3 c3 ((hf 1 _ rfl).trans e1)
  have hob := (hf 2 _ rfl).trans e2
  obtain ⟨lv, es, h10, he⟩ := rd_exs c42 ((hf 3 _ rfl).trans e3) (agg_part e3 hb)
  obtain ⟨z, pv, hp, q0, q1, q2, q3, q4, q5, q6, q7⟩ := rd_ob hob (agg_part e2 hb)
  have g : ∀ (j : Nat) (u : Value), j < 8 → ((cs.drop 2).take (Try.prog.cellsOf 25))[j]? = some u → cs[2 + j]? = some u := fun j u hj hu => by
    rw [c25, List.getElem?_take, if_pos hj, List.getElem?_drop] at hu; exact hu
  exact ⟨⟨kd, nn, z, es⟩, fun bl o hc => ⟨hc 0 _ h0, hc 1 _ h1, ⟨⟨hc 2 _ (g 0 _ (by omega) q0), hc 3 _ (g 1 _ (by omega) q1), hc 4 _ (g 2 _ (by omega) q2), hc 5 _ (g 3 _ (by omega) q3), hc 6 _ (g 4 _ (by omega) q4), hc 7 _ (g 5 _ (by omega) q5), hc 8 _ (g 6 _ (by omega) q6)⟩, pv, hc 9 _ (g 7 _ (by omega) q7), hp⟩, lv, hc 10 _ h10, he⟩⟩
theorem rd_script {m : Nat} {cs : List Value} {x : DataW H × List MemPlace} (h : DataW.trod enc Try.prog w 0 sp held m 22 cs = some x) (hb : Rows.uptoBulk x.1 ≤ 1048576) : ∃ v script, cs = [v] ∧ OpR [] w v script :=
  read_slice (α := OpD) (EOp [] w) Try.underlying22 c57 (by decide) h hb fun cs' y k hl hy hyb => by
    obtain ⟨p, hp⟩ := rd_op hy hyb
    exact ⟨p, fun b o _ hc => hp b o hc⟩
end
end Go.Proofs.Ytengenceelmijaa
