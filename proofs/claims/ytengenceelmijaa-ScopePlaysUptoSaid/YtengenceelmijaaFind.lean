import Derived.Test.YtengenceelmijaaMem
namespace Go.Proofs.Ytengenceelmijaa
open Go.RowKit
set_option linter.unusedVariables false

/-- A whole object's cells, whatever its parameters. -/
def EO0 (w : World) (b o : Nat) (nm : ByteArray) : Prop := ∃ x : Ob, x.nm = nm ∧ Ob7 w b o x ∧ ∃ pv, cel w b (o + 7) pv
def Rd (w : World) (A : Option Addr) (ns : List ByteArray) : Prop :=
  ns ≠ [] → ∃ b o, A = some ⟨b, o, none⟩ ∧ b < w.heap.size ∧ ∀ i s, ns[i]? = some s → EO0 w b (o + i * 8) s

def findI : List ByteArray → ByteArray → Option Nat
  | [], _ => none
  | a :: l, s => if a.toList == s.toList then some 0 else (findI l s).map (· + 1)
def findZ (l : List ByteArray) (s : ByteArray) : Int := match findI l s with | some i => i | none => -1

theorem f38_any (nm : ByteArray) (k1 k2 k3 k4 k5 : Int) (o : Bool) (ps : Value) (b : Nat) (tg : ByteArray) (w : World) (hb : b < w.heap.size)
    (hc : w.cell? ⟨b, 0, none⟩ = some (.string tg)) :
    Calls Try.prog 38 #[.agg #[.string nm, .int .i64 k1, .int .i64 k2, .int .i64 k3, .int .i32 k4, .int .i64 k5, .bool o, ps], .pointer (some ⟨b, 0, none⟩)] w
      fun e w' => e = .returned (.bool (nm.toList == tg.toList)) ∧ Below w.heap.size w w' := by
  go_enter Try.func38, Try.ntmps38
  go_wp2
  go_ret
  exact ⟨rfl, (Below.refl _ _).alloc (Nat.le_refl _) _⟩

theorem findI_none {l : List ByteArray} {s : ByteArray} (h : ∀ (i : Nat) (a : ByteArray), l[i]? = some a → (a.toList == s.toList) = false) : findI l s = none := by
  induction l with
  | nil => rfl
  | cons x l ih =>
    have h0 := h 0 x rfl
    simp only [findI, h0]
    rw [ih fun i a hi => h (i + 1) a (by simpa using hi)]; rfl
theorem findI_some {l : List ByteArray} {s : ByteArray} {k : Nat} {a : ByteArray} (hk : l[k]? = some a) (ha : (a.toList == s.toList) = true)
    (h : ∀ (i : Nat) (a : ByteArray), i < k → l[i]? = some a → (a.toList == s.toList) = false) : findI l s = some k := by
  induction l generalizing k with
  | nil => simp at hk
  | cons x l ih =>
    cases k with
    | zero => simp at hk; subst hk; simp [findI, ha]
    | succ k =>
      have h0 := h 0 x (by omega) rfl
      simp only [findI, h0]
      rw [ih (by simpa using hk) fun i a hi hl => h (i + 1) a (by omega) (by simpa using hl)]; rfl

theorem f37_any (A : Option Addr) (c : Nat) (ns : List ByteArray) (b : Nat) (tg : ByteArray) (w : World) (hb : b < w.heap.size)
    (hc : w.cell? ⟨b, 0, none⟩ = some (.string tg)) (hr : Rd w A ns) (hn : ns.length ≤ 4194304) :
    Calls Try.prog 37 #[.slice A ns.length c, .func (.func 38) #[] #[.pointer (some ⟨b, 0, none⟩)]] w
      fun e w' => e = .returned (.int .i64 (findZ ns tg)) ∧ Below w.heap.size w w' := by
  go_enter Try.func37, Try.ntmps37
  go_wp2_with fail
  go_loopw [5, 8] (fun j i wr => ∃ k : Nat, k ≤ ns.length ∧ i = .int .i64 k ∧ Below w.heap.size w wr ∧ ∀ (i : Nat) (a : ByteArray), i < k → ns[i]? = some a → (a.toList == tg.toList) = false) (fun _ i _ => ns.length - (intOf i).toNat)
  case atStart => exact ⟨0, by omega, rfl, Below.refl _ _, fun i a h => by omega⟩
  case round =>
    obtain ⟨k, hk, rfl, hbel, hno⟩ := hrel
    by_cases hlt : k < ns.length
    · obtain ⟨b1, o1, rfl, hb1, hcell⟩ := hr (by rintro rfl; simp at hlt)
      obtain ⟨x, hx, ⟨h0, h1, h2, h3, h4, h5, h6⟩, pv, h7⟩ := hcell k ns[k] (List.getElem?_eq_getElem hlt)
      have e0 := (hbel.cell (p := ⟨b1, o1 + k * 8, none⟩) hb1).trans h0
      have e1 := (hbel.cell (p := ⟨b1, o1 + k * 8 + 1, none⟩) hb1).trans h1
      have e2 := (hbel.cell (p := ⟨b1, o1 + k * 8 + 2, none⟩) hb1).trans h2
      have e3 := (hbel.cell (p := ⟨b1, o1 + k * 8 + 3, none⟩) hb1).trans h3
      have e4 := (hbel.cell (p := ⟨b1, o1 + k * 8 + 4, none⟩) hb1).trans h4
      have e5 := (hbel.cell (p := ⟨b1, o1 + k * 8 + 5, none⟩) hb1).trans h5
      have e6 := (hbel.cell (p := ⟨b1, o1 + k * 8 + 6, none⟩) hb1).trans h6
      have e7 := (hbel.cell (p := ⟨b1, o1 + k * 8 + 7, none⟩) hb1).trans h7
      have ec := (hbel.cell (p := ⟨b, 0, none⟩) hb).trans hc
      have HX := Lib.hid hx
      have HN := Lib.hid hno
      clear h0 h1 h2 h3 h4 h5 h6 h7 hx hno hcell hr hc
      have hs := hbel.size
      go_wp2_with (go_at_call 38; refine (f38_any _ _ _ _ _ _ _ _ _ tg _ (by omega) ec).mono ?_; rintro e w1 ⟨rfl, hb2⟩)
      · have ht : (x.nm.toList == tg.toList) = true := by assumption
        go_ret
        refine ⟨?_, hbel.trans (hb2.mono (by omega))⟩
        rw [findZ, findI_some (List.getElem?_eq_getElem hlt) (by rw [← HX.out]; exact ht) HN.out]; rfl
      · have ht : (x.nm.toList == tg.toList) = false := by assumption
        go_roundw
        case rel =>
          refine ⟨k + 1, by omega, by go_num, hbel.trans (hb2.mono (by omega)), fun i a hi hl => ?_⟩
          by_cases hik : i < k
          · exact HN.out i a hik hl
          · obtain rfl : i = k := by omega
            rw [List.getElem?_eq_getElem hlt] at hl
            injection hl with hl
            subst hl
            rw [← HX.out]; exact ht
        case measure => simp [intOf]; omega
    · have HN := Lib.hid hno
      clear hno hr hc
      go_wp2_with fail
      go_ret
      refine ⟨?_, hbel⟩
      rw [findZ, findI_none fun i a hi => HN.out i a (by have := (List.getElem?_eq_some_iff.1 hi).1; omega) hi]; rfl

theorem f25_any (A : Option Addr) (c : Nat) (ns : List ByteArray) (tg : ByteArray) (w : World) (hr : Rd w A ns) (hn : ns.length ≤ 4194304) :
    Calls Try.prog 25 #[.slice A ns.length c, .string tg] w
      fun e w' => e = .returned (.int .i64 (findZ ns tg)) ∧ Below w.heap.size w w' := by
  have hr' : Rd (w.alloc (.cells #[.string tg] 9)) A ns := fun h => by
    obtain ⟨b, o, rfl, hb, hc⟩ := hr h
    refine ⟨b, o, rfl, by simp; omega, fun i s hi => ?_⟩
    obtain ⟨x, hx, ⟨h0, h1, h2, h3, h4, h5, h6⟩, pv, h7⟩ := hc i s hi
    have k : ∀ j v, cel w b j v → cel (w.alloc (.cells #[.string tg] 9)) b j v := fun j v h => (World.cell?_alloc_lt _ _ _ (by exact hb)).trans h
    exact ⟨x, hx, ⟨k _ _ h0, k _ _ h1, k _ _ h2, k _ _ h3, k _ _ h4, k _ _ h5, k _ _ h6⟩, pv, k _ _ h7⟩
  go_enter Try.func25, Try.ntmps25
  go_wp2_with (go_at_call 37; refine (f37_any _ _ ns _ tg _ (by simp) (by simp) hr' hn).mono ?_; rintro e w1 ⟨rfl, hb2⟩)
  go_ret
  exact ⟨rfl, ((Below.refl _ _).alloc (Nat.le_refl _) _).trans (hb2.mono (by simp))⟩
end Go.Proofs.Ytengenceelmijaa
