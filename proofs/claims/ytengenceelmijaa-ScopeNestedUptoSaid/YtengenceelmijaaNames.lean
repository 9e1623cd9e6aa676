import Derived.Test.YtengenceelmijaaMember
namespace Go.Proofs.Ytengenceelmijaa
open Go.RowKit
set_option linter.unusedVariables false

theorem info9 : (Try.prog.info? 9).map (fun i => (i.zero, i.size, i.bytes)) = some (some (.string ⟨#[]⟩), 1, 16) := by kernel_rfl
theorem ti59 : TI Try.prog 59 9 (.string ⟨#[]⟩) 1 16 := ⟨Try.underlying59, info9, rfl, by decide, by decide⟩

/-- A row of the call's own, laid since block B. -/
def OwnN (B : Nat) (w : World) (e : TypeId) (size : Nat) (v : Value) (n : Nat) (xs : List Value) : Prop := w.ownsRow 0 e size v n xs ∧ ∀ b, v.ownBlock = some b → B ≤ b
theorem OwnN.nil (B : Nat) (w : World) (e : TypeId) (size : Nat) : OwnN B w e size (.slice none 0 0) 0 [] := ⟨World.ownsRow_nil _ _ _ _, fun b h => by cases h⟩
theorem OwnN.next {B : Nat} {w w' w0 : World} {e : TypeId} {size n m A' c' : Nat} {v : Value} {xs news : List Value} {A1 : Option Addr} (h : OwnN B w e size v n xs) (ho : w'.ownsRow 0 e size (.slice A1 n c') n xs)
    (hB : B ≤ w0.heap.size) (hob : (Value.slice A1 n c').ownBlock = v.ownBlock ∨ (Value.slice A1 n c').ownBlock = some w0.heap.size) : OwnN B w' e size (.slice A1 n c') n xs := ⟨ho, fun b hb => by
  rcases hob with h1 | h1
  · exact h.2 b (h1 ▸ hb)
  · rw [h1] at hb; injection hb with hb; omega⟩

def strs (l : List ByteArray) : List Value := l.map Value.string

set_option maxHeartbeats 1000000 in
set_option maxRecDepth 100000 in
theorem f23_any {F : List Nat} {w : World} {p : Nat} {a : Abs} (h : Sc F w p a) :
    Calls Try.prog 23 #[.pointer (some ⟨p, 0, none⟩)] w fun e w' => ∃ v, e = .returned v ∧ Below w.heap.size w w' ∧ OwnN w.heap.size w' 9 1 v (top a).length (strs ((top a).map Ob.nm)) := by
  obtain ⟨ov, mv, vs, ms, h⟩ := h
  obtain ⟨h0, h1, hf, hp⟩ := h.pcell
  have hs1 := h.small.1
  have hs2 := h.small.2.2
  obtain ⟨k, hlen⟩ : ∃ k, a.opn.length = k + 1 := ⟨a.opn.length - 1, by omega⟩
  obtain ⟨A, c, rfl, hc, hA⟩ := own_cells h.ow
  obtain ⟨g, rfl, hgb, hg, hAc⟩ := hA hs2
  obtain ⟨B, d, xs, hxs, hgk, hrd, hxl2, hat⟩ := obs_at h (k := k) (by omega)
  have htop : top a = xs := by rw [top, hlen, Nat.add_sub_cancel, hxs]; rfl
  rw [hlen] at h0 hc
  have HT := Lib.hid htop
  have HA := Lib.hid hat
  have ki : (0 : Int) ≤ (k : Int) := by omega
  have kl : (k : Int) < (k : Int) + 1 := by omega
  have kb : k ≤ 64 := by omega
  clear h h1 hf hA hAc hgb hxs hlen htop hrd hat hs1 hs2
  go_enter Try.func23, Try.ntmps23
  go_wp2
  go_region
  go_wp2
  go_loopw [3, 5, 19] (fun v q i wr => ∃ j : Nat, j ≤ xs.length ∧ i = .int .i64 j ∧ Below w.heap.size w wr ∧ OwnN w.heap.size wr 9 1 v j (strs ((xs.take j).map Ob.nm))) (fun _ _ i _ => xs.length - (intOf i).toNat)
  case atStart => exact ⟨0, Nat.zero_le _, rfl, (Below.refl _ _).drew, OwnN.nil _ _ _ _⟩
  case round =>
    obtain ⟨j, hj, rfl, hB, hown⟩ := hrel
    by_cases hlt : j < xs.length
    · obtain ⟨x, hx⟩ : ∃ x, xs[j]? = some x := ⟨_, List.getElem?_eq_getElem hlt⟩
      obtain ⟨b, rfl, hbl, ⟨q0, q1, q2, q3, q4, q5, q6⟩, pv, q7, hps⟩ := HA.out j x hx
      obtain ⟨Ap, cp, rfl⟩ : ∃ A c, pv = .slice A x.ps.length c := by obtain ⟨_, A, c, h, _⟩ := hps; exact ⟨A, c, h⟩
      have r0 := (hB.cell (p := ⟨b, j * 8, none⟩) hbl).trans q0
      have r1 := (hB.cell (p := ⟨b, j * 8 + 1, none⟩) hbl).trans q1
      have r2 := (hB.cell (p := ⟨b, j * 8 + 2, none⟩) hbl).trans q2
      have r3 := (hB.cell (p := ⟨b, j * 8 + 3, none⟩) hbl).trans q3
      have r4 := (hB.cell (p := ⟨b, j * 8 + 4, none⟩) hbl).trans q4
      have r5 := (hB.cell (p := ⟨b, j * 8 + 5, none⟩) hbl).trans q5
      have r6 := (hB.cell (p := ⟨b, j * 8 + 6, none⟩) hbl).trans q6
      have r7 := (hB.cell (p := ⟨b, j * 8 + 7, none⟩) hbl).trans q7
      have HX := Lib.hid hx
      have hBs := hB.size
      obtain ⟨hrow, hnew⟩ := hown
      have HN := Lib.hid hnew
      clear q0 q1 q2 q3 q4 q5 q6 q7 hx hps hnew
      go_wp2_with (at_builtin; refine wpList_app ti59 (by rfl) _ _ (by rfl) (by rfl) (by exact (hrow.alloc _).alloc _) (by rfl) [.string x.nm] (by rfl) (by exact new_src_at _ #[.string x.nm] 9 (0, 0) 1 _ (by simp)) (by simp [Value.oneCell']) (by omega) ?_)
      intro A1 c1 w5 hown5 hg5 hob5
      have HO := Lib.hid hown5
      have HG := Lib.hid hg5
      have HB5 := Lib.hid hob5
      clear hown5 hg5 hob5
      go_wp2
      go_roundw
      case rel =>
        have hsz : w.heap.size ≤ ((wr.alloc (.cells #[.string x.nm, .int .i64 x.kd, .int .i64 x.ty, .int .i64 x.lv, .int .i32 x.n, .int .i64 x.md, .bool x.out, .slice Ap x.ps.length cp] 25)).alloc (.cells #[.string x.nm] 9)).heap.size := by simp; omega
        refine ⟨j + 1, by omega, by go_num, ((hB.alloc hBs _).alloc (by simp; omega) _).grown HG.out hsz (fun b hb => HN.out b hb), ?_, fun b hb => ?_⟩
        · rw [List.take_add_one, HX.out]
          simpa [strs] using HO.out
        · rcases HB5.out with h1 | h1
          · exact HN.out b (h1 ▸ hb)
          · rw [h1] at hb; injection hb with hb; omega
      case measure => simp [intOf]; omega
    · obtain rfl : j = xs.length := by omega
      go_wp2
      go_ret
      rw [HT.out]
      rw [List.take_of_length_le (Nat.le_refl _)] at hown
      exact ⟨_, rfl, hB, hown⟩
end Go.Proofs.Ytengenceelmijaa
