import Derived.Test.YtengenceelmijaaDoC
namespace Go.Proofs.Ytengenceelmijaa
open Go.RowKit
set_option linter.unusedVariables false

theorem Fr.poke {w w2 wq : World} {F : List Nat} {g : Nat} (h : Fr [] w F w2) (hs : SameBut g w2 wq) (hg : w.heap.size ≤ g) : Fr [] w F wq :=
  ⟨hs.os.trans h.os, hs.tape.trans h.tape, hs.output.trans h.output, by rw [hs.size]; exact h.size, fun b hb hn => (hs.block b (by omega)).trans (h.block b hb hn), h.sub⟩
theorem OwnN.keep {B : Nat} {w w' : World} {e : TypeId} {size n : Nat} {v : Value} {xs : List Value} (h : OwnN B w e size v n xs) (hB : Below w.heap.size w w') : OwnN B w' e size v n xs := ⟨ownsRow_same h.1 fun b hb => hB.block b (ownsRow_lt h.1 hb), h.2⟩
theorem OwnN.low {B C : Nat} {w : World} {e : TypeId} {size n : Nat} {v : Value} {xs : List Value} (h : OwnN B w e size v n xs) (hC : C ≤ B) : OwnN C w e size v n xs := ⟨h.1, fun b hb => Nat.le_trans hC (h.2 b hb)⟩
/-- What stands behind a call of do. -/
structure Step (w wq : World) (g6 g8 p : Nat) (F' : List Nat) (a' : Abs) (r r' : Rf) (A B A' B' : Option Addr) (c d c' d' : Nat) : Prop where
  fr : Fr [] w F' wq
  fn : ∀ b ∈ F', w.heap.size < b ∧ b ≠ g6
  sc : Sc F' wq p a'
  rf : RfR ([w.heap.size, g6] ++ F') wq (.agg #[.slice A' r'.l.length c', .int .i64 r'.lv, .slice B' r'.mods.length d']) r'
  x0 : wq.heap[w.heap.size]? = some (.cells #[.slice none 0 0, .int .i64 0, .slice none 0 0] 31 (0, 0))
  x6 : wq.heap[g6]? = some (.cells #[.slice A r.l.length c, .int .i64 r.lv, .slice B r.mods.length d] 31 (0, 0))
  x8 : wq.heap[g8]? = some (.cells #[.slice A' r'.l.length c', .int .i64 r'.lv, .slice B' r'.mods.length d'] 31 (0, 0))
  l8 : g8 ≠ g6 ∧ g8 ≠ w.heap.size
theorem Step.below {w wq wz : World} {g6 g8 p : Nat} {F' : List Nat} {a' : Abs} {r r' : Rf} {A B A' B' : Option Addr} {c d c' d' : Nat} (h : Step w wq g6 g8 p F' a' r r' A B A' B' c d c' d') (h0 : w.heap.size < wq.heap.size) (h6 : g6 < wq.heap.size) (h8 : g8 < wq.heap.size) (hB : Below wq.heap.size wq wz) :
    Step w wz g6 g8 p F' a' r r' A B A' B' c d c' d' :=
  ⟨h.fr.trans (Fr.of_below hB), h.fn, h.sc.below hB, h.rf.keep (Fr.of_below hB), (hB.block _ h0).trans h.x0, (hB.block _ h6).trans h.x6, (hB.block _ h8).trans h.x8, h.l8⟩
theorem RfR.weak {F F' : List Nat} {w : World} {v : Value} {r : Rf} (h : RfR F w v r) (hF : ∀ b ∈ F', b ∈ F) : RfR F' w v r := by
  obtain ⟨lv, mv, rfl, h1, h2⟩ := h
  exact ⟨lv, mv, rfl, h1.weak hF, h2.weak hF⟩
theorem op_at {F : List Nat} {w : World} {v : Value} {xs : List OpD} (h : OpR F w v xs) : ∃ A c, v = .slice A xs.length c ∧ xs.length ≤ c ∧ xs.length ≤ 4194304 ∧ ∀ i x, xs[i]? = some x → ∃ b o, A = some ⟨b, o, none⟩ ∧ Good F w b ∧
    (w.cell? ⟨b, o + i * 11, none⟩ = some (.int .i64 x.kind) ∧ w.cell? ⟨b, o + i * 11 + 1, none⟩ = some (.int .i64 x.n) ∧ w.cell? ⟨b, o + i * 11 + 2, none⟩ = some (.string x.x.nm) ∧ w.cell? ⟨b, o + i * 11 + 3, none⟩ = some (.int .i64 x.x.kd) ∧
     w.cell? ⟨b, o + i * 11 + 4, none⟩ = some (.int .i64 x.x.ty) ∧ w.cell? ⟨b, o + i * 11 + 5, none⟩ = some (.int .i64 x.x.lv) ∧ w.cell? ⟨b, o + i * 11 + 6, none⟩ = some (.int .i32 x.x.n) ∧ w.cell? ⟨b, o + i * 11 + 7, none⟩ = some (.int .i64 x.x.md) ∧ w.cell? ⟨b, o + i * 11 + 8, none⟩ = some (.bool x.x.out)) ∧
    ∃ pv lv, w.cell? ⟨b, o + i * 11 + 9, none⟩ = some pv ∧ PsR F w pv x.x.ps ∧ w.cell? ⟨b, o + i * 11 + 10, none⟩ = some lv ∧ ExR F w lv x.list := by
  obtain ⟨hl, A, c, rfl, hc, hx⟩ := h
  refine ⟨A, c, rfl, hc, hl, fun i x hi => ?_⟩
  obtain ⟨b, o, rfl, hg, hx⟩ := hx (by rintro rfl; simp at hi)
  obtain ⟨h0, h1, ⟨⟨q0, q1, q2, q3, q4, q5, q6⟩, pv, q7, hp⟩, lv, h4, hl⟩ := hx i x hi
  exact ⟨b, o, rfl, hg, ⟨h0, h1, q0, q1, q2, q3, q4, q5, q6⟩, pv, lv, q7, hp, h4, hl⟩

theorem results_play (fn : Func) (hr : fn.results = #[.tmp 2, .cell 3 31, .tmp 4]) (tmps : Array Value) (w : World) (g : Nat) (c0 c1 c2 u v : Value) (hu : tmps.getD 2 undef = u) (hp : tmps.getD 3 undef = .pointer (some ⟨g, 0, none⟩)) (ht : tmps.getD 4 undef = v)
    (hg : w.heap[g]? = some (.cells #[c0, c1, c2] 31 (0, 0))) :
    (results fn tmps).run Try.prog w = .ok (.tuple #[u, .agg #[c0, c1, c2], v]) w := by
  have hp' : tmps[3]?.getD undef = .pointer (some ⟨g, 0, none⟩) := by simpa using hp
  have ht' : tmps[4]?.getD undef = v := by simpa using ht
  have hu' : tmps[2]?.getD undef = u := by simpa using hu
  obtain ⟨⟨h0, h1, h2⟩, _⟩ := cells3 hg
  simp [results, hr, hp', ht', hu', asAddr, go_sem, h0, h1, h2]
def PlayPost (w : World) (e : Ending) (w' : World) : Prop := ∃ F p a r v, e = .returned (.tuple #[.pointer (some ⟨p, 0, none⟩), v, .bool true]) ∧ Fr [] w F w' ∧ Sc F w' p a ∧ RfR F w' v r ∧ Rel a r ∧ r.l.length ≤ 100

set_option maxHeartbeats 4000000 in
set_option maxRecDepth 100000 in
theorem f7_any {w : World} {v : Value} {script : List OpD} (h : OpR [] w v script) : Calls Try.prog 7 #[v] w (PlayPost w) := by
  obtain ⟨S0, cS, rfl, hcS, hlS, hS⟩ := op_at h
  have HS := Lib.hid hS
  clear h hS
  go_enter Try.func7, Try.ntmps7
  go_wp2_with (go_at_call 20; refine (f20_any _).mono ?_; rintro e w1 ⟨p, F0, rfl, hf0, hsc0⟩; have HF0 := Lib.hid hf0; have HSC0 := Lib.hid hsc0; clear hf0 hsc0)
  obtain ⟨g6, hg6⟩ : ∃ g6, g6 = w1.heap.size := ⟨_, rfl⟩
  obtain ⟨W, hW⟩ : ∃ W, W = w1.alloc (.cells #[.slice none 0 0, .int .i64 0, .slice none 0 0] 31) := ⟨_, rfl⟩
  rw [← hW, ← hg6]
  have hB0 : Below w.heap.size w (w.alloc (.cells #[.slice none 0 0, .int .i64 0, .slice none 0 0] 31)) := (Below.refl _ _).alloc (Nat.le_refl _) _
  have hB1 : Below w1.heap.size w1 W := by rw [hW]; exact (Below.refl _ _).alloc (Nat.le_refl _) _
  have hf1 : Fr [] w F0 W := ((Fr.of_below hB0).trans HF0.out).trans (Fr.of_below hB1)
  have hw0 : w.heap.size < w1.heap.size := by have := HF0.out.size; simp at this; omega
  have hF0n : ∀ b ∈ F0, w.heap.size < b ∧ b < g6 := fun b hb => ⟨by
    rcases HF0.out.sub b hb with h | h
    · cases h
    · simp at h; omega, by rw [hg6]; exact HSC0.out.lt b hb⟩
  have hX0 : W.heap[w.heap.size]? = some (.cells #[.slice none 0 0, .int .i64 0, .slice none 0 0] 31 (0, 0)) := (hB1.block _ hw0).trans ((HF0.out.block _ (by simp) (by simp)).trans (heap_alloc_new w _))
  have hX6 : W.heap[g6]? = some (.cells #[.slice none 0 0, .int .i64 0, .slice none 0 0] 31 (0, 0)) := by rw [hW, hg6]; exact heap_alloc_new w1 _
  have hsc1 := HSC0.out.below hB1
  have h6l : w.heap.size < g6 := by omega
  have H1 := Lib.hid hf1
  have H2 := Lib.hid hF0n
  have H3 := Lib.hid hX0
  have H4 := Lib.hid hX6
  have H5 := Lib.hid hsc1
  clear hB0 hB1 hf1 hF0n hX0 hX6 hsc1 hw0 hW hg6
  go_loopw [7, 8, 9] (fun i q q' wr => ∃ (j : Nat) (F : List Nat) (a : Abs) (r : Rf) (A B : Option Addr) (c d : Nat), j ≤ script.length ∧ j ≤ 100 ∧ i = .int .i64 j ∧ Fr [] w F wr ∧ (∀ b ∈ F, w.heap.size < b ∧ b ≠ g6) ∧ Sc F wr p a ∧ Rel a r ∧ r.l.length ≤ j ∧
      RfR ([w.heap.size, g6] ++ F) wr (.agg #[.slice A r.l.length c, .int .i64 r.lv, .slice B r.mods.length d]) r ∧ wr.heap[w.heap.size]? = some (.cells #[.slice none 0 0, .int .i64 0, .slice none 0 0] 31 (0, 0)) ∧
      wr.heap[g6]? = some (.cells #[.slice A r.l.length c, .int .i64 r.lv, .slice B r.mods.length d] 31 (0, 0))) (fun i _ _ _ => 100 - (intOf i).toNat)
  case atStart => exact ⟨0, F0, ⟨[[]], []⟩, ⟨[], 0, []⟩, none, none, 0, 0, Nat.zero_le _, by omega, rfl, H1.out, fun b hb => ⟨(H2.out b hb).1, by have := (H2.out b hb).2; omega⟩, H5.out, Rel.new, by simp, ⟨_, _, rfl, Sl.nil _ _ _, Sl.nil _ _ _⟩, H3.out, H4.out⟩
  case round =>
    obtain ⟨j, F, a, r, A, B, c, d, hj, hj1, rfl, hf, hFn, hsc, hrel, hrl, hrf, hx0, hx6⟩ := hrel
    obtain ⟨⟨a0, a1, a2⟩, af⟩ := cells3 hx6
    obtain ⟨⟨z0, z1, z2⟩, zf⟩ := cells3 hx0
    have af0 := af 0
    have af1 := af 1
    have af2 := af 2
    have zf0 := zf 0
    have zf1 := zf 1
    have zf2 := zf 2
    have hBw : Below w.heap.size w wr := hf.below
    have hwr6 : g6 < wr.heap.size := (Array.getElem?_eq_some_iff.1 hx6).1
    have hwr0 : w.heap.size < wr.heap.size := by omega
    have HFR := Lib.hid hf
    have HFN := Lib.hid hFn
    have HSC := Lib.hid hsc
    have HREL := Lib.hid hrel
    have HRF := Lib.hid hrf
    have HX0 := Lib.hid hx0
    have HX6 := Lib.hid hx6
    clear af zf hf hFn hsc hrel hrf hx0 hx6
    by_cases hlt : j < script.length ∧ j < 100
    · obtain ⟨hlt, hlt1⟩ := hlt
      obtain ⟨x, hx⟩ : ∃ x, script[j]? = some x := ⟨_, List.getElem?_eq_getElem hlt⟩
      obtain ⟨b, o, rfl, hbl, ⟨q0, q1, q2, q3, q4, q5, q6, q7, q8⟩, pv, lv, q9, hps, q10, hes⟩ := HS.out j x hx
      have hm : Fr [] w ([w.heap.size, g6] ++ F) wr := Fr.more hBw fun b hb => .inr (by
        simp at hb
        rcases hb with h | h | h
        · omega
        · omega
        · have := (HFN.out b h).1; omega)
      have HP := Lib.hid (hps.keep hm)
      have HE := Lib.hid (hes.keep hm)
      obtain ⟨Ap, cp, rfl, _⟩ := ps_at hps
      obtain ⟨E, f, rfl, _⟩ := eim_at hes
      have r0 := (hBw.cell (p := ⟨b, o + j * 11, none⟩) hbl.1).trans q0
      have r1 := (hBw.cell (p := ⟨b, o + j * 11 + 1, none⟩) hbl.1).trans q1
      have r2 := (hBw.cell (p := ⟨b, o + j * 11 + 2, none⟩) hbl.1).trans q2
      have r3 := (hBw.cell (p := ⟨b, o + j * 11 + 3, none⟩) hbl.1).trans q3
      have r4 := (hBw.cell (p := ⟨b, o + j * 11 + 4, none⟩) hbl.1).trans q4
      have r5 := (hBw.cell (p := ⟨b, o + j * 11 + 5, none⟩) hbl.1).trans q5
      have r6 := (hBw.cell (p := ⟨b, o + j * 11 + 6, none⟩) hbl.1).trans q6
      have r7 := (hBw.cell (p := ⟨b, o + j * 11 + 7, none⟩) hbl.1).trans q7
      have r8 := (hBw.cell (p := ⟨b, o + j * 11 + 8, none⟩) hbl.1).trans q8
      have r9 := (hBw.cell (p := ⟨b, o + j * 11 + 9, none⟩) hbl.1).trans q9
      have r10 := (hBw.cell (p := ⟨b, o + j * 11 + 10, none⟩) hbl.1).trans q10
      have hbw : b < w.heap.size := hbl.1
      have hbr : b < wr.heap.size := Nat.lt_of_lt_of_le hbl.1 hBw.size
      have hb6 : b ≠ g6 := by omega
      clear q0 q1 q2 q3 q4 q5 q6 q7 q8 q9 q10 hps hes hbl hx hm
      have hc2 : ∀ wx, Below wr.heap.size wr wx → Calls Try.prog 21 #[.pointer (some ⟨p, 0, none⟩), .agg #[.slice A r.l.length c, .int .i64 r.lv, .slice B r.mods.length d], opV x (.slice Ap x.x.ps.length cp) (.slice E x.list.length f)] wx fun e w2 => DoPost [w.heap.size, g6] F wx p r.l.length e w2 ∧ (∀ b, b < wx.heap.size → b ∉ F → w2.heap[b]? = wx.heap[b]?) ∧ w2.cell? ⟨g6, 0, none⟩ = some (.slice A r.l.length c) ∧ w2.cell? ⟨g6, 1, none⟩ = some (.int .i64 r.lv) ∧ w2.cell? ⟨g6, 2, none⟩ = some (.slice B r.mods.length d) ∧ w2.cell? ⟨b, o + j * 11, none⟩ = some (.int .i64 x.kind) ∧ w2.cell? ⟨b, o + j * 11 + 1, none⟩ = some (.int .i64 x.n) ∧ w2.cell? ⟨b, o + j * 11 + 2, none⟩ = some (.string x.x.nm) ∧ w2.cell? ⟨b, o + j * 11 + 3, none⟩ = some (.int .i64 x.x.kd) ∧ w2.cell? ⟨b, o + j * 11 + 4, none⟩ = some (.int .i64 x.x.ty) ∧ w2.cell? ⟨b, o + j * 11 + 5, none⟩ = some (.int .i64 x.x.lv) ∧ w2.cell? ⟨b, o + j * 11 + 6, none⟩ = some (.int .i32 x.x.n) ∧ w2.cell? ⟨b, o + j * 11 + 7, none⟩ = some (.int .i64 x.x.md) ∧ w2.cell? ⟨b, o + j * 11 + 8, none⟩ = some (.bool x.x.out) ∧ w2.cell? ⟨b, o + j * 11 + 9, none⟩ = some (.slice Ap x.x.ps.length cp) ∧ w2.cell? ⟨b, o + j * 11 + 10, none⟩ = some (.slice E x.list.length f) := fun wx hwx => by
        refine (f21_any (X := [w.heap.size, g6]) x (HSC.out.below hwx) (HRF.out.keep (Fr.of_below hwx)) (fun b hb => ?_) HREL.out (by omega) (HP.out.keep (Fr.of_below hwx)) (HE.out.keep (Fr.of_below hwx))).mono ?_
        · simp at hb; have := hwx.size; rcases hb with rfl | rfl <;> omega
        · intro e w2 hd
          obtain ⟨v', F', a', r', h1, h2, h3, h4, h5, h6⟩ := id hd
          have hk : ∀ b, b < wx.heap.size → b ∉ F → w2.heap[b]? = wx.heap[b]? := h2.block
          have k6 := fun o => World.cell?_of_block (a := ⟨g6, o, none⟩) ((hk g6 (Nat.lt_of_lt_of_le hwr6 hwx.size) (fun hm => (HFN.out _ hm).2 rfl)).trans (hwx.block g6 hwr6))
          have kb := fun o => World.cell?_of_block (a := ⟨b, o, none⟩) ((hk b (Nat.lt_of_lt_of_le hbr hwx.size) (fun hm => by have := (HFN.out _ hm).1; omega)).trans (hwx.block b hbr))
          exact ⟨hd, hk, (k6 _).trans a0, (k6 _).trans a1, (k6 _).trans a2, (kb _).trans r0, (kb _).trans r1, (kb _).trans r2, (kb _).trans r3, (kb _).trans r4, (kb _).trans r5, (kb _).trans r6, (kb _).trans r7, (kb _).trans r8, (kb _).trans r9, (kb _).trans r10⟩
      have HC2 := Lib.hid hc2
      have hc3 : ∀ wx, Below wr.heap.size wr wx → wr.heap.size < wx.heap.size → Calls Try.prog 21 #[.pointer (some ⟨p, 0, none⟩), .agg #[.slice A r.l.length c, .int .i64 r.lv, .slice B r.mods.length d], opV x (.slice Ap x.x.ps.length cp) (.slice E x.list.length f)] wx fun e w2 => DoPost [w.heap.size, g6, wr.heap.size] F wx p r.l.length e w2 ∧ (∀ b, b < wx.heap.size → b ∉ F → w2.heap[b]? = wx.heap[b]?) ∧ w2.cell? ⟨g6, 0, none⟩ = some (.slice A r.l.length c) ∧ w2.cell? ⟨g6, 1, none⟩ = some (.int .i64 r.lv) ∧ w2.cell? ⟨g6, 2, none⟩ = some (.slice B r.mods.length d) ∧ w2.cell? ⟨b, o + j * 11, none⟩ = some (.int .i64 x.kind) ∧ w2.cell? ⟨b, o + j * 11 + 1, none⟩ = some (.int .i64 x.n) ∧ w2.cell? ⟨b, o + j * 11 + 2, none⟩ = some (.string x.x.nm) ∧ w2.cell? ⟨b, o + j * 11 + 3, none⟩ = some (.int .i64 x.x.kd) ∧ w2.cell? ⟨b, o + j * 11 + 4, none⟩ = some (.int .i64 x.x.ty) ∧ w2.cell? ⟨b, o + j * 11 + 5, none⟩ = some (.int .i64 x.x.lv) ∧ w2.cell? ⟨b, o + j * 11 + 6, none⟩ = some (.int .i32 x.x.n) ∧ w2.cell? ⟨b, o + j * 11 + 7, none⟩ = some (.int .i64 x.x.md) ∧ w2.cell? ⟨b, o + j * 11 + 8, none⟩ = some (.bool x.x.out) ∧ w2.cell? ⟨b, o + j * 11 + 9, none⟩ = some (.slice Ap x.x.ps.length cp) ∧ w2.cell? ⟨b, o + j * 11 + 10, none⟩ = some (.slice E x.list.length f) := fun wx hwx hlx => by
        refine (f21_any (X := [w.heap.size, g6, wr.heap.size]) x (HSC.out.below hwx) (HRF.out.keep (Fr.more hwx fun b hb => by simp at hb ⊢; rcases hb with h | h | h | h; exact .inl (.inl h); exact .inl (.inr (.inl h)); exact .inr (by omega); exact .inl (.inr (.inr h)))) (fun b hb => ?_) HREL.out (by omega) (HP.out.keep (Fr.more hwx fun b hb => by simp at hb ⊢; rcases hb with h | h | h | h; exact .inl (.inl h); exact .inl (.inr (.inl h)); exact .inr (by omega); exact .inl (.inr (.inr h)))) (HE.out.keep (Fr.more hwx fun b hb => by simp at hb ⊢; rcases hb with h | h | h | h; exact .inl (.inl h); exact .inl (.inr (.inl h)); exact .inr (by omega); exact .inl (.inr (.inr h))))).mono ?_
        · simp at hb; have := hwx.size; rcases hb with rfl | rfl | rfl <;> omega
        · intro e w2 hd
          obtain ⟨v', F', a', r', h1, h2, h3, h4, h5, h6⟩ := id hd
          have hk : ∀ b, b < wx.heap.size → b ∉ F → w2.heap[b]? = wx.heap[b]? := h2.block
          have k6 := fun o => World.cell?_of_block (a := ⟨g6, o, none⟩) ((hk g6 (Nat.lt_of_lt_of_le hwr6 hwx.size) (fun hm => (HFN.out _ hm).2 rfl)).trans (hwx.block g6 hwr6))
          have kb := fun o => World.cell?_of_block (a := ⟨b, o, none⟩) ((hk b (Nat.lt_of_lt_of_le hbr hwx.size) (fun hm => by have := (HFN.out _ hm).1; omega)).trans (hwx.block b hbr))
          exact ⟨hd, hk, (k6 _).trans a0, (k6 _).trans a1, (k6 _).trans a2, (kb _).trans r0, (kb _).trans r1, (kb _).trans r2, (kb _).trans r3, (kb _).trans r4, (kb _).trans r5, (kb _).trans r6, (kb _).trans r7, (kb _).trans r8, (kb _).trans r9, (kb _).trans r10⟩
      have HC3 := Lib.hid hc3
      clear hc2 hc3
      go_wp2_with fail
      go_region_held3 (fun w' => w'.cell? ⟨g6, 0, none⟩ = some (.slice A r.l.length c) ∧ w'.cell? ⟨g6, 1, none⟩ = some (.int .i64 r.lv) ∧ w'.cell? ⟨g6, 2, none⟩ = some (.slice B r.mods.length d) ∧ w'.cell? ⟨b, o + j * 11, none⟩ = some (.int .i64 x.kind) ∧ w'.cell? ⟨b, o + j * 11 + 1, none⟩ = some (.int .i64 x.n) ∧ w'.cell? ⟨b, o + j * 11 + 2, none⟩ = some (.string x.x.nm) ∧ w'.cell? ⟨b, o + j * 11 + 3, none⟩ = some (.int .i64 x.x.kd) ∧ w'.cell? ⟨b, o + j * 11 + 4, none⟩ = some (.int .i64 x.x.ty) ∧ w'.cell? ⟨b, o + j * 11 + 5, none⟩ = some (.int .i64 x.x.lv) ∧ w'.cell? ⟨b, o + j * 11 + 6, none⟩ = some (.int .i32 x.x.n) ∧ w'.cell? ⟨b, o + j * 11 + 7, none⟩ = some (.int .i64 x.x.md) ∧ w'.cell? ⟨b, o + j * 11 + 8, none⟩ = some (.bool x.x.out) ∧ w'.cell? ⟨b, o + j * 11 + 9, none⟩ = some (.slice Ap x.x.ps.length cp) ∧ w'.cell? ⟨b, o + j * 11 + 10, none⟩ = some (.slice E x.list.length f)) (first | go_keep | (refine ⟨?_, ?_, ?_, ?_, ?_, ?_, ?_, ?_, ?_, ?_, ?_, ?_, ?_, ?_⟩ <;> (rw [cell_3 (by omega)]; assumption))) (first | (go_at_call 21; refine (HC3.out _ (((Below.refl _ _).alloc (Nat.le_refl _) _).drew) (by simp)).mono ?_; rintro e w2 ⟨⟨v', F', a', r', rfl, hf2, hs2, hr2, hrel2, hl2⟩, hk2, s0, s1, s2, p0, p1, p2, p3, p4, p5, p6, p7, p8, p9, p10⟩; have x8 : w2.heap[wr.heap.size]? = some (.cells #[.slice none 0 0, .int .i64 0, .slice none 0 0] 31) := (hk2 _ (by simp) (fun hm => absurd (HSC.out.lt _ hm) (Nat.lt_irrefl _))).trans (heap_alloc_new wr _); obtain ⟨⟨y0, y1, y2⟩, yf⟩ := cells3 x8; have yf0 := yf 0; have yf1 := yf 1; have yf2 := yf 2; have HX8 := Lib.hid x8; clear yf x8; obtain ⟨_, _, rfl, hla, hma⟩ := hr2; obtain ⟨A', c', rfl, _⟩ := ob_at hla; obtain ⟨B', d', rfl, _⟩ := obs_shape hma; have HK2 := Lib.hid hk2; have HF2 := Lib.hid hf2; have HS2 := Lib.hid hs2; have HL2 := Lib.hid hla; have HM2 := Lib.hid hma; have HREL2 := Lib.hid hrel2; have hl2s := hf2.size; clear hk2 hf2 hs2 hla hma hrel2) | (go_at_call 21; refine (HC2.out _ ((Below.refl _ _).drew)).mono ?_; rintro e w2 ⟨⟨v', F', a', r', rfl, hf2, hs2, hr2, hrel2, hl2⟩, hk2, s0, s1, s2, p0, p1, p2, p3, p4, p5, p6, p7, p8, p9, p10⟩; obtain ⟨_, _, rfl, hla, hma⟩ := hr2; obtain ⟨A', c', rfl, _⟩ := ob_at hla; obtain ⟨B', d', rfl, _⟩ := obs_shape hma; have HK2 := Lib.hid hk2; have HF2 := Lib.hid hf2; have HS2 := Lib.hid hs2; have HL2 := Lib.hid hla; have HM2 := Lib.hid hma; have HREL2 := Lib.hid hrel2; have hl2s := hf2.size; clear hk2 hf2 hs2 hla hma hrel2))
      all_goals first
        | (obtain ⟨wq, hwq⟩ : ∃ wq, wq = ((w2.setCell ⟨wr.heap.size, 0, none⟩ (.slice A' r'.l.length c')).setCell ⟨wr.heap.size, 1, none⟩ (.int .i64 r'.lv)).setCell ⟨wr.heap.size, 2, none⟩ (.slice B' r'.mods.length d') := ⟨_, rfl⟩
           rw [← hwq]
           have hn8 : wr.heap.size ∉ F' := fun hm => by
             rcases HF2.out.sub _ hm with h | h
             · exact Nat.lt_irrefl _ (HSC.out.lt _ h)
             · (try simp at h); omega
           have STEP : Step w wq g6 wr.heap.size p F' a' r r' A B A' B' c d c' d' := by
             obtain ⟨hx8, s8⟩ := block3 HX8.out _ _ _ hwq
             have kB : Below wr.heap.size wr (wr.alloc (.cells #[.slice none 0 0, .int .i64 0, .slice none 0 0] 31)).drew := ((Below.refl _ _).alloc (Nat.le_refl _) _).drew
             have hfn : ∀ b ∈ F', w.heap.size < b ∧ b ≠ g6 := fun b hb => by
               rcases HF2.out.sub b hb with h | h
               · exact HFN.out b h
               · simp at h; omega
             have hG : Fr ([w.heap.size, g6, wr.heap.size] ++ F') w2 ([w.heap.size, g6, wr.heap.size] ++ F') wq := s8.fr (by simp)
             have hsub : ∀ b ∈ [w.heap.size, g6] ++ F', b ∈ [w.heap.size, g6, wr.heap.size] ++ F' := fun b hb => by simp at hb ⊢; rcases hb with h | h | h <;> simp [h]
             exact ⟨((HFR.out.trans (Fr.of_below kB)).trans HF2.out).poke s8 (by omega), hfn, HS2.out.box (noBool3 HX8.out) s8 hn8, ⟨_, _, rfl, (HL2.out.keep hG).weak hsub, (HM2.out.keep hG).weak hsub⟩,
               (s8.block _ (by omega)).trans ((HK2.out _ (by simp; omega) (fun hm => by have := (HFN.out _ hm).1; omega)).trans ((kB.block _ hwr0).trans HX0.out)),
               (s8.block _ (by omega)).trans ((HK2.out _ (by simp; omega) (fun hm => (HFN.out _ hm).2 rfl)).trans ((kB.block _ hwr6).trans HX6.out)), hx8, by omega, by omega⟩
           obtain ⟨g8, hg8⟩ : ∃ g8, g8 = wr.heap.size := ⟨_, rfl⟩
           rw [← hg8] at STEP ⊢
           clear hwq hg8 hn8)
        | (obtain ⟨wq, hwq⟩ : ∃ wq, wq = w2.alloc (.cells #[.slice A' r'.l.length c', .int .i64 r'.lv, .slice B' r'.mods.length d'] 31) := ⟨_, rfl⟩
           rw [← hwq]
           have STEP : Step w wq g6 w2.heap.size p F' a' r r' A B A' B' c d c' d' := by
             have kB : Below wr.heap.size wr wr.drew := (Below.refl _ _).drew
             have kq : Below w2.heap.size w2 wq := by rw [hwq]; exact (Below.refl _ _).alloc (Nat.le_refl _) _
             have hfn : ∀ b ∈ F', w.heap.size < b ∧ b ≠ g6 := fun b hb => by
               rcases HF2.out.sub b hb with h | h
               · exact HFN.out b h
               · simp at h; omega
             have hl2' : wr.heap.size ≤ w2.heap.size := HF2.out.size
             exact ⟨((HFR.out.trans (Fr.of_below kB)).trans HF2.out).trans (Fr.of_below kq), hfn, HS2.out.below kq, ⟨_, _, rfl, HL2.out.keep (Fr.of_below kq), HM2.out.keep (Fr.of_below kq)⟩,
               (kq.block _ (by omega)).trans ((HK2.out _ (by simp; omega) (fun hm => by have := (HFN.out _ hm).1; omega)).trans ((kB.block _ hwr0).trans HX0.out)),
               (kq.block _ (by omega)).trans ((HK2.out _ (by simp; omega) (fun hm => (HFN.out _ hm).2 rfl)).trans ((kB.block _ hwr6).trans HX6.out)), by rw [hwq]; exact heap_alloc_new w2 _, by omega, by omega⟩
           obtain ⟨g8, hg8⟩ : ∃ g8, g8 = w2.heap.size := ⟨_, rfl⟩
           rw [← hg8] at STEP ⊢
           clear hwq hg8)
      all_goals
        have l8 : g8 < wq.heap.size := (Array.getElem?_eq_some_iff.1 STEP.x8).1
        obtain ⟨⟨t0, t1, t2⟩, _⟩ := cells3 STEP.x8
        have HST := Lib.hid STEP
        have hll := levelL_len r'.l r'.lv
        obtain ⟨ns, hns⟩ : ∃ ns, ns = (levelL r'.l r'.lv).map Ob.nm := ⟨_, rfl⟩
        have hnl : ns.length ≤ 4194304 := by rw [hns, List.length_map]; omega
        have HC9 : Hid (∀ wx, Below wq.heap.size wq wx → Calls Try.prog 9 #[.pointer (some ⟨p, 0, none⟩)] wx fun e w' => e = .returned (.int .i64 r'.lv) ∧ wx = w') := Lib.hid fun wx hwx => by
          have := f9_any (STEP.sc.below hwx)
          rwa [← HREL2.out.lv] at this
        have HC23 : Hid (∀ wx, Below wq.heap.size wq wx → Calls Try.prog 23 #[.pointer (some ⟨p, 0, none⟩)] wx fun e w' => ∃ v, e = .returned v ∧ Below wx.heap.size wx w' ∧ Below wq.heap.size wq w' ∧ OwnN 0 w' 9 1 v ns.length (strs ns)) := Lib.hid fun wx hwx => by
          refine (f23_any (STEP.sc.below hwx)).mono ?_
          rintro e w' ⟨v, rfl, h1, h2⟩
          rw [HREL2.out.top] at h2
          exact ⟨v, rfl, h1, hwx.trans (h1.mono hwx.size), by rw [hns, List.length_map]; exact h2.low (Nat.zero_le _)⟩
        have HC24 : Hid (∀ wx, Below wq.heap.size wq wx → Calls Try.prog 24 #[.agg #[.slice A' r'.l.length c', .int .i64 r'.lv, .slice B' r'.mods.length d']] wx fun e w' => ∃ v, e = .returned v ∧ Below wx.heap.size wx w' ∧ Below wq.heap.size wq w' ∧ OwnN 0 w' 9 1 v ns.length (strs ns)) := Lib.hid fun wx hwx => by
          refine (f24_any (STEP.rf.keep (Fr.of_below hwx))).mono ?_
          rintro e w' ⟨v, rfl, h1, h2⟩
          exact ⟨v, rfl, h1, hwx.trans (h1.mono hwx.size), by rw [hns, List.length_map]; exact h2.low (Nat.zero_le _)⟩
        clear STEP hns
        go_wp2_with fail
        go_region_held3 (fun w' => w'.cell? ⟨g8, 0, none⟩ = some (.slice A' r'.l.length c') ∧ w'.cell? ⟨g8, 1, none⟩ = some (.int .i64 r'.lv) ∧ w'.cell? ⟨g8, 2, none⟩ = some (.slice B' r'.mods.length d')) (go_keep) (first | (go_at_call 9; refine (HC9.out _ ((Below.refl _ _).drew)).mono ?_; rintro e w9 ⟨rfl, rfl⟩) | (go_at_call 23; refine (HC23.out _ (by first | exact HB24.out | exact (Below.refl _ _).drew)).mono ?_; rintro e w23 ⟨v23, rfl, hb23, hb23q, ho23⟩; obtain ⟨A23, c23, rfl, _⟩ := own_cells ho23.1; have HB23 := Lib.hid hb23q; have HD23 := Lib.hid hb23; have HO23 := Lib.hid ho23; have as0 := (hb23q.cell (p := ⟨g8, 0, none⟩) l8).trans t0; have as1 := (hb23q.cell (p := ⟨g8, 1, none⟩) l8).trans t1; have as2 := (hb23q.cell (p := ⟨g8, 2, none⟩) l8).trans t2; clear hb23 hb23q ho23) | (go_at_call 24; refine (HC24.out _ (by first | exact HB23.out | exact (Below.refl _ _).drew)).mono ?_; rintro e w24 ⟨v24, rfl, hb24, hb24q, ho24⟩; obtain ⟨A24, c24, rfl, _⟩ := own_cells ho24.1; have HB24 := Lib.hid hb24q; have HD24 := Lib.hid hb24; have HO24 := Lib.hid ho24; have bs0 := (hb24q.cell (p := ⟨g8, 0, none⟩) l8).trans t0; have bs1 := (hb24q.cell (p := ⟨g8, 1, none⟩) l8).trans t1; have bs2 := (hb24q.cell (p := ⟨g8, 2, none⟩) l8).trans t2; clear hb24 hb24q ho24) | (go_at_call 22; refine (f22_same (B := 0) (C := 0) (ns := ns) (by first | exact HO23.out | exact HO23.out.keep HD24.out) (by first | exact HO24.out | exact HO24.out.keep HD23.out) hnl).mono ?_; rintro e wz ⟨rfl, hbz⟩; have HBZ : Hid (Below wq.heap.size wq wz) := Lib.hid (by first | exact HB24.out.trans (hbz.mono HB24.out.size) | exact HB23.out.trans (hbz.mono HB23.out.size)); have zs0 := (HBZ.out.cell (p := ⟨g8, 0, none⟩) l8).trans t0; have zs1 := (HBZ.out.cell (p := ⟨g8, 1, none⟩) l8).trans t1; have zs2 := (HBZ.out.cell (p := ⟨g8, 2, none⟩) l8).trans t2; clear hbz))
        all_goals
          have l6 : g6 < wq.heap.size := (Array.getElem?_eq_some_iff.1 HST.out.x6).1
          have l0 : w.heap.size < wq.heap.size := (Array.getElem?_eq_some_iff.1 HST.out.x0).1
          have hz := HST.out.below l0 l6 l8 HBZ.out
          obtain ⟨⟨e0, e1, e2⟩, _⟩ := cells3 hz.x8
          obtain ⟨⟨k0, k1, k2⟩, kf⟩ := cells3 hz.x6
          have kf0 := kf 0
          have kf1 := kf 1
          have kf2 := kf 2
          have ne1 : g8 ≠ g6 := hz.l8.1
          have ne2 : g6 ≠ g8 := Ne.symm hz.l8.1
          have HZ := Lib.hid hz
          clear hz kf
          go_wp2
          go_roundw
          case rel =>
            obtain ⟨w8, hw8⟩ : ∃ w8, w8 = ((wz.setCell ⟨g6, 0, none⟩ (.slice A' r'.l.length c')).setCell ⟨g6, 1, none⟩ (.int .i64 r'.lv)).setCell ⟨g6, 2, none⟩ (.slice B' r'.mods.length d') := ⟨_, rfl⟩
            rw [← hw8]
            obtain ⟨hx6, s8⟩ := block3 HZ.out.x6 _ _ _ hw8
            exact ⟨j + 1, F', a', r', A', B', c', d', by omega, by omega, by go_num, HZ.out.fr.poke s8 (by omega), HZ.out.fn, HZ.out.sc.box (noBool3 HZ.out.x6) s8 (fun hm => (HZ.out.fn _ hm).2 rfl), HREL2.out, by omega, HZ.out.rf.keep (s8.fr (by simp)), (s8.block _ (by omega)).trans HZ.out.x0, hx6⟩
          case measure => simp [intOf]; omega
    · by_cases h1 : j < script.length
      · have h2 : 100 ≤ j := by omega
        go_wp2_with fail
        go_region
        go_wp2_with fail
        obtain ⟨w8, hw8⟩ : ∃ w8, w8 = ((wr.setCell ⟨w.heap.size, 0, none⟩ (.slice A r.l.length c)).setCell ⟨w.heap.size, 1, none⟩ (.int .i64 r.lv)).setCell ⟨w.heap.size, 2, none⟩ (.slice B r.mods.length d) := ⟨_, rfl⟩
        rw [← hw8]
        obtain ⟨hx8, s8⟩ := block3 HX0.out _ _ _ hw8
        clear hw8
        refine bodyPost_ret (results_play _ Try.results7 _ _ _ _ _ _ _ _ rfl rfl rfl hx8) rfl ?_
        have hs8 : Below w.heap.size w8 w8.drew := (Below.refl _ _).drew
        exact ⟨F, p, a, r, _, rfl, (HFR.out.poke s8 (Nat.le_refl _)).drew, (HSC.out.box (noBool3 HX0.out) s8 (fun hm => Nat.lt_irrefl _ (HFN.out _ hm).1)).below (Below.refl _ _).drew, ((HRF.out.keep (s8.fr (by simp))).keep (Fr.refl _ _).drew).weak (fun b hb => List.mem_append_right _ hb), HREL.out, by omega⟩
      · go_wp2_with fail
        go_region
        go_wp2_with fail
        obtain ⟨w8, hw8⟩ : ∃ w8, w8 = ((wr.setCell ⟨w.heap.size, 0, none⟩ (.slice A r.l.length c)).setCell ⟨w.heap.size, 1, none⟩ (.int .i64 r.lv)).setCell ⟨w.heap.size, 2, none⟩ (.slice B r.mods.length d) := ⟨_, rfl⟩
        rw [← hw8]
        obtain ⟨hx8, s8⟩ := block3 HX0.out _ _ _ hw8
        clear hw8
        refine bodyPost_ret (results_play _ Try.results7 _ _ _ _ _ _ _ _ rfl rfl rfl hx8) rfl ?_
        have hs8 : Below w.heap.size w8 w8.drew := (Below.refl _ _).drew
        exact ⟨F, p, a, r, _, rfl, (HFR.out.poke s8 (Nat.le_refl _)).drew, (HSC.out.box (noBool3 HX0.out) s8 (fun hm => Nat.lt_irrefl _ (HFN.out _ hm).1)).below (Below.refl _ _).drew, ((HRF.out.keep (s8.fr (by simp))).keep (Fr.refl _ _).drew).weak (fun b hb => List.mem_append_right _ hb), HREL.out, by omega⟩
end Go.Proofs.Ytengenceelmijaa
