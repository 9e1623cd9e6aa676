import Derived.Test.YtengenceelmijaaPlays
namespace Go.Proofs.Ytengenceelmijaa
open Go.RowKit
set_option linter.unusedVariables false

def resC (o : Option Ob) : Int := if o.isSome then 0 else 110
def ResPost (F : List Nat) (w : World) (o : Option Ob) (e : Ending) (w' : World) : Prop := ∃ pv, Below w.heap.size w w' ∧ PsR F w' pv (o.getD noOb).ps ∧ e = .returned (.tuple #[obV (o.getD noOb) pv, .int .i64 (resC o)])
theorem MemPost.res {F : List Nat} {w w' : World} {o : Option Ob} {e : Ending} (h : MemPost F w o e w') : ResPost F w o e w' := by
  obtain ⟨hB, x, pv, hp, ⟨rfl, rfl⟩ | ⟨rfl, rfl, rfl⟩⟩ := h
  · exact ⟨pv, hB, hp, rfl⟩
  · exact ⟨pv, hB, hp, rfl⟩
theorem f8_res {F : List Nat} {w : World} {p : Nat} {a : Abs} (s : ByteArray) (h : Sc F w p a) : Calls Try.prog 8 #[.pointer (some ⟨p, 0, none⟩), .string s] w (ResPost F w (findN a.opn s a.opn.length)) := by
  refine (f8_any s h).mono ?_
  rintro e w' ⟨hB, x, pv, hp, hh⟩
  exact MemPost.res ⟨hB, x, pv, hp, hh⟩
theorem f16_res {F : List Nat} {w : World} {v : Value} {a : Abs} {r : Rf} (s : ByteArray) (h : RfR F w v r) (hrel : Rel a r) : Calls Try.prog 16 #[v, .string s] w (ResPost F w (findN a.opn s a.opn.length)) := by
  have h1 := hrel.lv
  have h2 := hrel.pos
  have h3 := hrel.le
  obtain ⟨n, hn⟩ : ∃ n, a.opn.length = n + 1 := ⟨a.opn.length - 1, by omega⟩
  refine (f16_any s n h (by omega) (by omega)).mono ?_
  rintro e w' ⟨hB, x, pv, hp, hh⟩
  rw [hrel.find s _ (Nat.le_refl _), hn]
  exact MemPost.res ⟨hB, x, pv, hp, hh⟩

set_option maxHeartbeats 4000000 in
set_option maxRecDepth 100000 in
theorem f5_any {w : World} {v : Value} {script : List OpD} (s : ByteArray) (m : Int) (h : OpR [] w v script) : Calls Try.prog 5 #[v, .string s, .int .i64 m] w fun e w' => e = .returned (.bool true) ∧ Below w.heap.size w w' := by
  obtain ⟨S0, cS, rfl, hcS, hlS, _⟩ := op_at h
  have HO := Lib.hid h
  clear h
  go_enter Try.func5, Try.ntmps5
  go_wp2_with fail
  refine (f6_any _).mono ?_
  rintro e w1 ⟨rfl, hB1⟩
  have H1 := Lib.hid hB1
  have HC7 := Lib.hid (f7_any (HO.out.keep (Fr.of_below hB1)))
  clear hB1
  go_wp2_with fail
  refine HC7.out.mono ?_
  rintro e w2 ⟨F, p, a, r, v', rfl, hf2, hs2, hr2, hrel, hrl⟩
  have hr0 := hr2
  obtain ⟨_, _, rfl, hla, hma⟩ := hr2
  obtain ⟨A, c, rfl, _⟩ := ob_at hla
  obtain ⟨B, d, rfl, _⟩ := obs_shape hma
  obtain ⟨wq, hwq⟩ : ∃ wq, wq = w2.alloc (.cells #[.slice A r.l.length c, .int .i64 r.lv, .slice B r.mods.length d] 31) := ⟨_, rfl⟩
  have hBq : Below w2.heap.size w2 wq := by rw [hwq]; exact (Below.refl _ _).alloc (Nat.le_refl _) _
  have hx8 : wq.heap[w2.heap.size]? = some (.cells #[.slice A r.l.length c, .int .i64 r.lv, .slice B r.mods.length d] 31 (0, 0)) := by rw [hwq]; exact heap_alloc_new w2 _
  obtain ⟨g8, hg8⟩ : ∃ g8, g8 = w2.heap.size := ⟨_, rfl⟩
  have l8 : g8 < wq.heap.size := by rw [hg8]; exact (Array.getElem?_eq_some_iff.1 hx8).1
  rw [← hg8] at hx8
  have HWQ := Lib.hid hwq
  have HG := Lib.hid hg8
  have HX8 := Lib.hid hx8
  have HS := Lib.hid (hs2.below hBq)
  have HR := Lib.hid (hr0.keep (Fr.of_below hBq))
  have HREL := Lib.hid hrel
  have HBW := Lib.hid ((H1.out.trans (hf2.below.mono H1.out.size)).trans (hBq.mono (Nat.le_trans H1.out.size hf2.size)))
  have hmod : r.mods.length ≤ 64 := by
    obtain ⟨_, _, _, _, hh⟩ := hs2
    rw [← hrel.mods]; exact hh.small.2.1
  clear hwq hg8 hx8 hs2 hr0 hf2 hrel hla hma hBq
  go_wp2_with fail
  rw [← HWQ.out, ← HG.out]
  refine (f8_res s HS.out).mono ?_
  rintro e w3 ⟨pv3, hB3, hp3, rfl⟩
  obtain ⟨⟨t0, t1, t2⟩, _⟩ := cells3 ((hB3.block _ l8).trans HX8.out)
  have l83 := Nat.lt_of_lt_of_le l8 hB3.size
  obtain ⟨x, hx⟩ : ∃ x, x = (findN a.opn s a.opn.length).getD noOb := ⟨_, rfl⟩
  obtain ⟨k, hk⟩ : ∃ k, k = resC (findN a.opn s a.opn.length) := ⟨_, rfl⟩
  have HXx := Lib.hid hx
  have HKk := Lib.hid hk
  clear hx hk
  rw [← HXx.out] at hp3
  obtain ⟨A3, c3, rfl, _⟩ := ps_at hp3
  rw [← HXx.out, ← HKk.out]
  unfold obV
  obtain ⟨q3, hq3⟩ : ∃ q, q = w3.alloc (.cells #[.string x.nm, .int .i64 x.kd, .int .i64 x.ty, .int .i64 x.lv, .int .i32 x.n, .int .i64 x.md, .bool x.out, .slice A3 x.ps.length c3] 25) := ⟨_, rfl⟩
  obtain ⟨b3, hb3⟩ : ∃ b, b = w3.heap.size := ⟨_, rfl⟩
  have hBq3 : Below w3.heap.size w3 q3 := by rw [hq3]; exact (Below.refl _ _).alloc (Nat.le_refl _) _
  have hxb3 : q3.heap[b3]? = some (.cells #[.string x.nm, .int .i64 x.kd, .int .i64 x.ty, .int .i64 x.lv, .int .i32 x.n, .int .i64 x.md, .bool x.out, .slice A3 x.ps.length c3] 25) := by rw [hq3, hb3]; exact heap_alloc_new w3 _
  have lb3 := (Array.getElem?_eq_some_iff.1 hxb3).1
  have HXB3 := Lib.hid hxb3
  have HQ3 := Lib.hid hq3
  have HB3' := Lib.hid hb3
  have HP3 := Lib.hid (hp3.keep (Fr.of_below hBq3))
  have BB3 := Lib.hid (hB3.trans (hBq3.mono hB3.size))
  clear hq3 hxb3 hb3 hBq3 hp3 hB3
  have D3 : Hid (Below wq.heap.size wq q3) := BB3
  go_wp2_with fail
  rw [← HQ3.out, ← HB3'.out]
  refine (f16_res s (HR.out.keep (Fr.of_below D3.out)) HREL.out).mono ?_
  rintro e w4 ⟨pv4, hB4, hp4, rfl⟩
  rw [← HXx.out] at hp4
  obtain ⟨A4, c4, rfl, _⟩ := ps_at hp4
  rw [← HXx.out, ← HKk.out]
  unfold obV
  obtain ⟨q4, hq4⟩ : ∃ q, q = w4.alloc (.cells #[.string x.nm, .int .i64 x.kd, .int .i64 x.ty, .int .i64 x.lv, .int .i32 x.n, .int .i64 x.md, .bool x.out, .slice A4 x.ps.length c4] 46) := ⟨_, rfl⟩
  obtain ⟨b4, hb4⟩ : ∃ b, b = w4.heap.size := ⟨_, rfl⟩
  have hBq4 : Below w4.heap.size w4 q4 := by rw [hq4]; exact (Below.refl _ _).alloc (Nat.le_refl _) _
  have hxb4 : q4.heap[b4]? = some (.cells #[.string x.nm, .int .i64 x.kd, .int .i64 x.ty, .int .i64 x.lv, .int .i32 x.n, .int .i64 x.md, .bool x.out, .slice A4 x.ps.length c4] 46) := by rw [hq4, hb4]; exact heap_alloc_new w4 _
  have lb4 := (Array.getElem?_eq_some_iff.1 hxb4).1
  have HXB4 := Lib.hid hxb4
  have HQ4 := Lib.hid hq4
  have HB4' := Lib.hid hb4
  have HP4 := Lib.hid (hp4.keep (Fr.of_below hBq4))
  have BB4 := Lib.hid (hB4.trans (hBq4.mono hB4.size))
  clear hq4 hxb4 hb4 hBq4 hp4 hB4
  have D4 : Hid (Below wq.heap.size wq q4) := Lib.hid (D3.out.trans (BB4.out.mono D3.out.size))
  go_wp2_with fail
  rw [← HQ4.out, ← HB4'.out]
  refine ((f17_any m s (HS.out.below D4.out)).mono fun _ _ => MemPost.res).mono ?_
  rintro e w5 ⟨pv5, hB5, hp5, rfl⟩
  obtain ⟨⟨v0, v1, v2⟩, _⟩ := cells3 (((hB5.block _ (Nat.lt_of_lt_of_le l8 D4.out.size)).trans (D4.out.block _ l8)).trans HX8.out)
  have l85 := Nat.lt_of_lt_of_le (Nat.lt_of_lt_of_le l8 D4.out.size) hB5.size
  obtain ⟨y, hy⟩ : ∃ x, x = (memberA a.mds m s).getD noOb := ⟨_, rfl⟩
  obtain ⟨l, hl⟩ : ∃ k, k = resC (memberA a.mds m s) := ⟨_, rfl⟩
  have HXy := Lib.hid hy
  have HKl := Lib.hid hl
  clear hy hl
  rw [← HXy.out] at hp5
  obtain ⟨A5, c5, rfl, _⟩ := ps_at hp5
  rw [← HXy.out, ← HKl.out]
  unfold obV
  obtain ⟨q5, hq5⟩ : ∃ q, q = w5.alloc (.cells #[.string y.nm, .int .i64 y.kd, .int .i64 y.ty, .int .i64 y.lv, .int .i32 y.n, .int .i64 y.md, .bool y.out, .slice A5 y.ps.length c5] 25) := ⟨_, rfl⟩
  obtain ⟨b5, hb5⟩ : ∃ b, b = w5.heap.size := ⟨_, rfl⟩
  have hBq5 : Below w5.heap.size w5 q5 := by rw [hq5]; exact (Below.refl _ _).alloc (Nat.le_refl _) _
  have hxb5 : q5.heap[b5]? = some (.cells #[.string y.nm, .int .i64 y.kd, .int .i64 y.ty, .int .i64 y.lv, .int .i32 y.n, .int .i64 y.md, .bool y.out, .slice A5 y.ps.length c5] 25) := by rw [hq5, hb5]; exact heap_alloc_new w5 _
  have lb5 := (Array.getElem?_eq_some_iff.1 hxb5).1
  have HXB5 := Lib.hid hxb5
  have HQ5 := Lib.hid hq5
  have HB5' := Lib.hid hb5
  have HP5 := Lib.hid (hp5.keep (Fr.of_below hBq5))
  have BB5 := Lib.hid (hB5.trans (hBq5.mono hB5.size))
  clear hq5 hxb5 hb5 hBq5 hp5 hB5
  have D5 : Hid (Below wq.heap.size wq q5) := Lib.hid (D4.out.trans (BB5.out.mono D4.out.size))
  go_wp2_with fail
  rw [← HQ5.out, ← HB5'.out]
  refine ((f18_any m s (HR.out.keep (Fr.of_below D5.out)) hmod).mono fun _ _ => MemPost.res).mono ?_
  rw [← HREL.out.mods]
  rintro e w6 ⟨pv6, hB6, hp6, rfl⟩
  have X5 := (hB6.block _ lb5).trans HXB5.out
  have X4 := ((hB6.block _ (Nat.lt_of_lt_of_le lb4 BB5.out.size)).trans (BB5.out.block _ lb4)).trans HXB4.out
  have X3 := ((hB6.block _ (Nat.lt_of_lt_of_le (Nat.lt_of_lt_of_le lb3 BB4.out.size) BB5.out.size)).trans ((BB5.out.block _ (Nat.lt_of_lt_of_le lb3 BB4.out.size)).trans (BB4.out.block _ lb3))).trans HXB3.out
  have m3 := (Array.getElem?_eq_some_iff.1 X3).1
  have m4 := (Array.getElem?_eq_some_iff.1 X4).1
  have m5 := (Array.getElem?_eq_some_iff.1 X5).1
  obtain ⟨⟨a0, a1, a2, a3, a4, a5, a6, a7⟩, _⟩ := cells8 X3
  obtain ⟨⟨f0, f1, f2, f3, f4, f5, f6, f7⟩, _⟩ := cells8 X4
  obtain ⟨⟨d0, d1, d2, d3, d4, d5, d6, d7⟩, _⟩ := cells8 X5
  have X5' := Lib.hid X5
  clear X3 X4 X5
  rw [← HXy.out] at hp6
  obtain ⟨A6, c6, rfl, _⟩ := ps_at hp6
  rw [← HXy.out, ← HKl.out]
  unfold obV
  obtain ⟨q6, hq6⟩ : ∃ q, q = w6.alloc (.cells #[.string y.nm, .int .i64 y.kd, .int .i64 y.ty, .int .i64 y.lv, .int .i32 y.n, .int .i64 y.md, .bool y.out, .slice A6 y.ps.length c6] 46) := ⟨_, rfl⟩
  obtain ⟨b6, hb6⟩ : ∃ b, b = w6.heap.size := ⟨_, rfl⟩
  have hBq6 : Below w6.heap.size w6 q6 := by rw [hq6]; exact (Below.refl _ _).alloc (Nat.le_refl _) _
  have hxb6 : q6.heap[b6]? = some (.cells #[.string y.nm, .int .i64 y.kd, .int .i64 y.ty, .int .i64 y.lv, .int .i32 y.n, .int .i64 y.md, .bool y.out, .slice A6 y.ps.length c6] 46) := by rw [hq6, hb6]; exact heap_alloc_new w6 _
  have lb6 := (Array.getElem?_eq_some_iff.1 hxb6).1
  have HXB6 := Lib.hid hxb6
  have HQ6 := Lib.hid hq6
  have HB6' := Lib.hid hb6
  have HP6 := Lib.hid (hp6.keep (Fr.of_below hBq6))
  have BB6 := Lib.hid (hB6.trans (hBq6.mono hB6.size))
  clear hq6 hxb6 hb6 hBq6 hp6 hB6
  have D6 : Hid (Below wq.heap.size wq q6) := Lib.hid (D5.out.trans (BB6.out.mono D5.out.size))
  have PA := Lib.hid (((HP3.out.keep (Fr.of_below BB4.out)).keep (Fr.of_below BB5.out)).keep (Fr.of_below BB6.out))
  have PB := Lib.hid ((HP4.out.keep (Fr.of_below BB5.out)).keep (Fr.of_below BB6.out))
  have PC := Lib.hid (HP5.out.keep (Fr.of_below BB6.out))
  have kq : Hid (Below w6.heap.size w6 q6) := Lib.hid (by rw [HQ6.out]; exact (Below.refl _ _).alloc (Nat.le_refl _) _)
  have HC1 := Lib.hid (f19_same x _ _ PA.out PB.out)
  go_wp2_with fail
  rw [← HQ6.out]
  refine HC1.out.mono ?_
  rintro e w7 ⟨rfl, hB7⟩
  have X5 := ((hB7.block _ (Nat.lt_of_lt_of_le m5 kq.out.size)).trans (kq.out.block _ m5)).trans X5'.out
  have X6 := (hB7.block _ lb6).trans HXB6.out
  rw [HB6'.out] at X6
  obtain ⟨⟨g0, g1, g2, g3, g4, g5, g6, g7⟩, _⟩ := cells8 X5
  obtain ⟨⟨i0, i1, i2, i3, i4, i5, i6, i7⟩, _⟩ := cells8 X6
  have HC2 := Lib.hid (f19_same y _ _ (PC.out.keep (Fr.of_below hB7)) (HP6.out.keep (Fr.of_below hB7)))
  have D7 := Lib.hid (D6.out.trans (hB7.mono D6.out.size))
  clear X5 X6 hB7
  go_wp2_with fail
  refine HC2.out.mono ?_
  rintro e w8 ⟨rfl, hB8⟩
  go_wp2_with fail
  go_ret
  exact ⟨rfl, HBW.out.trans ((D7.out.trans (hB8.mono D7.out.size)).mono HBW.out.size)⟩
end Go.Proofs.Ytengenceelmijaa
