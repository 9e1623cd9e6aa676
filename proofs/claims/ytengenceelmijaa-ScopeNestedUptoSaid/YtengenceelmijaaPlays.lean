import Derived.Test.YtengenceelmijaaAwake
namespace Go.Proofs.Ytengenceelmijaa
open Go.RowKit
set_option linter.unusedVariables false

set_option maxHeartbeats 4000000 in
set_option maxRecDepth 100000 in
theorem f4_any {w : World} {v : Value} {script : List OpD} (h : OpR [] w v script) : Calls Try.prog 4 #[v] w fun e w' => e = .returned (.bool true) ∧ Below w.heap.size w w' := by
  obtain ⟨S0, cS, rfl, hcS, hlS, _⟩ := op_at h
  have HO := Lib.hid h
  clear h
  go_enter Try.func4, Try.ntmps4
  go_wp2_with fail
  refine (f6_any _).mono ?_
  rintro e w1 ⟨rfl, hB1⟩
  have H1 := Lib.hid hB1
  have HC7 := Lib.hid (f7_any (HO.out.keep (Fr.of_below hB1)))
  clear hB1
  go_wp2_with fail
  refine HC7.out.mono ?_
  rintro e w2 ⟨F, p, a, r, v', rfl, hf2, hs2, hr2, hrel, hrl⟩
  have hr0 := hr2
  obtain ⟨_, _, rfl, hla, hma⟩ := hr2
  obtain ⟨A, c, rfl, _⟩ := ob_at hla
  obtain ⟨B, d, rfl, _⟩ := obs_shape hma
  obtain ⟨wq, hwq⟩ : ∃ wq, wq = w2.alloc (.cells #[.slice A r.l.length c, .int .i64 r.lv, .slice B r.mods.length d] 31) := ⟨_, rfl⟩
  have hBq : Below w2.heap.size w2 wq := by rw [hwq]; exact (Below.refl _ _).alloc (Nat.le_refl _) _
  have hx8 : wq.heap[w2.heap.size]? = some (.cells #[.slice A r.l.length c, .int .i64 r.lv, .slice B r.mods.length d] 31 (0, 0)) := by rw [hwq]; exact heap_alloc_new w2 _
  obtain ⟨g8, hg8⟩ : ∃ g8, g8 = w2.heap.size := ⟨_, rfl⟩
  have l8 : g8 < wq.heap.size := by rw [hg8]; exact (Array.getElem?_eq_some_iff.1 hx8).1
  rw [← hg8] at hx8
  obtain ⟨⟨t0, t1, t2⟩, _⟩ := cells3 hx8
  have HWQ := Lib.hid hwq
  have HG := Lib.hid hg8
  have HS := Lib.hid (hs2.below hBq)
  have HR := Lib.hid (hr0.keep (Fr.of_below hBq))
  have HREL := Lib.hid hrel
  have HBW := Lib.hid ((H1.out.trans (hf2.below.mono H1.out.size)).trans (hBq.mono (Nat.le_trans H1.out.size hf2.size)))
  clear hwq hg8 hx8 hs2 hr0 hf2 hrel hla hma hBq
  obtain ⟨es, hes⟩ : ∃ es, es = exportsR r.l := ⟨_, rfl⟩
  have HC14 : Hid (∀ wx, Below wq.heap.size wq wx → Calls Try.prog 14 #[.pointer (some ⟨p, 0, none⟩)] wx fun e w' => ∃ v, e = .returned v ∧ Below wx.heap.size wx w' ∧ Below wq.heap.size wq w' ∧ ExR F w' v es) := Lib.hid fun wx hwx => by
    refine (f14_any (HS.out.below hwx)).mono ?_
    rintro e w' ⟨v, rfl, h1, h2⟩
    rw [HREL.out.exports, ← hes] at h2
    exact ⟨v, rfl, h1, hwx.trans (h1.mono hwx.size), h2⟩
  have HC15 : Hid (∀ wx, Below wq.heap.size wq wx → Calls Try.prog 15 #[.agg #[.slice A r.l.length c, .int .i64 r.lv, .slice B r.mods.length d]] wx fun e w' => ∃ v, e = .returned v ∧ Below wx.heap.size wx w' ∧ Below wq.heap.size wq w' ∧ ExR F w' v es) := Lib.hid fun wx hwx => by
    refine (f15_any (HR.out.keep (Fr.of_below hwx)) (fun b hb => Nat.lt_of_lt_of_le (HS.out.lt b hb) hwx.size)).mono ?_
    rintro e w' ⟨v, rfl, h1, h2⟩
    rw [← hes] at h2
    exact ⟨v, rfl, h1, hwx.trans (h1.mono hwx.size), h2⟩
  clear hes
  go_wp2_with fail
  rw [← HWQ.out, ← HG.out]
  go_region_held3 (fun w' => w'.cell? ⟨g8, 0, none⟩ = some (.slice A r.l.length c) ∧ w'.cell? ⟨g8, 1, none⟩ = some (.int .i64 r.lv) ∧ w'.cell? ⟨g8, 2, none⟩ = some (.slice B r.mods.length d)) (go_keep) (first | (go_at_call 14; refine (HC14.out _ (by first | exact HB15.out | exact (Below.refl _ _).drew)).mono ?_; rintro e w14 ⟨v14, rfl, hb14, hb14q, he14⟩; obtain ⟨A14, c14, rfl, _⟩ := eim_at he14; have HB14 := Lib.hid hb14q; have HD14 := Lib.hid hb14; have HE14 := Lib.hid he14; have as0 := (hb14q.cell (p := ⟨g8, 0, none⟩) l8).trans t0; have as1 := (hb14q.cell (p := ⟨g8, 1, none⟩) l8).trans t1; have as2 := (hb14q.cell (p := ⟨g8, 2, none⟩) l8).trans t2; clear hb14 hb14q he14) | (go_at_call 15; refine (HC15.out _ (by first | exact HB14.out | exact (Below.refl _ _).drew)).mono ?_; rintro e w15 ⟨v15, rfl, hb15, hb15q, he15⟩; obtain ⟨A15, c15, rfl, _⟩ := eim_at he15; have HB15 := Lib.hid hb15q; have HD15 := Lib.hid hb15; have HE15 := Lib.hid he15; have bs0 := (hb15q.cell (p := ⟨g8, 0, none⟩) l8).trans t0; have bs1 := (hb15q.cell (p := ⟨g8, 1, none⟩) l8).trans t1; have bs2 := (hb15q.cell (p := ⟨g8, 2, none⟩) l8).trans t2; clear hb15 hb15q he15) | (go_at_call 13; refine (f13_same (F := F) (by first | exact HE14.out | exact HE14.out.keep (Fr.of_below HD15.out)) (by first | exact HE15.out | exact HE15.out.keep (Fr.of_below HD14.out))).mono ?_; rintro e wz ⟨rfl, hbz⟩; have HBZ : Hid (Below wq.heap.size wq wz) := Lib.hid (by first | exact HB15.out.trans (hbz.mono HB15.out.size) | exact HB14.out.trans (hbz.mono HB14.out.size)); have zs0 := (HBZ.out.cell (p := ⟨g8, 0, none⟩) l8).trans t0; have zs1 := (HBZ.out.cell (p := ⟨g8, 1, none⟩) l8).trans t1; have zs2 := (HBZ.out.cell (p := ⟨g8, 2, none⟩) l8).trans t2; clear hbz))
  all_goals
    go_wp2_with fail
    go_ret
    exact ⟨rfl, HBW.out.trans (HBZ.out.mono HBW.out.size)⟩
end Go.Proofs.Ytengenceelmijaa
