/- Contracts of package guard: Take and Drop. -/
import Derived.Test.YtjnikgliecgbdaaGuard
import Derived.StillTailTactics
namespace Go.Proofs.Ytjnikgliecgbdaa
open Go.RowKit Go.Maps

theorem HeldIs.put {w w' : World} {b : Nat} {held : Nat → Bool} {cnt : Nat} {D : DataW Unit} {s : Nat} (hs : s ≤ 5000)
    (ho : w.ownsMap Try.prog 3 (plainElem Try.prog 22) b cnt D) (hc : Maps.size D = cnt) (hd : ∀ s : Nat, Maps.has D (.int .i64 s) = held s ∧ D.atKey (.int .i64 s) (.lit (.int .u64 0)) = .lit (.int .u64 (if held s then 1 else 0)))
    (hn : held s = false) (h1 : w'.ownsMap Try.prog 3 (plainElem Try.prog 22) b (cnt + 1) (D.put (.int .i64 s) (.lit (.int .u64 1)))) : HeldIs w' b (upd held s true) (cnt + 1) := by
  have ht := ho.tidy law_held
  have hk : WideAt.IsKeyLit (.int .i64 (s : Int)) := trivial
  refine ⟨_, h1, ?_, fun s' => ?_⟩
  · rw [Maps.size_put ht, (hd s).1, hn, hc]; simp
  · by_cases e : s' = s
    · subst e
      rw [upd_same]
      exact ⟨Maps.has_put_same ht.isMap hk _, by rw [Maps.atKey_put_same ht.isMap hk]; rfl⟩
    · have ne : (Lit.int .i64 (s' : Int)) ≠ (.int .i64 (s : Int)) := by intro x; simp only [Lit.int.injEq, true_and] at x; omega
      rw [upd_ne _ _ _ e]
      exact ⟨(Maps.has_put_other ne _).trans (hd s').1, (Maps.atKey_put_other ne _ _).trans (hd s').2⟩

theorem HeldIs.del {w w' : World} {b : Nat} {held : Nat → Bool} {cnt : Nat} {D : DataW Unit} {s : Nat} (hs : s ≤ 5000)
    (ho : w.ownsMap Try.prog 3 (plainElem Try.prog 22) b cnt D) (hc : Maps.size D = cnt) (hd : ∀ s : Nat, Maps.has D (.int .i64 s) = held s ∧ D.atKey (.int .i64 s) (.lit (.int .u64 0)) = .lit (.int .u64 (if held s then 1 else 0)))
    (hn : held s = true) (h1 : w'.ownsMap Try.prog 3 (plainElem Try.prog 22) b cnt (D.del (.int .i64 s))) : HeldIs w' b (upd held s false) (cnt - 1) := by
  have ht := ho.tidy law_held
  have hk : WideAt.IsKeyLit (.int .i64 (s : Int)) := trivial
  have hz : Maps.size (D.del (.int .i64 s)) = cnt - 1 := by
    have := Maps.size_del (k := .int .i64 (s : Int)) ht
    rw [(hd s).1, hn, hc] at this
    simp at this
    omega
  refine ⟨_, ?_, hz, fun s' => ?_⟩
  · obtain ⟨es, clock, hb, F, hle, hD⟩ := h1
    refine ⟨es, clock, hb, F, ?_, hD⟩
    have : Maps.size (D.del (.int .i64 s)) = es.size := by rw [hD]; simp [Maps.size, length_sorted]
    omega
  · by_cases e : s' = s
    · subst e
      rw [upd_same]
      exact ⟨Maps.has_del_same, by rw [Maps.atKey_del_same]; rfl⟩
    · have ne : (Lit.int .i64 (s' : Int)) ≠ (.int .i64 (s : Int)) := by intro x; simp only [Lit.int.injEq, true_and] at x; omega
      rw [upd_ne _ _ _ e]
      exact ⟨(Maps.has_del_other ne).trans (hd s').1, (Maps.atKey_del_other ne _).trans (hd s').2⟩

set_option maxHeartbeats 400000 in
theorem guard_Take {L : Lay} {S : MS} {w : World} (h : Rep L S w) (s : Int) (hcn : S.cnt ≤ 5000) :
    Calls Try.prog 28 #[.pointer (some ⟨L.s.g, 0, none⟩), .int .i64 s] w fun e w' => Told L (S.take s) (.bool (S.takeOk s)) w e w' := by
  have C := Lib.hid (guard_there h s)
  have c1 := h.cg.cell 1 (by decide)
  have c2 := h.cg.cell 2 (by decide)
  have f2 := h.cg.frozen 2
  simp only [guardCell] at c1 c2
  cases hb : S.there s with
  | false =>
    rw [hb] at C
    have HE := Lib.hid (show S.takeOk s = false by simp [MS.takeOk, hb])
    have HS := Lib.hid (show S.take s = { S with slips := wrap64 (S.slips + 1) } by simp [MS.take, MS.takeOk, hb])
    have H := Lib.hid h
    clear h hb
    go_enter Try.func28, Try.ntmps28
    go_wp2_with (go_at_call 39; refine C.out.mono ?_; rintro e w' ⟨rfl, rfl⟩)
    go_ret
    exact ⟨by rw [HE.out]; rfl, by rw [HS.out]; exact H.out.setSlips _, (Kept.refl _ _).setCell (by rw [H.out.og]; simp) _⟩
  | true =>
    rw [hb] at C
    have hr := there_iff.1 hb
    have hN := h.N250
    obtain ⟨k, rfl⟩ := Int.eq_ofNat_of_zero_le (show 0 ≤ s by omega)
    have hk := h.chb.look k (by omega) (by omega)
    cases hh : S.held k with
    | true =>
      have HE := Lib.hid (show S.takeOk k = false by simp [MS.takeOk, hh])
      have HS := Lib.hid (show S.take k = { S with slips := wrap64 (S.slips + 1) } by simp [MS.take, MS.takeOk, hh])
      have H := Lib.hid h
      simp only [Int.toNat_natCast, hh, if_true] at hk
      clear h hb hh
      go_enter Try.func28, Try.ntmps28
      go_wp2_with (go_at_call 39; refine C.out.mono ?_; rintro e w' ⟨rfl, rfl⟩)
      go_ret
      exact ⟨by rw [HE.out]; rfl, by rw [HS.out]; exact H.out.setSlips _, (Kept.refl _ _).setCell (by rw [H.out.og]; simp) _⟩
    | false =>
      have HE := Lib.hid (show S.takeOk k = true by simp [MS.takeOk, hh, hb])
      have HS := Lib.hid (show S.take k = { S with held := upd S.held k true, cnt := S.cnt + 1 } by simp [MS.take, MS.takeOk, hh, hb])
      obtain ⟨D, ho, hc, hd⟩ := h.chb
      have H := Lib.hid h
      have HD := Lib.hid hd
      have HC := Lib.hid hc
      have HH := Lib.hid hh
      simp only [Int.toNat_natCast, hh, Bool.false_eq_true, if_false] at hk
      have hkey := keyOf_int_mk Try.underlying3 (key_wf k (by omega) (by omega))
      clear h hb hh hc hd
      go_enter Try.func28, Try.ntmps28
      go_wp2_with (first | (go_at_call 39; refine C.out.mono ?_; rintro e w' ⟨rfl, rfl⟩) | (at_mapUpdate; refine wpList_mapUpdate_in _ rfl _ _ _ 95 rfl 3 22 law_held Try.underlying95 _ L.s.hb S.cnt D rfl ho (by unfold maxLen; omega) _ _ _ rfl rfl hkey _ [] (plainElem_int Try.underlying22 (by decide)) ?_; intro w1 hown1 hturn1))
      go_ret
      refine ⟨by rw [HE.out]; rfl, ?_, ?_⟩
      · rw [HS.out]
        exact H.out.setHeld hturn1 (HeldIs.put (by omega) ho HC.out HD.out HH.out hown1)
      · have hg := hturn1.grown
        exact ⟨hg.os, hg.tape, hg.output, hg.size, fun b hb hf => hg.block b hb (by intro e; injection e with e; rw [e, H.out.ohb] at hf; cases hf)⟩

theorem Kept.of_mapTurned {L : Lay} {w w' : World} {b : Nat} (h : w.mapTurned w' b) (ho : L.own b ≠ .free) : Kept L w w' := by
  have hg := h.grown
  exact ⟨hg.os, hg.tape, hg.output, hg.size, fun b' hb hf => hg.block b' hb (by intro e; injection e with e; rw [e] at hf; exact ho hf)⟩

set_option maxRecDepth 100000 in
set_option maxHeartbeats 800000 in
theorem guard_Drop {L : Lay} {S : MS} {w : World} (h : Rep L S w) (x : Int) :
    Calls Try.prog 64 #[.pointer (some ⟨L.s.g, 0, none⟩), .int .u64 x] w fun e w' => Told L (S.drop x) (.bool (S.leads x)) w e w' := by
  have C := Lib.hid (guard_Leads h x)
  cases hb : S.leads x with
  | false =>
    have c2 := h.cg.cell 2 (by decide)
    have f2 := h.cg.frozen 2
    simp only [guardCell] at c2
    rw [hb] at C
    have HS := Lib.hid (show S.drop x = { S with slips := wrap64 (S.slips + 1) } by simp [MS.drop, hb])
    have H := Lib.hid h
    clear h hb
    go_enter Try.func64, Try.ntmps64
    go_wp2_with (go_at_call 16; refine C.out.mono ?_; rintro e w' ⟨rfl, nq, rfl⟩)
    go_ret
    exact ⟨rfl, by rw [HS.out]; exact (H.out.setSlips _).drewN _, ((Kept.refl _ _).setCell (by rw [H.out.og]; simp) _).drewN _⟩
  | true =>
    rw [hb] at C
    have hth : S.there (Bt.slot x) = true := by simp [MS.leads] at hb; exact hb.1.1
    have hhe : S.held (Bt.slot x).toNat = true := by simp [MS.leads] at hb; exact hb.1.2
    have hr := there_iff.1 hth
    have hN := h.N250
    obtain ⟨k, hk⟩ : ∃ k : Nat, Bt.slot x = k := Int.eq_ofNat_of_zero_le (by omega)
    have HS := Lib.hid (show S.drop x = { S with held := upd S.held k false, cnt := S.cnt - 1, gens := upd S.gens k (IntKind.u64.wrap (S.gens k + 1)) } by simp [MS.drop, hb, hk])
    have CS := Lib.hid fun w => edge_Slot x w
    rw [hk] at hr hhe CS
    simp only [Int.toNat_natCast] at hhe
    have hr1 := hr.1
    have hr2 := hr.2
    have hgg : L.s.g ≠ L.s.hb := role_ne h.og h.ohb (by decide)
    have hgb : L.s.gb ≠ L.s.hb := role_ne h.ogb h.ohb (by decide)
    have hkey := Lib.hid (keyOf_int_mk Try.underlying3 (key_wf k (by omega) (by omega)))
    have HH := Lib.hid hhe
    have H0 := Lib.hid h
    clear h hb hhe hk hth hr
    go_enter Try.func64, Try.ntmps64
    go_wp2_with fail
    refine C.out.mono ?_
    rintro e w1 ⟨rfl, nq, hq⟩
    have h := H0.out.drewN nq
    rw [← hq] at h
    have KQ := Lib.hid (show Kept L w w1 by rw [hq]; exact (Kept.refl _ _).drewN _)
    have c0 := h.cg.cell 0 (by decide)
    have c1 := h.cg.cell 1 (by decide)
    simp only [guardCell] at c0 c1
    obtain ⟨D, ho, hc, hd⟩ := h.chb
    have HO := Lib.hid ho
    have H := Lib.hid h
    have HD := Lib.hid hd
    have HC := Lib.hid hc
    clear h hc hd ho hq H0
    go_wp2_with fail
    go_still_tail 6, (by kernel_rfl)
    still_call ((CS.out _).mono fun _ _ ⟨a, b⟩ => ⟨a, b.symm⟩)
    repeat still_step
    refine wpStill_nil ?_
    go_wp2_with (at_delete; refine wpList_delete_own _ rfl _ _ 95 3 rfl 22 law_held Try.underlying95 _ L.s.hb S.cnt D rfl HO.out.drew _ _ rfl hkey.out ?_; intro w2 hown2 hturn2)
    have h2 := H.out.drew.setHeld hturn2 (HeldIs.del (by omega) HO.out.drew HC.out HD.out HH.out hown2)
    have K2 := Lib.hid (KQ.out.drew.trans (Kept.of_mapTurned (L := L) hturn2 (by rw [H.out.ohb]; simp)))
    have d0 : w2.cell? ⟨L.s.g, 0, none⟩ = some (.slice (some ⟨L.s.gb, 0, none⟩) (S.N + 1) (S.N + 1)) := h2.cg.cell 0 (by decide)
    have dg : w2.cell? ⟨L.s.gb, k, none⟩ = some (.int .u64 (S.gens k)) := h2.cgb.cell k (show k < S.N + 1 by omega)
    have fg := h2.cgb.frozen k
    have H2 := Lib.hid h2
    clear h2 hown2 hturn2 c0 c1
    have hi1 : (k : Int) < (S.N : Int) + 1 := by omega
    have hi2 : k < S.N + 1 := by omega
    have hi3 : k ≤ S.N := by omega
    go_still_tail 10, (by kernel_rfl)
    still_call ((CS.out _).mono fun _ _ ⟨a, b⟩ => ⟨a, b.symm⟩)
    repeat still_step
    refine wpStill_nil ?_
    go_wp2
    go_ret
    refine ⟨rfl, ?_, ?_⟩
    · rw [HS.out]
      exact H2.out.drew.setGen k _
    · exact K2.out.drew.setCell (by rw [H2.out.ogb]; simp) _
end Go.Proofs.Ytjnikgliecgbdaa
