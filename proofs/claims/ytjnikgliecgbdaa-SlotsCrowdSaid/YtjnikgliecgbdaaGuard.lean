/- Contracts of package guard over a world that holds a machine. -/
import Derived.Test.YtjnikgliecgbdaaMemB
namespace Go.Proofs.Ytjnikgliecgbdaa
open Go.RowKit Go.Maps

def MS.there (S : MS) (s : Int) : Bool := decide (1 ≤ s) && decide (s < S.N + 1)
def MS.edge (S : MS) (s : Int) : Int := if S.there s = true then s + 4096 * (S.gens s.toNat % Bt.p50) else 0
def MS.leads (S : MS) (e : Int) : Bool := S.there (Bt.slot e) && S.held (Bt.slot e).toNat && (Bt.node (S.edge (Bt.slot e)) == Bt.node e)
def MS.takeOk (S : MS) (s : Int) : Bool := S.there s && !S.held s.toNat
def MS.take (S : MS) (s : Int) : MS :=
  { S with held := if S.takeOk s = true then upd S.held s.toNat true else S.held, cnt := if S.takeOk s = true then S.cnt + 1 else S.cnt, slips := if S.takeOk s = true then S.slips else wrap64 (S.slips + 1) }
def MS.drop (S : MS) (e : Int) : MS :=
  { S with held := if S.leads e = true then upd S.held (Bt.slot e).toNat false else S.held, cnt := if S.leads e = true then S.cnt - 1 else S.cnt,
           gens := if S.leads e = true then upd S.gens (Bt.slot e).toNat (IntKind.u64.wrap (S.gens (Bt.slot e).toNat + 1)) else S.gens, slips := if S.leads e = true then S.slips else wrap64 (S.slips + 1) }

theorem law_held : Keyed Try.prog 3 := int_keyed Try.underlying3
theorem zero_held (w : World) : (zeroValue 22).run Try.prog w = .ok (.int .u64 0) w := by kernel_rfl
theorem key_wf (s : Int) (h0 : 0 ≤ s) (h1 : s ≤ 5000) : (Lit.int .i64 s).wf = true := by simp [Lit.wf, IntKind.min, IntKind.max, IntKind.signed, IntKind.bits]; omega

theorem HeldIs.look {w : World} {b : Nat} {held : Nat → Bool} {cnt : Nat} (h : HeldIs w b held cnt) (s : Int) (h0 : 0 ≤ s) (h1 : s ≤ 5000) :
    (Instr.lookup 95 (.map (some b)) (.int .i64 s) false).run Try.prog w = .ok (.int .u64 (if held s.toNat then 1 else 0)) w := by
  obtain ⟨D, ho, _, hs⟩ := h
  obtain ⟨k, rfl⟩ := Int.eq_ofNat_of_zero_le h0
  obtain ⟨c, hr, hat, _⟩ := ho.lookup_int law_held Try.underlying95 Try.underlying22 (zero_held w) (keyOf_int_mk Try.underlying3 (key_wf k (by omega) h1))
  have e : c = if held k then 1 else 0 := by
    have := hat.symm.trans (hs k).2
    simpa only [DataW.lit.injEq, Lit.int.injEq, true_and] using this
  rw [hr, e]
  simp only [Int.toNat_natCast]

theorem guard_there {L : Lay} {S : MS} {w : World} (h : Rep L S w) (s : Int) :
    Calls Try.prog 39 #[.pointer (some ⟨L.s.g, 0, none⟩), .int .i64 s] w fun e w' => e = .returned (.bool (S.there s)) ∧ w = w' := by
  have c0 := h.cg.cell 0 (by decide)
  have hN := h.N250
  simp only [guardCell] at c0
  clear h
  unfold MS.there
  by_cases h1 : 1 ≤ s
  · by_cases h2 : s < S.N + 1
    · have e1 : decide (1 ≤ s) = true := by simpa using h1
      have e2 : decide (s < (S.N : Int) + 1) = true := by simpa using h2
      rw [e1, e2]
      have E := Lib.hid e1
      clear e1 e2 E
      go_enter Try.func39, Try.ntmps39
      go_wp2
      go_ret
      exact ⟨rfl, rfl⟩
    · have e2 : decide (s < (S.N : Int) + 1) = false := by simpa using h2
      rw [e2, Bool.and_false]
      clear e2
      go_enter Try.func39, Try.ntmps39
      go_wp2
      go_ret
      exact ⟨rfl, rfl⟩
  · have e1 : decide (1 ≤ s) = false := by simpa using h1
    rw [e1, Bool.false_and]
    clear e1
    go_enter Try.func39, Try.ntmps39
    go_wp2
    go_ret
    exact ⟨rfl, rfl⟩

theorem there_iff {S : MS} {s : Int} : S.there s = true ↔ 1 ≤ s ∧ s ≤ S.N := by simp [MS.there]; omega

set_option maxHeartbeats 400000 in
theorem guard_Edge {L : Lay} {S : MS} {w : World} (h : Rep L S w) (s : Int) :
    Calls Try.prog 40 #[.pointer (some ⟨L.s.g, 0, none⟩), .int .i64 s] w fun e w' => e = .returned (.int .u64 (S.edge s)) ∧ w = w' := by
  have C := Lib.hid (guard_there h s)
  cases hb : S.there s with
  | false =>
    rw [hb] at C
    have HE := Lib.hid (show S.edge s = 0 by simp [MS.edge, hb])
    clear h hb
    go_enter Try.func40, Try.ntmps40
    go_wp2_with fail
    refine C.out.mono ?_
    rintro e w' ⟨rfl, rfl⟩
    go_wp2
    go_ret
    exact ⟨by rw [HE.out]; rfl, rfl⟩
  | true =>
    rw [hb] at C
    have hr := there_iff.1 hb
    obtain ⟨k, rfl⟩ := Int.eq_ofNat_of_zero_le (show 0 ≤ s by omega)
    have HE := Lib.hid (show S.edge k = k + 4096 * (S.gens k % Bt.p50) by simp [MS.edge, hb])
    have c0 := h.cg.cell 0 (by decide)
    have cg := h.cgb.cell k (by omega)
    have hN := h.N250
    have h1 := hr.1
    have h2 := hr.2
    simp only [guardCell] at c0
    clear h hb hr
    go_enter Try.func40, Try.ntmps40
    go_wp2_with fail
    refine C.out.mono ?_
    rintro e w' ⟨rfl, rfl⟩
    go_wp2_with (go_at_call 53; refine (edge_Make _ _ _ (by omega) (by omega)).mono ?_; rintro e w' ⟨rfl, rfl⟩)
    go_ret
    exact ⟨by rw [HE.out]; rfl, rfl⟩

/-- A call that only reads: it told v; orders may have been drawn. -/
def Quiets (v : Value) (w : World) (e : Ending) (w' : World) : Prop := e = .returned v ∧ ∃ n, w' = w.drewN n

theorem quiet_eq {P : Program} {f : FuncId} {args : Array Value} {w : World} {n : Nat} {v : Value}
    (h : Calls P f args (w.drewN n) fun e w' => e = .returned v ∧ w.drewN n = w') : Calls P f args (w.drewN n) fun e w'' => e = .returned v ∧ ∃ m, w'' = w.drewN m :=
  h.mono fun _ _ ⟨he, hm⟩ => ⟨he, n, hm.symm⟩
theorem quiet_q {P : Program} {f : FuncId} {args : Array Value} {w : World} {n : Nat} {v : Value}
    (h : Calls P f args (w.drewN n) fun e w' => Quiets v (w.drewN n) e w') : Calls P f args (w.drewN n) fun e w'' => e = .returned v ∧ ∃ m, w'' = w.drewN m :=
  h.mono fun _ _ ⟨he, m, hm⟩ => ⟨he, n + m, by rw [hm, World.drewN_drewN]⟩
theorem Rep.drewN {L : Lay} {S : MS} {w : World} (h : Rep L S w) (n : Nat) : Rep L S (w.drewN n) := h.congr (Nat.le_refl _) fun _ _ _ => rfl
theorem Kept.drewN {L : Lay} {a w : World} (h : Kept L a w) (n : Nat) : Kept L a (w.drewN n) := ⟨h.os, h.tape, h.output, h.size, h.block⟩

set_option maxHeartbeats 400000 in
theorem guard_Leads {L : Lay} {S : MS} {w : World} (h : Rep L S w) (x : Int) :
    Calls Try.prog 16 #[.pointer (some ⟨L.s.g, 0, none⟩), .int .u64 x] w fun e w' => Quiets (.bool (S.leads x)) w e w' := by
  have C := Lib.hid fun n => guard_there (h.drewN n) (Bt.slot x)
  have CE := Lib.hid fun n => guard_Edge (h.drewN n) (Bt.slot x)
  have c1 := h.cg.cell 1 (by decide)
  simp only [guardCell] at c1
  have hk := fun n => (h.drewN n).chb.look (Bt.slot x) (slot_bd x).1 (by have := (slot_bd x).2; omega)
  cases hb : S.there (Bt.slot x) with
  | false =>
    rw [hb] at C
    have HE := Lib.hid (show S.leads x = false by simp [MS.leads, hb])
    clear h hb hk c1
    go_enter Try.func16, Try.ntmps16
    go_wp2_with fail
    go_quiet ((first | (go_at_call 18; exact quiet_eq (edge_Slot _ _)) | (go_at_call 39; exact quiet_eq (C.out _))))
    go_wp2
    go_ret
    exact ⟨by rw [HE.out]; rfl, nq, rfl⟩
  | true =>
    rw [hb] at C
    cases hh : S.held (Bt.slot x).toNat with
    | false =>
      have HE := Lib.hid (show S.leads x = false by simp [MS.leads, hh])
      simp only [hh, Bool.false_eq_true, if_false] at hk
      clear h hb hh
      go_enter Try.func16, Try.ntmps16
      go_wp2_with fail
      go_quiet ((first | (go_at_call 18; exact quiet_eq (edge_Slot _ _)) | (go_at_call 39; exact quiet_eq (C.out _))))
      go_wp2
      go_ret
      exact ⟨by rw [HE.out]; rfl, nq, rfl⟩
    | true =>
      have HE := Lib.hid (show S.leads x = (Bt.node (S.edge (Bt.slot x)) == Bt.node x) by simp [MS.leads, hh, hb])
      simp only [hh, if_true] at hk
      clear h hb hh
      go_enter Try.func16, Try.ntmps16
      go_wp2_with fail
      go_quiet ((first | (go_at_call 18; exact quiet_eq (edge_Slot _ _)) | (go_at_call 39; exact quiet_eq (C.out _)) | (go_at_call 40; exact quiet_eq (CE.out _)) | (go_at_call 41; exact quiet_eq (edge_To _ _ _))))
      go_wp2
      go_ret
      exact ⟨by rw [HE.out]; rfl, nq, rfl⟩

theorem guard_Slips {L : Lay} {S : MS} {w : World} (h : Rep L S w) :
    Calls Try.prog 38 #[.pointer (some ⟨L.s.g, 0, none⟩)] w fun e w' => e = .returned (.int .i64 S.slips) ∧ w = w' := by
  have c2 := h.cg.cell 2 (by decide)
  simp only [guardCell] at c2
  clear h
  go_enter Try.func38, Try.ntmps38
  go_wp2
  go_ret
  exact ⟨rfl, rfl⟩

theorem guard_Held {L : Lay} {S : MS} {w : World} (h : Rep L S w) :
    Calls Try.prog 46 #[.pointer (some ⟨L.s.g, 0, none⟩)] w fun e w' => e = .returned (.int .i64 S.cnt) ∧ w = w' := by
  have c1 := h.cg.cell 1 (by decide)
  simp only [guardCell] at c1
  obtain ⟨D, ho, hs, _⟩ := h.chb
  have hl := ho.len Try.underlying95 3
  rw [hs] at hl
  clear h hs
  go_enter Try.func46, Try.ntmps46
  go_wp2
  go_ret
  exact ⟨rfl, rfl⟩
end Go.Proofs.Ytjnikgliecgbdaa
