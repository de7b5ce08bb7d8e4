/- Contracts of a machine's step by whatever routine, and of Fault. -/
import Derived.Test.YtjnikgliecgbdaaStep
namespace Go.Proofs.Ytjnikgliecgbdaa
open Go.RowKit

/-- The state behind a step that led from S to S1 within. -/
def MS.stepped (S S1 : MS) : MS := { S1 with steps := wrap64 (S1.steps + 1), fault := S1.fault || decide (1 < wrap64 (S1.acc - S.acc)) }
def MS.busy (S : MS) (t : Nat) : Bool := !(S.th t).frames.isEmpty

theorem topPtr_busy {L : Lay} {S : MS} {w : World} (h : Rep L S w) {t : Nat} (ht : t < S.T) : (S.busy t = true ∧ ∃ b bs, L.fr t = b :: bs ∧ topPtr L t = .pointer (some ⟨b, 0, none⟩)) ∨ (S.busy t = false ∧ topPtr L t = .pointer none) := by
  have hl := (h.cth t ht).frs.length
  cases hb : L.fr t with
  | nil =>
    rw [hb] at hl
    right
    exact ⟨by simp [MS.busy]; exact List.eq_nil_of_length_eq_zero (by simpa using hl.symm), by simp [topPtr, hb]⟩
  | cons b bs =>
    rw [hb] at hl
    left
    refine ⟨?_, b, bs, rfl, by simp [topPtr, hb]⟩
    cases hf : (S.th t).frames with
    | nil => rw [hf] at hl; simp at hl
    | cons _ _ => simp [MS.busy, hf]

theorem run_do (D : Nat) (w : World) : (binOp BinOp.eql 89 (.func (.func D) #[] #[]) .nilFunc).run Try.prog w = .ok (.bool false) w := by kernel_rfl

set_option maxRecDepth 100000 in
set_option maxHeartbeats 1600000 in
theorem core_Step {L : Lay} {S S1 : MS} {w : World} {t : Nat} (D : Nat) (hcall : ∀ (args : Array Value) (w : World), (callFunc D args).run Try.prog w = .ok (.enter D args) w) (h : Rep L S w) (ht : t < S.T) (hn : S.busy t = true) (hd : (S.th t).frames.length ≤ 5000) (eT : S1.T = S.T) (hd1 : (S1.th t).frames.length ≤ 5000)
    (hdo : ∀ n, Calls Try.prog D #[.pointer (some ⟨L.s.m, 0, none⟩), .int .i64 t] (w.drewN n) fun e w' => Goes L S1 (.tuple #[]) (w.drewN n) e w') :
    Calls Try.prog 12 #[.pointer (some ⟨L.s.m, 0, none⟩), .int .i64 t, .func (.func D) #[] #[]] w fun e w' => Goes L (S.stepped S1) (.bool (S1.busy t)) w e w' := by
  obtain ⟨_, b, bs, hb, hq⟩ := (topPtr_busy h ht).resolve_right fun hx => by rw [hn] at hx; cases hx.1
  have HX := Lib.hid h
  have HP := Lib.hid (thrPtr_at L S ht)
  have HQ := Lib.hid hq
  have HD := Lib.hid hdo
  have E1 := Lib.hid eT
  have hrun := run_do D
  clear h hq hdo hn eT
  go_enter Try.func12, Try.ntmps12
  go_wp2_with fail
  refine (core_Thread HX.out _).mono ?_
  rw [HP.out]
  rintro e w' ⟨rfl, rfl⟩
  go_wp2_with fail
  refine (frame_Top (HX.out.cth t ht) hd).mono ?_
  rw [HQ.out]
  rintro e w1 ⟨rfl, n, hn⟩
  have h1 : Rep L S w1 := by rw [hn]; exact HX.out.drewN n
  have K1 := Lib.hid (show Kept L w w1 by rw [hn]; exact (Kept.refl _ _).drewN n)
  have H1 := Lib.hid h1
  have cm1 := h1.cm.cell 1 (by decide)
  simp only [machCell, ptr] at cm1
  have HN := Lib.hid hn
  clear h1 hn
  go_wp2_with fail
  refine (mem_Accesses H1.out).mono ?_
  rintro e w' ⟨rfl, rfl⟩
  go_wp2_with fail
  rw [HN.out]
  refine (HD.out n).mono ?_
  rintro e w2 ⟨L', rfl, hr, hk⟩
  have hk1 : Moves L L' w w2 := (Moves.of ((Kept.refl _ _).drewN n)).trans hk
  have HR := Lib.hid hr
  have HK := Lib.hid hk1
  have es := hk1.s
  have ES := Lib.hid es
  have cm1' := hr.cm.cell 1 (by decide)
  have cm3' := hr.cm.cell 3 (by decide)
  have cm4' := hr.cm.cell 4 (by decide)
  have fm4' := hr.cm.frozen 4
  have cm5' := hr.cm.cell 5 (by decide)
  have fm5' := hr.cm.frozen 5
  simp only [machCell, ptr, es] at cm1' cm3' cm4' fm4' cm5' fm5'
  have hA := mem_Accesses (hr.setSteps (wrap64 (S1.steps + 1)))
  have hmem := hr.cme.lt
  rw [es] at hA hmem
  have HA := Lib.hid hA
  have hth : (L'.s.th t) = L.s.th t := by rw [es]
  have hTT := frame_Top ((((hr.setSteps (wrap64 (S1.steps + 1))).setFault (S1.fault || decide (1 < wrap64 (S1.acc - S.acc)))).cth t (show t < S1.T by rw [E1.out]; exact ht))) hd1
  have ctb := hr.ctb.cell t (show t < S1.T by rw [E1.out]; exact ht)
  have htbm : L'.s.tb ≠ L'.s.m := role_ne hr.otb hr.om (by decide)
  have hbs := topPtr_busy hr (t := t) (by rw [E1.out]; exact ht)
  have hT6 := hr.T6
  rw [es] at hTT ctb htbm
  simp only [ptr] at ctb
  have HTT := Lib.hid hTT
  have hTt : (t : Int) < S1.T := by rw [E1.out]; omega
  have HBS := Lib.hid hbs
  clear hr hk hk1 es cm1 hA hth hTT hbs hd1 hd
  have hown : L'.own L.s.m ≠ .free := by have := HR.out.om; rw [ES.out] at this; rw [this]; simp
  have HOWN := Lib.hid hown
  clear hown
  have hpost : ∀ (n : Nat) (v : Bool), S1.busy t = v → Goes L (S.stepped S1) (.bool (S1.busy t)) w (.returned (.bool v)) (((w2.setCell ⟨L.s.m, 4, none⟩ (.int .i64 (wrap64 (S1.steps + 1)))).setCell ⟨L.s.m, 5, none⟩ (.bool (S1.fault || decide (1 < wrap64 (S1.acc - S.acc))))).drewN n) := by
    intro n v hv
    refine ⟨L', by rw [hv], ?_, ⟨HK.out.s, HK.out.own, ?_⟩⟩
    · have := ((HR.out.setSteps (wrap64 (S1.steps + 1))).setFault (S1.fault || decide (1 < wrap64 (S1.acc - S.acc)))).drewN n
      rw [ES.out] at this
      exact this
    · have hk := HK.out.kept
      have hf : ∀ k, k < w.heap.size → L.own k = .free → k ≠ L.s.m := fun k hk ho e => by
        have := HK.out.own k hk
        rw [ho, e] at this
        exact HOWN.out this
      exact ⟨hk.os, hk.tape, hk.output, Nat.le_trans hk.size (by simp [World.setCell, World.drewN]), fun k hk1 ho => by
        show ((w2.setCell _ _).setCell _ _).heap[k]? = _
        rw [Below.heap_setCell _ _ _ _ (hf k hk1 ho), Below.heap_setCell _ _ _ _ (hf k hk1 ho)]
        exact hk.block k hk1 ho⟩
  have HPO : Hid (∀ (n : Nat) (v : Bool), S1.busy t = v → Goes L (S.stepped S1) (.bool (S1.busy t)) w (.returned (.bool v)) (((w2.setCell ⟨L.s.m, 4, none⟩ (.int .i64 (wrap64 (S1.steps + 1)))).setCell ⟨L.s.m, 5, none⟩ (.bool (S1.fault || decide (1 < wrap64 (S1.acc - S.acc))))).drewN n)) := hpost
  clear hpost
  cases hfl : S1.fault with
  | true =>
    rw [hfl] at cm5'
    have HFL := Lib.hid hfl
    clear hfl
    go_wp2_with fail
    rw [show (Value.bool true) = (Value.bool (S1.fault || decide (1 < wrap64 (S1.acc - S.acc)))) by rw [HFL.out]; rfl]
    refine HTT.out.mono ?_
    rcases HBS.out with ⟨hb1, b', bs', _, hq⟩ | ⟨hb0, hq⟩
    · rw [hq]
      rintro e w4 ⟨rfl, n4, hn4⟩
      have HN4 := Lib.hid hn4
      have HB1 := Lib.hid hb1
      clear hn4 hb1 hq
      go_wp2
      go_ret
      rw [HN4.out]
      exact HPO.out _ _ HB1.out
    · rw [hq]
      rintro e w4 ⟨rfl, n4, hn4⟩
      have HN4 := Lib.hid hn4
      have HB1 := Lib.hid hb0
      clear hn4 hb0 hq
      go_wp2
      go_ret
      rw [HN4.out]
      exact HPO.out _ _ HB1.out
  | false =>
    rw [hfl] at cm5'
    have HFL := Lib.hid hfl
    clear hfl
    go_wp2_with fail
    refine HA.out.mono ?_
    rintro e w' ⟨rfl, rfl⟩
    go_wp2_with fail
    rw [show (Value.bool (decide (1 < wrap64 (S1.acc - S.acc)))) = (Value.bool (S1.fault || decide (1 < wrap64 (S1.acc - S.acc)))) by rw [HFL.out]; rfl]
    refine HTT.out.mono ?_
    rcases HBS.out with ⟨hb1, b', bs', _, hq⟩ | ⟨hb0, hq⟩
    · rw [hq]
      rintro e w4 ⟨rfl, n4, hn4⟩
      have HN4 := Lib.hid hn4
      have HB1 := Lib.hid hb1
      clear hn4 hb1 hq
      go_wp2
      go_ret
      rw [HN4.out]
      exact HPO.out _ _ HB1.out
    · rw [hq]
      rintro e w4 ⟨rfl, n4, hn4⟩
      have HN4 := Lib.hid hn4
      have HB1 := Lib.hid hb0
      clear hn4 hb0 hq
      go_wp2
      go_ret
      rw [HN4.out]
      exact HPO.out _ _ HB1.out

set_option maxHeartbeats 800000 in
/-- A step of a thread that is within nothing. -/
theorem core_Step_idle {L : Lay} {S : MS} {w : World} {t : Nat} (D : Nat) (h : Rep L S w) (ht : t < S.T) (hn : S.busy t = false) :
    Calls Try.prog 12 #[.pointer (some ⟨L.s.m, 0, none⟩), .int .i64 t, .func (.func D) #[] #[]] w fun e w' => Quiets (.bool false) w e w' := by
  obtain ⟨_, hq⟩ := (topPtr_busy h ht).resolve_left fun hx => by rw [hn] at hx; cases hx.1
  have hl : (S.th t).frames = [] := by simpa [MS.busy] using hn
  have HX := Lib.hid h
  have HP := Lib.hid (thrPtr_at L S ht)
  have HQ := Lib.hid hq
  have HL := Lib.hid hl
  clear h hq hn hl
  go_enter Try.func12, Try.ntmps12
  go_wp2_with fail
  refine (core_Thread HX.out _).mono ?_
  rw [HP.out]
  rintro e w' ⟨rfl, rfl⟩
  go_wp2_with fail
  refine (frame_Top (HX.out.cth t ht) (by rw [HL.out]; simp)).mono ?_
  rw [HQ.out]
  rintro e w1 ⟨rfl, n, hn⟩
  have HN := Lib.hid hn
  clear hn
  go_wp2
  go_ret
  exact ⟨rfl, n, HN.out⟩

def MS.faulty (S : MS) : Bool := S.fault || S.mfault || decide (0 < S.slips)

set_option maxHeartbeats 800000 in
theorem core_Fault {L : Lay} {S : MS} {w : World} (h : Rep L S w) :
    Calls Try.prog 14 #[.pointer (some ⟨L.s.m, 0, none⟩)] w fun e w' => e = .returned (.bool S.faulty) ∧ w = w' := by
  have c1 := h.cm.cell 1 (by decide)
  have c2 := h.cm.cell 2 (by decide)
  have c5 := h.cm.cell 5 (by decide)
  simp only [machCell, ptr] at c1 c2 c5
  have CM := Lib.hid (mem_Fault h)
  have CG := Lib.hid (guard_Slips h)
  clear h
  unfold MS.faulty
  cases hf : S.fault with
  | true =>
    rw [hf] at c5
    simp only [Bool.true_or]
    go_enter Try.func14, Try.ntmps14
    go_wp2
    go_ret
    exact ⟨rfl, rfl⟩
  | false =>
    rw [hf] at c5
    simp only [Bool.false_or]
    cases hm : S.mfault with
    | true =>
      rw [hm] at CM
      simp only [Bool.true_or]
      go_enter Try.func14, Try.ntmps14
      go_wp2_with (go_at_call 37; refine CM.out.mono ?_; rintro e w' ⟨rfl, rfl⟩)
      go_ret
      exact ⟨rfl, rfl⟩
    | false =>
      rw [hm] at CM
      simp only [Bool.false_or]
      go_enter Try.func14, Try.ntmps14
      go_wp2_with (first | (go_at_call 37; refine CM.out.mono ?_; rintro e w' ⟨rfl, rfl⟩) | (go_at_call 38; refine CG.out.mono ?_; rintro e w' ⟨rfl, rfl⟩))
      go_ret
      exact ⟨rfl, rfl⟩
end Go.Proofs.Ytjnikgliecgbdaa
