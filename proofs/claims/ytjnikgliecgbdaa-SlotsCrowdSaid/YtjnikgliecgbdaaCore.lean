/- Contracts of what only reads the machine: its parts, its plan, its threads and their frames. -/
import Derived.Test.YtjnikgliecgbdaaGuardB
namespace Go.Proofs.Ytjnikgliecgbdaa
open Go.RowKit

/-! ### The machine's parts -/
theorem core_Plan {L : Lay} {S : MS} {w : World} (h : Rep L S w) :
    Calls Try.prog 30 #[.pointer (some ⟨L.s.m, 0, none⟩)] w fun e w' => e = .returned (.pointer (some ⟨L.s.p, 0, none⟩)) ∧ w = w' := by
  have c := h.cm.cell 0 (by decide)
  simp only [machCell, ptr] at c
  clear h
  go_enter Try.func30, Try.ntmps30
  go_wp2
  go_ret
  exact ⟨rfl, rfl⟩
theorem core_Mem {L : Lay} {S : MS} {w : World} (h : Rep L S w) :
    Calls Try.prog 32 #[.pointer (some ⟨L.s.m, 0, none⟩)] w fun e w' => e = .returned (.pointer (some ⟨L.s.me, 0, none⟩)) ∧ w = w' := by
  have c := h.cm.cell 1 (by decide)
  simp only [machCell, ptr] at c
  clear h
  go_enter Try.func32, Try.ntmps32
  go_wp2
  go_ret
  exact ⟨rfl, rfl⟩
theorem core_Guard {L : Lay} {S : MS} {w : World} (h : Rep L S w) :
    Calls Try.prog 15 #[.pointer (some ⟨L.s.m, 0, none⟩)] w fun e w' => e = .returned (.pointer (some ⟨L.s.g, 0, none⟩)) ∧ w = w' := by
  have c := h.cm.cell 2 (by decide)
  simp only [machCell, ptr] at c
  clear h
  go_enter Try.func15, Try.ntmps15
  go_wp2
  go_ret
  exact ⟨rfl, rfl⟩
theorem core_Threads {L : Lay} {S : MS} {w : World} (h : Rep L S w) :
    Calls Try.prog 44 #[.pointer (some ⟨L.s.m, 0, none⟩)] w fun e w' => e = .returned (.int .i64 S.T) ∧ w = w' := by
  have c := h.cm.cell 3 (by decide)
  have hT := h.T6
  simp only [machCell] at c
  clear h
  go_enter Try.func44, Try.ntmps44
  go_wp2
  go_ret
  exact ⟨rfl, rfl⟩

/-- Where a thread lies, if it is there. -/
def thrPtr (L : Lay) (S : MS) (t : Int) : Value := if 0 ≤ t ∧ t < S.T then .pointer (some ⟨L.s.th t.toNat, 0, none⟩) else .pointer none

set_option maxHeartbeats 400000 in
theorem core_Thread {L : Lay} {S : MS} {w : World} (h : Rep L S w) (t : Int) :
    Calls Try.prog 7 #[.pointer (some ⟨L.s.m, 0, none⟩), .int .i64 t] w fun e w' => e = .returned (thrPtr L S t) ∧ w = w' := by
  have c := h.cm.cell 3 (by decide)
  have hT := h.T6
  simp only [machCell] at c
  by_cases h0 : 0 ≤ t
  · obtain ⟨k, rfl⟩ := Int.eq_ofNat_of_zero_le h0
    by_cases h1 : k < S.T
    · have cb := h.ctb.cell k h1
      simp only [ptr] at cb
      have HE := Lib.hid (show thrPtr L S k = .pointer (some ⟨L.s.th k, 0, none⟩) by simp [thrPtr, h1])
      have h1' : (k : Int) < S.T := by omega
      clear h
      go_enter Try.func7, Try.ntmps7
      go_wp2
      go_ret
      exact ⟨by rw [HE.out]; rfl, rfl⟩
    · have HE := Lib.hid (show thrPtr L S k = .pointer none by simp [thrPtr, h1])
      have h1' : (S.T : Int) ≤ k := by omega
      clear h h1
      go_enter Try.func7, Try.ntmps7
      go_wp2
      go_ret
      exact ⟨by rw [HE.out]; rfl, rfl⟩
  · have HE := Lib.hid (show thrPtr L S t = .pointer none by simp [thrPtr, h0])
    have h0' : t < 0 := by omega
    clear h h0
    go_enter Try.func7, Try.ntmps7
    go_wp2
    go_ret
    exact ⟨by rw [HE.out]; rfl, rfl⟩

/-! ### The plan -/
theorem plan_in (n a b : Int) (w : World) : Calls Try.prog 67 #[.int .i64 n, .int .i64 a, .int .i64 b] w fun e w' => e = .returned (.bool (decide (a ≤ n) && decide (n ≤ b))) ∧ w = w' := by
  by_cases h : a ≤ n
  · have HE := Lib.hid (show (decide (a ≤ n) && decide (n ≤ b)) = decide (n ≤ b) by simp [h])
    go_enter Try.func67, Try.ntmps67
    go_wp2
    go_ret
    exact ⟨by rw [HE.out]; rfl, rfl⟩
  · have HE := Lib.hid (show (decide (a ≤ n) && decide (n ≤ b)) = false by simp [h])
    go_enter Try.func67, Try.ntmps67
    go_wp2
    go_ret
    exact ⟨by rw [HE.out]; rfl, rfl⟩

/-- Where a slot's field is; -1: nowhere. -/
def MS.nodeAt (S : MS) (s f : Int) : Int := if (1 ≤ s ∧ s ≤ S.N) ∧ (0 ≤ f ∧ f ≤ 6) then 3 + 8 * S.T + 7 * (s - 1) + f else -1

set_option maxHeartbeats 400000 in
theorem plan_Node {L : Lay} {S : MS} {w : World} (h : Rep L S w) (s f : Int) :
    Calls Try.prog 52 #[.pointer (some ⟨L.s.p, 0, none⟩), .int .i64 s, .int .i64 f] w fun e w' => e = .returned (.int .i64 (S.nodeAt s f)) ∧ w = w' := by
  have c0 := h.cp.cell 0 (by decide)
  have c1 := h.cp.cell 1 (by decide)
  have hT := h.T6
  have hN := h.N250
  simp only [planCell] at c0 c1
  clear h
  by_cases h1 : 1 ≤ s ∧ s ≤ S.N
  · have e1 : (decide (1 ≤ s) && decide (s ≤ (S.N : Int))) = true := by simp [h1]
    obtain ⟨h1a, h1b⟩ := h1
    by_cases h2 : 0 ≤ f ∧ f ≤ 6
    · have e2 : (decide (0 ≤ f) && decide (f ≤ 6)) = true := by simp [h2]
      obtain ⟨h2a, h2b⟩ := h2
      have HE := Lib.hid (show S.nodeAt s f = 3 + 8 * S.T + 7 * (s - 1) + f by simp [MS.nodeAt, h1a, h1b, h2a, h2b])
      have C1 := Lib.hid fun w => plan_in s 1 S.N w
      have C2 := Lib.hid fun w => plan_in f 0 6 w
      rw [e1] at C1
      rw [e2] at C2
      clear e1 e2
      go_enter Try.func52, Try.ntmps52
      go_wp2_with fail
      refine (C1.out _).mono ?_
      rintro e w' ⟨rfl, rfl⟩
      go_wp2_with fail
      refine (C2.out _).mono ?_
      rintro e w' ⟨rfl, rfl⟩
      go_wp2
      go_ret
      exact ⟨by rw [HE.out]; rfl, rfl⟩
    · have e2 : (decide (0 ≤ f) && decide (f ≤ 6)) = false := by simp; omega
      have HE := Lib.hid (show S.nodeAt s f = -1 by simp [MS.nodeAt, h2])
      have C1 := Lib.hid fun w => plan_in s 1 S.N w
      have C2 := Lib.hid fun w => plan_in f 0 6 w
      rw [e1] at C1
      rw [e2] at C2
      clear e1 e2 h2
      go_enter Try.func52, Try.ntmps52
      go_wp2_with fail
      refine (C1.out _).mono ?_
      rintro e w' ⟨rfl, rfl⟩
      go_wp2_with fail
      refine (C2.out _).mono ?_
      rintro e w' ⟨rfl, rfl⟩
      go_wp2
      go_ret
      exact ⟨by rw [HE.out]; rfl, rfl⟩
  · have e1 : (decide (1 ≤ s) && decide (s ≤ (S.N : Int))) = false := by simp; omega
    have HE := Lib.hid (show S.nodeAt s f = -1 by simp [MS.nodeAt, h1])
    have C1 := Lib.hid fun w => plan_in s 1 S.N w
    rw [e1] at C1
    clear e1 h1
    go_enter Try.func52, Try.ntmps52
    go_wp2_with fail
    refine (C1.out _).mono ?_
    rintro e w' ⟨rfl, rfl⟩
    go_wp2
    go_ret
    exact ⟨by rw [HE.out]; rfl, rfl⟩

/-! ### Threads -/
theorem Frs.length {own : Nat → Role} {w : World} {t : Nat} : ∀ {bs : List Nat} {fs : List FS}, Frs own w t bs fs → bs.length = fs.length
  | [], [], _ => rfl
  | _ :: _, _ :: _, ⟨_, _, hr⟩ => by simp [Frs.length hr]
  | [], _ :: _, h => h.elim
  | _ :: _, [], h => h.elim

/-- Where a thread's top frame lies. -/
def topPtr (L : Lay) (t : Nat) : Value := match L.fr t with
  | [] => .pointer none
  | b :: _ => .pointer (some ⟨b, 0, none⟩)

theorem thr_frames {L : Lay} {w : World} {t : Nat} {x : TS} (h : ThrIs L w t x) {b : Nat} {bs : List Nat} (hb : L.fr t = b :: bs) :
    ∃ g cap f fs, x.frames = f :: fs ∧ L.fv t = .slice (some ⟨g, 0, none⟩) (fs.length + 1) cap ∧ w.cell? ⟨g, fs.length, none⟩ = some (.pointer (some ⟨b, 0, none⟩)) ∧ fs.length + 1 ≤ cap ∧ cap ≤ maxLen ∧ L.own g = .frames t ∧ Cells w b 46 26 (frCell f) ∧ bs.length = fs.length := by
  have hl := h.frs.length
  have hq := h.frs
  have hr := h.frames.1.2
  cases hf : x.frames with
  | nil => rw [hb, hf] at hl; simp at hl
  | cons f fs =>
    rw [hb, hf] at hq hl
    have hl' : bs.length = fs.length := by simpa using hl
    rw [hf] at hr
    rcases hr with ⟨_, h0⟩ | ⟨g, cap, cur, hv, _, hg, h1, h2, hs, hx⟩
    · simp at h0
    · refine ⟨g, cap, f, fs, rfl, hv, ?_, h1, h2, h.frames.2 g (by rw [hv]; rfl), hq.2.1, hl'⟩
      have hi : (cur.toList.take ((fs.length + 1) * 1))[fs.length]? = some (ptr b) := by
        show (cur.toList.take ((f :: fs).length * 1))[fs.length]? = _
        rw [hx, hb, List.reverse_cons, List.map_append, List.getElem?_append_right (by simp [hl'])]
        simp [hl']
      rw [List.getElem?_take] at hi
      simp only [Nat.mul_one, Nat.lt_add_one, if_true] at hi
      simp [World.cell?, hg]
      simpa [ptr] using hi

set_option maxHeartbeats 400000 in
theorem frame_Top {L : Lay} {w : World} {t : Nat} {x : TS} (h : ThrIs L w t x) (hd : x.frames.length ≤ 5000) :
    Calls Try.prog 10 #[.pointer (some ⟨L.s.th t, 0, none⟩)] w fun e w' => Quiets (topPtr L t) w e w' := by
  have c := h.cells.cell 24 (by decide)
  simp only [thrCell] at c
  cases hb : L.fr t with
  | nil =>
    have HE := Lib.hid (show topPtr L t = .pointer none by simp [topPtr, hb])
    have hl := h.frs.length
    rw [hb] at hl
    have hn : x.frames.length = 0 := by simpa using hl.symm
    have hr := h.frames.1.2
    rw [hn] at hr
    obtain ⟨a, cap, hv⟩ : ∃ a cap, L.fv t = .slice a 0 cap := by
      rcases hr with ⟨hv, _⟩ | ⟨g, cap, _, hv, _⟩
      · exact ⟨_, _, hv⟩
      · exact ⟨_, _, hv⟩
    rw [hv] at c
    clear h hl hn hr hv hb hd
    go_enter Try.func10, Try.ntmps10
    go_wp2
    go_ret
    exact ⟨by rw [HE.out]; rfl, 0, rfl⟩
  | cons b bs =>
    have HE := Lib.hid (show topPtr L t = .pointer (some ⟨b, 0, none⟩) by simp [topPtr, hb])
    obtain ⟨g, cap, f, fs, hf, hv, hc, h1, h2, _⟩ := thr_frames h hb
    have hn : fs.length ≤ 5000 := by rw [hf] at hd; simp at hd; omega
    rw [hv] at c
    clear h hf hv hb hd
    unfold maxLen at h2
    generalize fs.length = n at *
    have e0 : ((n : Int) + 1 == 0) = false := by rw [beq_eq_false_iff_ne]; omega
    have w1 : IntKind.i64.wrap ((n : Int) + 1 - 1) = n := by rw [show (n : Int) + 1 - 1 = n by omega]; exact IntWalk.i64_in _ (by omega)
    have w0 : (n : Int) < n + 1 := by omega
    have w2 : (n : Int) + 1 - 1 = n := by omega
    go_enter Try.func10, Try.ntmps10
    go_wp2
    go_quiet (fail)
    go_wp2
    go_ret
    exact ⟨by rw [HE.out]; rfl, nq, rfl⟩
end Go.Proofs.Ytjnikgliecgbdaa
