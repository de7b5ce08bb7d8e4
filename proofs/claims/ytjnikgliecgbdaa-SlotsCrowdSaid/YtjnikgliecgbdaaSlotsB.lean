/- Contracts of package slots: swing, and the bits of Take. -/
import Derived.Test.YtjnikgliecgbdaaSlots
namespace Go.Proofs.Ytjnikgliecgbdaa
open Go.RowKit

theorem chg_bd (x : Int) : 0 ≤ Bt.chg x ∧ Bt.chg x ≤ 4503599627370495 := by unfold Bt.chg Bt.p52; omega

theorem badge_Changed (x n : Int) (w : World) : Calls Try.prog 75 #[.int .u64 x, .int .i64 n] w fun e w' => e = .returned (.int .u64 (Bt.head n (Bt.chg x + 1))) ∧ w = w' := by
  have hb := chg_bd x
  by_cases h : n < 0 ∨ 4095 < n
  · have HE := Lib.hid (show Bt.head n (Bt.chg x + 1) = 0 + 4096 * ((Bt.chg x + 1) % Bt.p52) by simp [Bt.head, h])
    rw [← Bt.w_12_52 0 (Bt.chg x + 1) (by omega) (by omega)] at HE
    rw [← Bt.f_12_52] at *
    rcases h with h | h
    all_goals
      go_enter Try.func75, Try.ntmps75
      go_wp2
      go_ret
      exact ⟨by rw [HE.out]; rfl, rfl⟩
  · have h0 : 0 ≤ n := by omega
    have h1 : n ≤ 4095 := by omega
    have HE := Lib.hid (show Bt.head n (Bt.chg x + 1) = n + 4096 * ((Bt.chg x + 1) % Bt.p52) by simp [Bt.head, h])
    rw [← Bt.w_12_52 n (Bt.chg x + 1) (by omega) (by omega)] at HE
    rw [← Bt.f_12_52] at *
    clear h
    go_enter Try.func75, Try.ntmps75
    go_wp2
    go_ret
    exact ⟨by rw [HE.out]; rfl, rfl⟩

set_option maxRecDepth 100000 in
set_option maxHeartbeats 800000 in
theorem slots_swing {L : Lay} {S : MS} {w : World} (h : Rep L S w) {t : Nat} (ht : t < S.T) {b : Nat} {bs : List Nat} {f : FS} {fs : List FS} (hb : L.fr t = b :: bs) (hf : (S.th t).frames = f :: fs) (n : Int) :
    Calls Try.prog 61 #[.agg #[.pointer (some ⟨L.s.m, 0, none⟩), .pointer (some ⟨L.s.th t, 0, none⟩), .pointer (some ⟨b, 0, none⟩)], .int .i64 n] w
      fun e w' => Told L (S.cas 2 (f.r 1) (Bt.head n (Bt.chg (f.r 1) + 1))) (.bool (S.casOk 2 (f.r 1))) w e w' := by
  have fc := (h.topCells ht hb hf).1.cell 3 (by decide)
  have hbz := (h.topCells ht hb hf).1.lt
  simp only [frCell] at fc
  have HX := Lib.hid h
  clear h hb hf
  go_enter Try.func61, Try.ntmps61
  go_wp2_with (first
    | (go_at_call 32; refine (core_Mem (HX.out.alloc _)).mono ?_; rintro e w' ⟨rfl, rfl⟩)
    | (go_at_call 75; refine (badge_Changed _ _ _).mono ?_; rintro e w' ⟨rfl, rfl⟩)
    | (go_at_call 74; refine (mem_Cas (HX.out.alloc _) 2 (f.r 1) _).mono ?_; rintro e w2 ⟨rfl, hr, hk⟩; have HR := Lib.hid hr; have HK := Lib.hid hk; clear hr hk))
  go_ret
  exact ⟨rfl, HR.out, ((Kept.refl _ _).alloc _).trans HK.out⟩

theorem thrPtr_at (L : Lay) (S : MS) {t : Nat} (ht : t < S.T) : thrPtr L S t = .pointer (some ⟨L.s.th t, 0, none⟩) := by simp [thrPtr, ht]

/-- A bit of Take. -/
def MS.takeBit (S : MS) (t : Nat) (f : FS) : MS :=
  if f.pc = 0 then (S.at1 2).top t { f with r := upd f.r 1 (S.load 2), pc := 1 }
  else if f.pc = 1 then
    if Bt.slot (f.r 1) = 0 then S.back t [0]
    else (S.at1 (S.nodeAt (Bt.slot (f.r 1)) 0)).top t { f with r := upd f.r 2 (S.load (S.nodeAt (Bt.slot (f.r 1)) 0)), pc := 2 }
  else if f.pc = 2 then
    if S.casOk 2 (f.r 1) = true then (((S.top t { f with pc := 0 }).cas 2 (f.r 1) (Bt.head (IntKind.i64.wrap (f.r 2)) (Bt.chg (f.r 1) + 1))).take (Bt.slot (f.r 1))).top t { f with pc := 3 }
    else (S.top t { f with pc := 0 }).cas 2 (f.r 1) (Bt.head (IntKind.i64.wrap (f.r 2)) (Bt.chg (f.r 1) + 1))
  else (S.at1 (S.nodeAt (Bt.slot (f.r 1)) 1)).back t [Bt.slot (f.r 1) + 4096 * (S.load (S.nodeAt (Bt.slot (f.r 1)) 1) % Bt.p50)]

/-- What a walk of a routine's bit begins with. -/
structure Bit (L : Lay) (S : MS) (w : World) (t b : Nat) (bs : List Nat) (f : FS) (fs : List FS) : Prop where
  rep : Rep L S w
  ht : t < S.T
  hb : L.fr t = b :: bs
  hf : (S.th t).frames = f :: fs
  hd : fs.length ≤ 4000
  hc : S.cnt ≤ 4000

theorem Goes.of_told {L : Lay} {S : MS} {v : Value} {w w' : World} {e : Ending} (h : Told L S v w e w') : Goes L S v w e w' := ⟨L, h.1, h.2.1, Moves.of h.2.2⟩

set_option maxRecDepth 100000 in
set_option maxHeartbeats 800000 in
theorem take_0 {L : Lay} {S : MS} {w : World} {t b : Nat} {bs : List Nat} {f : FS} {fs : List FS} (h : Bit L S w t b bs f fs) (hp : f.pc = 0) :
    Calls Try.prog 35 #[.agg #[.pointer (some ⟨L.s.m, 0, none⟩), .pointer (some ⟨L.s.th t, 0, none⟩), .pointer (some ⟨b, 0, none⟩)]] w fun e w' => Goes L (S.takeBit t f) (.tuple #[]) w e w' := by
  have fc1 := (h.rep.topCells h.ht h.hb h.hf).1.cell 1 (by decide)
  have fc3 := (h.rep.topCells h.ht h.hb h.hf).1.cell 3 (by decide)
  have hbz := (h.rep.topCells h.ht h.hb h.hf).1.lt
  simp only [frCell, hp] at fc1 fc3
  have HE := Lib.hid (show S.takeBit t f = (S.at1 2).top t { f with r := upd f.r 1 (S.load 2), pc := 1 } by simp [MS.takeBit, hp])
  have HX := Lib.hid h
  clear h hp
  go_enter Try.func35, Try.ntmps35
  go_wp2_with (first
    | (go_at_call 56; refine (badge_Slot _ _).mono ?_; rintro e w' ⟨rfl, rfl⟩)
    | (go_at_call 57; refine (slots_head (HX.out.rep.alloc _) HX.out.ht HX.out.hb HX.out.hf 1).mono ?_; rintro e w2 ⟨rfl, hr, hk⟩; have HR := Lib.hid hr; have HK := Lib.hid hk; clear hr hk))
  go_outline
  go_end0
  exact ⟨L, rfl, by rw [HE.out]; exact HR.out, Moves.of (((Kept.refl _ _).alloc _).trans HK.out)⟩
end Go.Proofs.Ytjnikgliecgbdaa
