/- Contracts of package mem, whole: Load, Store, Cas, Accesses, Fault. -/
import Derived.Test.YtjnikgliecgbdaaMem
namespace Go.Proofs.Ytjnikgliecgbdaa
open Go.RowKit

set_option maxHeartbeats 400000 in
theorem mem_turn_out {L : Lay} {S : MS} {w : World} (h : Rep L S w) (a : Int) (v : Value) (hok : S.okAt a = false) :
    Calls Try.prog 72 #[.pointer (some ⟨L.s.me, 0, none⟩), .int .i64 a, v] w fun e w' => Told L (S.at1 a) (.int .u64 0) w e w' := by
  have hmz := h.cme.lt
  have H := Lib.hid h
  have HO := Lib.hid hok
  clear h hok
  go_enter Try.func72, Try.ntmps72
  go_wp2_with fail
  refine (mem_at1 (H.out.alloc _) a w.heap.size (by simp) (by omega)).mono ?_
  rw [HO.out]
  rintro e w' ⟨rfl, hr, hk⟩
  have HR := Lib.hid hr
  have HK := Lib.hid hk
  clear hr hk
  go_wp2
  go_ret
  exact ⟨rfl, HR.out, ((Kept.refl _ _).alloc _).trans HK.out⟩

set_option maxHeartbeats 400000 in
theorem mem_Load {L : Lay} {S : MS} {w : World} (h : Rep L S w) (a : Int) :
    Calls Try.prog 59 #[.pointer (some ⟨L.s.me, 0, none⟩), .int .i64 a] w fun e w' => Told L (S.at1 a) (.int .u64 (S.load a)) w e w' := by
  cases hok : S.okAt a with
  | true =>
    have C := Lib.hid (mem_turn_load h a hok)
    clear h hok
    go_enter Try.func59, Try.ntmps59
    go_wp2_with fail
    refine C.out.mono ?_
    rintro e w' ⟨rfl, hr, hk⟩
    have HR := Lib.hid hr
    have HK := Lib.hid hk
    clear hr hk
    go_wp2
    go_ret
    exact ⟨rfl, HR.out, HK.out⟩
  | false =>
    have C := Lib.hid (mem_turn_out h a (.func (.func 73) #[] #[]) hok)
    have HO := Lib.hid (show S.load a = 0 by simp [MS.load, hok])
    clear h hok
    go_enter Try.func59, Try.ntmps59
    go_wp2_with fail
    refine C.out.mono ?_
    rintro e w' ⟨rfl, hr, hk⟩
    have HR := Lib.hid hr
    have HK := Lib.hid hk
    clear hr hk
    go_wp2
    go_ret
    exact ⟨by rw [HO.out]; rfl, HR.out, HK.out⟩

set_option maxHeartbeats 400000 in
theorem mem_Store {L : Lay} {S : MS} {w : World} (h : Rep L S w) (a v : Int) :
    Calls Try.prog 62 #[.pointer (some ⟨L.s.me, 0, none⟩), .int .i64 a, .int .u64 v] w fun e w' => Told L (S.store a v) (.tuple #[]) w e w' := by
  have hf := h.fresh w.heap.size (Nat.le_refl _)
  cases hok : S.okAt a with
  | true =>
    have C := Lib.hid (mem_turn_store (h.alloc (.cells #[.int .u64 v] 22)) a v w.heap.size (by simp) hf hok)
    clear h hok hf
    go_enter Try.func62, Try.ntmps62
    go_wp2_with fail
    refine C.out.mono ?_
    rintro e w' ⟨rfl, hr, hk⟩
    have HR := Lib.hid hr
    have HK := Lib.hid hk
    clear hr hk
    go_wp2
    go_end0
    exact ⟨rfl, HR.out, ((Kept.refl _ _).alloc _).trans HK.out⟩
  | false =>
    have C := Lib.hid (mem_turn_out (h.alloc (.cells #[.int .u64 v] 22)) a (.func (.func 76) #[] #[.pointer (some ⟨w.heap.size, 0, none⟩)]) hok)
    have HO := Lib.hid (show S.store a v = S.at1 a by simp [MS.store, hok]; rfl)
    clear h hok hf
    go_enter Try.func62, Try.ntmps62
    go_wp2_with fail
    refine C.out.mono ?_
    rintro e w' ⟨rfl, hr, hk⟩
    have HR := Lib.hid hr
    have HK := Lib.hid hk
    clear hr hk
    go_wp2
    go_end0
    exact ⟨rfl, by rw [HO.out]; exact HR.out, ((Kept.refl _ _).alloc _).trans HK.out⟩

set_option maxHeartbeats 400000 in
theorem mem_Cas {L : Lay} {S : MS} {w : World} (h : Rep L S w) (a old next : Int) :
    Calls Try.prog 74 #[.pointer (some ⟨L.s.me, 0, none⟩), .int .i64 a, .int .u64 old, .int .u64 next] w fun e w' => Told L (S.cas a old next) (.bool (S.casOk a old)) w e w' := by
  have hmz := h.cme.lt
  cases hok : S.okAt a with
  | false =>
    have HO := Lib.hid (show S.casOk a old = false by simp [MS.casOk, hok])
    have HS := Lib.hid (show S.cas a old next = S.at1 a by simp [MS.cas, MS.casOk, hok]; rfl)
    have H := Lib.hid h
    have HK' := Lib.hid hok
    clear h hok
    go_enter Try.func74, Try.ntmps74
    go_wp2_with fail
    refine (mem_at1 (H.out.alloc _) a w.heap.size (by simp) (by omega)).mono ?_
    rw [HK'.out]
    rintro e w' ⟨rfl, hr, hk⟩
    have HR := Lib.hid hr
    have HK := Lib.hid hk
    clear hr hk
    go_wp2
    go_ret
    exact ⟨by rw [HO.out]; rfl, by rw [HS.out]; exact HR.out, ((Kept.refl _ _).alloc _).trans HK.out⟩
  | true =>
    have hr := hok
    simp [MS.okAt] at hr
    obtain ⟨h0, h1⟩ := hr
    obtain ⟨k, rfl⟩ := Int.eq_ofNat_of_zero_le h0
    have hk : k < S.nw := by omega
    have hnw := h.nw
    have hT := h.T6
    have hN := h.N250
    have hnw' : S.nw ≤ 5000 := by omega
    have hwz := h.cwb.lt
    have hne : L.s.me ≠ L.s.wb := role_ne h.ome h.owb (by decide)
    have cx := h.cme.cell 0 (by decide)
    have cw := h.cwb.cell k hk
    have fw := h.cwb.frozen k
    simp only [memCell] at cx
    have hc : S.casOk k old = (S.words k == old) := by simp [MS.casOk, hok]
    have H := Lib.hid h
    have HO := Lib.hid hok
    clear h hok hnw hT hN
    cases hb : (S.words k == old) with
    | true =>
      have HS := Lib.hid (show S.cas k old next = { S.at1 k with words := upd S.words k next } by simp [MS.cas, hc, hb])
      rw [hb] at hc
      have HC := Lib.hid hc
      have hb' : (S.words k != old) = false := by simp [bne, hb]
      clear hc hb
      go_enter Try.func74, Try.ntmps74
      go_wp2_with fail
      refine (mem_at1_yes (H.out.alloc _) (k : Int) w.heap.size (by simp) (by omega) (by omega) (by omega)).mono ?_
      rintro e w' ⟨rfl, rfl⟩
      go_wp2
      go_ret
      refine ⟨by rw [HC.out]; rfl, ?_, ?_⟩
      · rw [HS.out]
        exact (((H.out.at1 HO.out).setWord k next).alloc _)
      · exact (((Kept.at1 H.out _).setCell (by rw [H.out.owb]; simp) _).alloc _)
    | false =>
      have HS := Lib.hid (show S.cas k old next = S.at1 k by simp [MS.cas, hc, hb]; rfl)
      rw [hb] at hc
      have HC := Lib.hid hc
      have hb' : (S.words k != old) = true := by simp [bne, hb]
      clear hc hb
      go_enter Try.func74, Try.ntmps74
      go_wp2_with fail
      refine (mem_at1_yes (H.out.alloc _) (k : Int) w.heap.size (by simp) (by omega) (by omega) (by omega)).mono ?_
      rintro e w' ⟨rfl, rfl⟩
      go_wp2
      go_ret
      refine ⟨by rw [HC.out]; rfl, ?_, ?_⟩
      · rw [HS.out]
        exact ((H.out.at1 HO.out).alloc _)
      · exact (Kept.at1 H.out _).alloc _

theorem mem_Accesses {L : Lay} {S : MS} {w : World} (h : Rep L S w) :
    Calls Try.prog 34 #[.pointer (some ⟨L.s.me, 0, none⟩)] w fun e w' => e = .returned (.int .i64 S.acc) ∧ w = w' := by
  have c1 := h.cme.cell 1 (by decide)
  simp only [memCell] at c1
  clear h
  go_enter Try.func34, Try.ntmps34
  go_wp2
  go_ret
  exact ⟨rfl, rfl⟩

theorem mem_Fault {L : Lay} {S : MS} {w : World} (h : Rep L S w) :
    Calls Try.prog 37 #[.pointer (some ⟨L.s.me, 0, none⟩)] w fun e w' => e = .returned (.bool S.mfault) ∧ w = w' := by
  have c2 := h.cme.cell 2 (by decide)
  simp only [memCell] at c2
  clear h
  go_enter Try.func37, Try.ntmps37
  go_wp2
  go_ret
  exact ⟨rfl, rfl⟩
end Go.Proofs.Ytjnikgliecgbdaa
