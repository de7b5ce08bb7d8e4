/- Contracts of the law's own functions: whether each slot is held or free. -/
import Derived.Test.YtjnikgliecgbdaaLawD
namespace Go.Proofs.Ytjnikgliecgbdaa
open Go.RowKit

theorem conf_field1 (T N st : Int) (w : World) : (Instr.field 24 (.agg #[.int .i64 T, .int .i64 N, .int .u64 st]) 1).run Try.prog w = .ok (.int .i64 N) w := by kernel_rfl

set_option maxRecDepth 100000 in
set_option maxHeartbeats 2000000 in
theorem law_Whole {L : Lay} {S : MS} {w : World} (h : Rep L S w) (hwd : ∀ a, a < S.nw → 0 ≤ S.words a) (hlen : S.chain.1.length ≤ 5000) (hcn : S.cnt ≤ 5000) (hok : S.chain.2 = true)
    (hl : ∀ s, s ∈ S.chain.1 → S.leads (S.edge (s : Int)) = false) (hnd : ∀ (i k x : Nat), k < i → S.chain.1[i]? = some x → S.chain.1[k]? ≠ some x) (hsum : S.chain.1.length + S.cnt = S.N) :
    Calls Try.prog 20 #[.pointer (some ⟨L.s.m, 0, none⟩)] w fun e w' => e = .returned (.bool true) ∧ Below w.heap.size w w' := by
  have HC := Lib.hid (law_Chain h hwd hlen hok hl hnd)
  have H := Lib.hid h
  have hN := h.N250
  generalize S.chain.1 = l at HC hsum hlen
  have hsI : (l.length : Int) + S.cnt = S.N := by omega
  have hw : IntKind.i64.wrap ((l.length : Int) + S.cnt) = S.N := by rw [hsI]; exact IntWalk.i64_in _ (by omega)
  clear h hwd hok hl hnd
  have hfd := conf_field1
  go_enter Try.func20, Try.ntmps20
  go_wp2_with fail
  refine HC.out.mono ?_
  rintro e w1 ⟨a, k, rfl, hb1⟩
  have H1 := Lib.hid (H.out.thru hb1)
  have HB1 := Lib.hid hb1
  clear hb1
  dsimp only
  go_wp2_with (first | (go_at_call 15; refine (core_Guard H1.out).mono ?_; rintro e w' ⟨rfl, rfl⟩) | (go_at_call 46; refine (guard_Held H1.out).mono ?_; rintro e w' ⟨rfl, rfl⟩) | (go_at_call 30; refine (core_Plan H1.out).mono ?_; rintro e w' ⟨rfl, rfl⟩) | (go_at_call 31; refine (plan_Conf H1.out).mono ?_; rintro e w2 ⟨rfl, hb2⟩; have HB2 := Lib.hid hb2; clear hb2))
  go_ret
  exact ⟨rfl, HB1.out.trans (below_le HB2.out HB1.out.size)⟩
end Go.Proofs.Ytjnikgliecgbdaa
