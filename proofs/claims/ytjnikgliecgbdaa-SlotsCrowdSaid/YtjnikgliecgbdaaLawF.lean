/- A machine's step by slots.Do; a thread that goes on alone; all threads, one behind the other. -/
import Derived.Test.YtjnikgliecgbdaaLawE
namespace Go.Proofs.Ytjnikgliecgbdaa
open Go.RowKit

def MS.slotsStep (S : MS) (t : Nat) : MS := match (S.th t).frames with
  | [] => S
  | f :: _ => S.stepped (S.slotsBit t f)

theorem slots_T (S : MS) (t : Nat) (f : FS) : (S.slotsBit t f).T = S.T := by
  unfold MS.slotsBit MS.takeBit MS.giveBit
  (repeat' split) <;> simp only [MS.at1, MS.top, MS.back, MS.cas, MS.store, MS.take, MS.drop] <;> (repeat' split) <;> rfl

theorem top_len (S : MS) (t : Nat) (g f : FS) (fs : List FS) (h : (S.th t).frames = f :: fs) : ((S.top t g).th t).frames.length = fs.length + 1 := by
  simp [MS.top, upd, h]

theorem slots_len (S : MS) (t : Nat) (f : FS) (fs : List FS) (h : (S.th t).frames = f :: fs) : ((S.slotsBit t f).th t).frames.length ≤ fs.length + 1 := by
  unfold MS.slotsBit MS.takeBit MS.giveBit
  (repeat' split) <;> simp only [MS.at1, MS.top, MS.back, MS.cas, MS.store, MS.take, MS.drop, upd_same, h] <;> (repeat' split) <;> simp [upd_same, h, upd]

theorem call_Do (args : Array Value) (w : World) : (callFunc 13 args).run Try.prog w = .ok (.enter 13 args) w := by kernel_rfl

theorem law_Step {L : Lay} {S : MS} {w : World} (h : Rep L S w) {t : Nat} (ht : t < S.T) {f : FS} {fs : List FS} (hf : (S.th t).frames = f :: fs) (hd : fs.length ≤ 4000) (hc : S.cnt ≤ 4000) :
    Calls Try.prog 12 #[.pointer (some ⟨L.s.m, 0, none⟩), .int .i64 t, .func (.func 13) #[] #[]] w fun e w' => Goes L (S.slotsStep t) (.bool ((S.slotsBit t f).busy t)) w e w' := by
  have hs : S.slotsStep t = S.stepped (S.slotsBit t f) := by simp [MS.slotsStep, hf]
  rw [hs]
  have hlen := (h.cth t ht).frs.length
  rw [hf] at hlen
  obtain ⟨b, bs, hb⟩ : ∃ b bs, L.fr t = b :: bs := by
    cases hq : L.fr t with
    | nil => rw [hq] at hlen; simp at hlen
    | cons b bs => exact ⟨b, bs, rfl⟩
  have hl := slots_len S t f fs hf
  exact core_Step 13 call_Do h ht (by simp [MS.busy, hf]) (by rw [hf]; simp; omega) (slots_T S t f) (by omega) fun n => slots_Do ⟨h.drewN n, ht, hb, hf, hd, hc⟩
end Go.Proofs.Ytjnikgliecgbdaa
