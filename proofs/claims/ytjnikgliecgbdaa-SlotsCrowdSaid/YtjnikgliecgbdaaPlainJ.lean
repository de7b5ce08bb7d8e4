/- The invariant through a swing of Take that comes to pass. -/
import Derived.Test.YtjnikgliecgbdaaPlainI
namespace Go.Proofs.Ytjnikgliecgbdaa
open Go.RowKit

theorem upd_upd {α : Type} (f : Nat → α) (i : Nat) (a b : α) : upd (upd f i a) i b = upd f i b := by
  funext j
  by_cases e : j = i
  · subst e; rw [upd_same, upd_same]
  · rw [upd_ne _ _ _ e, upd_ne _ _ _ e, upd_ne _ _ _ e]

theorem Linked.hd {T : Nat} {words : Nat → Int} {h : Nat} {l : List Nat} (k : Linked T words h l) : h = l.headD 0 := by
  cases l with
  | nil => exact k
  | cons s l => exact k.1

theorem head_val {n : Nat} {c : Int} (hn : n ≤ 250) (h0 : 0 ≤ c) (h1 : c ≤ 2000000) : Bt.head (IntKind.i64.wrap (n : Int)) (c + 1) = (n : Int) + 4096 * (c + 1) := by
  rw [IntWalk.i64_in _ (by omega)]
  unfold Bt.head Bt.p52
  rw [if_neg (by omega)]
  omega

theorem chg_val {n : Nat} {c : Int} (hn : n ≤ 250) (h0 : 0 ≤ c) (h1 : c ≤ 2000000) : Bt.chg ((n : Int) + 4096 * c) = c := by
  unfold Bt.chg Bt.p52
  omega

theorem take2_eq {S : MS} {t : Nat} {f : FS} (hf : (S.th t).frames = [f]) (h1 : f.fn = 1) (hp : f.pc = 2) (hyes : S.casOk 2 (f.r 1) = true) (hok : S.takeOk (Bt.slot (f.r 1)) = true) :
    S.slotsStep t = { S with words := upd S.words 2 (Bt.head (IntKind.i64.wrap (f.r 2)) (Bt.chg (f.r 1) + 1)), acc := wrap64 (S.acc + 1), mfault := S.mfault || !S.okAt 2, held := upd S.held (sl (f.r 1)) true, cnt := S.cnt + 1, th := upd S.th t { S.th t with frames := [{ f with pc := 3 }] }, steps := wrap64 (S.steps + 1), fault := S.fault || decide (1 < wrap64 (wrap64 (S.acc + 1) - S.acc)) } := by
  have e : S.slotsStep t = S.stepped ((((S.top t { f with pc := 0 }).cas 2 (f.r 1) (Bt.head (IntKind.i64.wrap (f.r 2)) (Bt.chg (f.r 1) + 1))).take (Bt.slot (f.r 1))).top t { f with pc := 3 }) := by
    simp [MS.slotsStep, hf, MS.slotsBit, h1, MS.takeBit, hp, hyes]
  rw [e]
  have c1 : (S.top t { f with pc := 0 }).casOk 2 (f.r 1) = true := hyes
  have c2 : ((S.top t { f with pc := 0 }).cas 2 (f.r 1) (Bt.head (IntKind.i64.wrap (f.r 2)) (Bt.chg (f.r 1) + 1))).takeOk (Bt.slot (f.r 1)) = true := hok
  unfold MS.stepped MS.take
  rw [if_pos c2, if_pos c2, if_pos c2]
  unfold MS.cas
  rw [if_pos c1]
  unfold MS.top
  dsimp only [MS.at1]
  rw [upd_upd, upd_same, hf]
  rfl

theorem InvL.heldNot {b : Int} {S : MS} {L : List Nat} {had : Nat → List Int} (h : InvL b S L had) {s : Nat} (hs : s ∈ L) : S.held s = false := by
  cases hq : S.held s with
  | false => rfl
  | true =>
    rcases (h.held s).1 hq with h1 | ⟨u, hu, h1⟩
    · have := h.mem hs
      omega
    · exact absurd (ownH_M (show s ∈ ownH had S u from List.mem_append.2 h1)) (h.free hu hs)

theorem leads_more {S S' : MS} {e : Int} (hN : S'.N = S.N) (hg : S'.gens = S.gens) (hh : ∀ s, S.held s = true → S'.held s = true) (h : S.leads e = true) : S'.leads e = true := by
  unfold MS.leads at *
  rw [there_same hN, edge_same hN hg]
  simp only [Bool.and_eq_true] at *
  exact ⟨⟨h.1.1, hh _ h.1.2⟩, h.2⟩

/-- A routine of another thread, when the head goes on. -/
theorem FOk.head {S S' : MS} {c c' : Int} {f : FS} (h : FOk S c f) (hT : S'.T = S.T) (hN : S'.N = S.N) (hw : ∀ a, a ≠ 2 → S'.words a = S.words a) (hg : S'.gens = S.gens) (hh : ∀ s, S.held s = true → S'.held s = true)
    (hc : c' = c + 1) (h2 : Bt.chg (S.words 2) = c) (h3 : Bt.chg (S'.words 2) = c + 1) : FOk S' c' f := by
  refine ⟨h.kind, h.pc, fun hq => ?_, fun q1 q2 => ?_, fun q1 q2 => leads_more hN hg hh (h.give0 q1 q2), fun q1 q2 => ?_⟩
  · have := h.old hq
    refine ⟨this.1, by omega, .inr (by omega), by rw [hN]; exact this.2.2.2⟩
  · have := h.take2 q1 q2
    have ho := h.old (.inr q2)
    refine ⟨this.1, by rw [hN]; exact this.2.1, fun hq => ?_⟩
    rw [hq] at h3
    omega
  · rw [hT, hw _ (node_two _)]
    exact h.give2 q1 q2

theorem step_take2 {b : Int} {S : MS} {L : List Nat} {had : Nat → List Int} (h : InvL b S L had) (hb : b ≤ 1000000) {t : Nat} (ht : t < S.T) {f : FS} (hf : (S.th t).frames = [f]) (h1 : f.fn = 1) (hp : f.pc = 2) (hyes : S.casOk 2 (f.r 1) = true) :
    InvL (b + 1) (S.slotsStep t) L.tail had := by
  obtain ⟨c, c0, cb, hw2, hfs⟩ := h.head
  have hF := hfs t ht f (by rw [hf]; simp)
  have hd := h.hd
  have hw1 := wrap_one h.acc.1 h.acc.2 hb
  have hok2 := okAt_two h.fit
  have er : S.words 2 = f.r 1 := by
    rw [casOk_two h.fit] at hyes
    simpa using hyes
  have ht2 := hF.take2 h1 hp
  have hr2 := ht2.2.2 er
  have esl : sl (f.r 1) = L.headD 0 := by
    rw [← er, hw2]
    unfold sl Bt.slot
    omega
  have echg : Bt.chg (f.r 1) = c := by
    rw [← er, hw2]
    exact chg_val hd c0 (by omega)
  cases L with
  | nil =>
    simp at esl
    omega
  | cons hh L' =>
    simp only [List.headD_cons] at *
    obtain ⟨_, _, n, hn, hl⟩ := h.links
    have en := hl.hd
    have hn250 : n ≤ 250 := by
      rw [en]
      cases L' with
      | nil => simp
      | cons s l => have := h.mem (s := s) (by simp); have := h.fit.N250; simp; omega
    have hrn : f.r 2 = (n : Int) := by rw [hr2, esl, hn]
    have hm := h.mem (s := hh) (by simp)
    have hnot := h.heldNot (s := hh) (by simp)
    have hfree := h.free ht (s := hh) (by simp)
    have hsl : Bt.slot (f.r 1) = (hh : Int) := by rw [sl_cast, esl]
    have hok : S.takeOk (Bt.slot (f.r 1)) = true := by
      unfold MS.takeOk MS.there
      rw [hsl]
      simp [hnot]
      omega
    rw [take2_eq hf h1 hp hyes hok, esl, hrn, echg, head_val hn250 c0 (by omega)]
    have hmine : ownM had S t = (had t).map sl := by simp [ownM, TS.mine, hf, FS.mine, h1, hp]
    have hholds : ownH had S t = (had t).map sl := by simp [ownH, hf, FS.holds, h1, hp]
    refine h.go ht (x := { S.th t with frames := [{ f with pc := 3 }] }) rfl rfl rfl rfl (fun _ _ => rfl) ?_ ?_ ?_ ?_ ?_ ?_ ?_ ?_ ?_ h.slips ?_ ?_ ?_
    · intro c1 _ _ hc1
      have : c1 = c := by rw [hw2] at hc1; simp at hc1; omega
      subst this
      refine ⟨c1 + 1, by omega, by omega, ?_, ?_, ?_⟩
      · show upd S.words 2 _ 2 = _
        rw [upd_same, en]
        rfl
      · intro g hg
        simp only [List.mem_singleton] at hg
        subst hg
        exact ⟨.inl h1, .inr (.inr (.inr rfl)), fun q => absurd q (by show ¬ ((3 : Int) = 1 ∨ (3 : Int) = 2); decide), fun _ q => absurd q (by show ¬ ((3 : Int) = 2); decide), fun q => absurd q (by rw [h1]; decide), fun q => absurd q (by rw [h1]; decide)⟩
      · intro u hu hn f' hf' hF'
        refine hF'.head (c' := c1 + 1) rfl rfl (fun a ha => upd_ne _ _ _ ha) rfl (fun s hs => ?_) rfl ?_ ?_
        · show upd S.held hh true s = true
          by_cases e : s = hh
          · subst e; exact upd_same _ _ _
          · rw [upd_ne _ _ _ e]; exact hs
        · rw [er]; exact echg
        · show Bt.chg (upd S.words 2 _ 2) = _
          rw [upd_same]
          exact chg_val hn250 (by omega) (by omega)
    · show Linked S.T (upd S.words 2 _) (L'.headD 0) L'
      rw [← en]
      exact hl.congr fun s _ => upd_ne _ _ _ (node_two _)
    · intro s q1 q2
      show upd S.words 2 _ _ = _ ∧ _
      rw [upd_ne _ _ _ (node_two _)]
      have := h.genw s q1 q2
      exact ⟨this.1, this.2.1, Int.le_trans this.2.2 (by omega)⟩
    · intro a ha
      show 0 ≤ upd S.words 2 _ a
      by_cases e : a = 2
      · subst e; rw [upd_same]; omega
      · rw [upd_ne _ _ _ e]; exact h.nonneg a ha
    · simp
    · rw [hmine]
      have : TS.mine { S.th t with frames := [{ f with pc := 3 }] } = [hh] := by simp [TS.mine, FS.mine, h1, esl]
      rw [this]
      show (L' ++ ((had t).map sl ++ [hh])).Perm (hh :: (L' ++ (had t).map sl))
      rw [← List.append_assoc]
      exact List.perm_append_singleton hh _
    · intro u hu e he
      have := h.leads u hu e he
      refine ⟨leads_more (S := S) rfl rfl (fun s hs => ?_) this.1, ?_⟩
      · show upd S.held hh true s = true
        by_cases q : s = hh
        · subst q; exact upd_same _ _ _
        · rw [upd_ne _ _ _ q]; exact hs
      · exact this.2.trans (congrFun (edge_same (S := S) rfl rfl) _).symm
    · intro s
      rw [hholds]
      have e2 : List.flatMap FS.holds (TS.frames { S.th t with frames := [{ f with pc := 3 }] }) = [hh] := by simp [FS.holds, h1, esl]
      rw [e2]
      show upd S.held hh true s = true ↔ _
      by_cases e : s = hh
      · subst e
        rw [upd_same]
        simp
      · rw [upd_ne _ _ _ e]
        constructor
        · intro hs
          by_cases q : s ∈ (had t).map sl
          · exact .inr (List.mem_append_left _ q)
          · exact .inl ⟨hs, q⟩
        · rintro (q | q)
          · exact q.1
          · have q : s ∈ (had t).map sl := by
              rcases List.mem_append.1 q with q | q
              · exact q
              · exact absurd (List.mem_singleton.1 q) e
            exact (h.held s).2 (.inr ⟨t, ht, .inl q⟩)
    · rw [hholds]
      have e2 : List.flatMap FS.holds (TS.frames { S.th t with frames := [{ f with pc := 3 }] }) = [hh] := by simp [FS.holds, h1, esl]
      rw [e2]
      show S.cnt + 1 + _ = S.cnt + _
      simp
      omega
    · show (S.mfault || !S.okAt 2) = false
      rw [h.mfault, hok2]
      rfl
    · show (S.fault || decide (1 < wrap64 (wrap64 (S.acc + 1) - S.acc))) = false
      rw [h.fault, hw1.1, hw1.2]
      rfl
    · show 0 ≤ wrap64 (S.acc + 1) ∧ wrap64 (S.acc + 1) ≤ b + 1
      rw [hw1.1]
      have := h.acc
      omega
end Go.Proofs.Ytjnikgliecgbdaa
