/- The invariant through Give's later bits. -/
import Derived.Test.YtjnikgliecgbdaaPlainL
namespace Go.Proofs.Ytjnikgliecgbdaa
open Go.RowKit

theorem step_give3 {b : Int} {S : MS} {L : List Nat} {had : Nat → List Int} (h : InvL b S L had) (hb : b ≤ 1000000) {t : Nat} (ht : t < S.T) {f : FS} (hf : (S.th t).frames = [f]) (h1 : f.fn = 2) (hp : f.pc = 3) : InvL (b + 1) (S.slotsStep t) L had := by
  have he : S.slotsStep t = S.stepped ((S.at1 2).top t { f with r := upd f.r 1 (S.load 2), pc := 1 }) := by
    simp [MS.slotsStep, hf, MS.slotsBit, h1, MS.giveBit, hp]
  rw [he]
  have hw := wrap_one h.acc.1 h.acc.2 hb
  have hok := okAt_two h.fit
  refine h.turn ht (x := { S.th t with frames := [{ f with r := upd f.r 1 (S.load 2), pc := 1 }] }) rfl rfl rfl rfl rfl rfl rfl ?_ ?_ ?_ ?_ ?_ ?_ ?_ ?_ ?_
  · exact h.slips
  · show (S.mfault || !S.okAt 2) = false
    rw [h.mfault, hok]
    rfl
  · show (S.fault || decide (1 < wrap64 (wrap64 (S.acc + 1) - S.acc))) = false
    rw [h.fault, hw.1, hw.2]
    rfl
  · show 0 ≤ wrap64 (S.acc + 1) ∧ wrap64 (S.acc + 1) ≤ b + 1
    rw [hw.1]
    have := h.acc
    omega
  · show upd S.th t { S.th t with frames := _ :: (S.th t).frames.tail } = _
    rw [hf]
    rfl
  · simp
  · simp [TS.mine, hf, FS.mine, h1, upd]
  · simp [hf, FS.holds, h1, hp]
  · intro c hw2 c0 cb g hg
    simp only [List.mem_singleton] at hg
    subst hg
    refine ⟨.inr h1, .inr (.inl rfl), fun _ => ?_, fun h2 => absurd h2 (by rw [h1]; decide), fun _ h2 => absurd h2 (by show ¬ ((1 : Int) = 0); decide), fun _ h2 => absurd h2 (by show ¬ ((1 : Int) = 2); decide)⟩
    show 0 ≤ upd f.r 1 (S.load 2) 1 ∧ Bt.chg (upd f.r 1 (S.load 2) 1) ≤ c ∧ (upd f.r 1 (S.load 2) 1 = S.words 2 ∨ _) ∧ sl (upd f.r 1 (S.load 2) 1) ≤ S.N
    rw [upd_same, load_two h.fit]
    have hd := h.hd
    refine ⟨by rw [hw2]; omega, ?_, .inl rfl, h.hdN⟩
    rw [hw2]
    unfold Bt.chg Bt.p52
    omega

theorem step_give2n {b : Int} {S : MS} {L : List Nat} {had : Nat → List Int} (h : InvL b S L had) (hb : b ≤ 1000000) {t : Nat} (ht : t < S.T) {f : FS} (hf : (S.th t).frames = [f]) (h1 : f.fn = 2) (hp : f.pc = 2) (hno : S.casOk 2 (f.r 1) = false) : InvL (b + 1) (S.slotsStep t) L had := by
  have he : S.slotsStep t = S.stepped ((S.top t { f with pc := 3 }).cas 2 (f.r 1) (Bt.head (Bt.slot (f.r 0)) (Bt.chg (f.r 1) + 1))) := by
    simp [MS.slotsStep, hf, MS.slotsBit, h1, MS.giveBit, hp, hno]
  rw [he]
  have hw := wrap_one h.acc.1 h.acc.2 hb
  have hok := okAt_two h.fit
  refine h.turn ht (x := { S.th t with frames := [{ f with pc := 3 }] }) rfl rfl rfl ?_ rfl rfl rfl ?_ ?_ ?_ ?_ ?_ ?_ ?_ ?_ ?_
  · show (if S.casOk 2 (f.r 1) = true then _ else S.words) = S.words
    rw [if_neg (by rw [hno]; decide)]
  · exact h.slips
  · show (S.mfault || !S.okAt 2) = false
    rw [h.mfault, hok]
    rfl
  · show (S.fault || decide (1 < wrap64 (wrap64 (S.acc + 1) - S.acc))) = false
    rw [h.fault, hw.1, hw.2]
    rfl
  · show 0 ≤ wrap64 (S.acc + 1) ∧ wrap64 (S.acc + 1) ≤ b + 1
    rw [hw.1]
    have := h.acc
    omega
  · show upd S.th t { S.th t with frames := _ :: (S.th t).frames.tail } = _
    rw [hf]
    rfl
  · simp
  · simp [TS.mine, hf, FS.mine, h1]
  · simp [hf, FS.holds, h1, hp]
  · intro c _ _ _ g hg
    simp only [List.mem_singleton] at hg
    subst hg
    exact ⟨.inr h1, .inr (.inr (.inr rfl)), fun q => absurd q (by show ¬ ((3 : Int) = 1 ∨ (3 : Int) = 2); decide), fun h2 => absurd h2 (by rw [h1]; decide), fun _ h2 => absurd h2 (by show ¬ ((3 : Int) = 0); decide), fun _ h2 => absurd h2 (by show ¬ ((3 : Int) = 2); decide)⟩

theorem give1_eq {S : MS} {t : Nat} {f : FS} (hf : (S.th t).frames = [f]) (h1 : f.fn = 2) (hp : f.pc = 1) (hok : S.okAt (S.nodeAt (Bt.slot (f.r 0)) 0) = true) :
    S.slotsStep t = { S with words := upd S.words (S.nodeAt (Bt.slot (f.r 0)) 0).toNat (IntKind.u64.wrap (Bt.slot (f.r 1))), acc := wrap64 (S.acc + 1), mfault := S.mfault || !S.okAt (S.nodeAt (Bt.slot (f.r 0)) 0), th := upd S.th t { S.th t with frames := [{ f with pc := 2 }] }, steps := wrap64 (S.steps + 1), fault := S.fault || decide (1 < wrap64 (wrap64 (S.acc + 1) - S.acc)) } := by
  have e : S.slotsStep t = S.stepped ((S.store (S.nodeAt (Bt.slot (f.r 0)) 0) (IntKind.u64.wrap (Bt.slot (f.r 1)))).top t { f with pc := 2 }) := by
    simp [MS.slotsStep, hf, MS.slotsBit, h1, MS.giveBit, hp]
  rw [e]
  unfold MS.stepped MS.store
  rw [if_pos hok]
  unfold MS.top
  dsimp only [MS.at1]
  rw [hf]
  rfl

theorem step_give1 {b : Int} {S : MS} {L : List Nat} {had : Nat → List Int} (h : InvL b S L had) (hb : b ≤ 1000000) {t : Nat} (ht : t < S.T) {f : FS} (hf : (S.th t).frames = [f]) (h1 : f.fn = 2) (hp : f.pc = 1) : InvL (b + 1) (S.slotsStep t) L had := by
  obtain ⟨c, c0, cb, hw2, hfs⟩ := h.head
  have hF := hfs t ht f (by rw [hf]; simp)
  have hold := hF.old (.inl hp)
  have hN250 := h.fit.N250
  have hin := h.ownIn ht (mine_give (had := had) (show f ∈ (S.th t).frames by rw [hf]; simp) h1)
  have hw1 := wrap_one h.acc.1 h.acc.2 hb
  have hnode : S.nodeAt (Bt.slot (f.r 0)) 0 = ((nodeN S.T (sl (f.r 0)) 0 : Nat) : Int) := by
    rw [sl_cast]
    exact nodeAt_eq S (f := 0) (by omega) hin.2 (by omega)
  have hok : S.okAt (S.nodeAt (Bt.slot (f.r 0)) 0) = true := by rw [hnode]; exact okAt_node h.fit (by omega) hin.2 (by omega)
  have hv : IntKind.u64.wrap (Bt.slot (f.r 1)) = Bt.slot (f.r 1) := by
    rw [Bt.wrap_u64, sl_cast]
    omega
  rw [give1_eq hf h1 hp hok, hv, hnode, Int.toNat_natCast]
  obtain ⟨s, hs⟩ : ∃ s, s = sl (f.r 0) := ⟨_, rfl⟩
  rw [← hs] at hin ⊢
  have hmine0 : (S.th t).mine = [s] := by simp [TS.mine, hf, FS.mine, h1, hs]
  have hmine : ownM had S t = (had t).map sl ++ [s] := by unfold ownM; rw [hmine0]
  have hholds : ownH had S t = (had t).map sl := by simp [ownH, hf, FS.holds, h1, hp]
  have hsM : s ∈ ownM had S t := by rw [hmine]; simp
  have hsL : s ∉ L := fun q => h.free ht q hsM
  have eM : TS.mine { S.th t with frames := [{ f with pc := 2 }] } = [s] := by simp [TS.mine, FS.mine, h1, hs]
  have eH : List.flatMap FS.holds (TS.frames { S.th t with frames := [{ f with pc := 2 }] }) = [] := by simp [FS.holds, h1]
  have w2 : upd S.words (nodeN S.T s 0) (Bt.slot (f.r 1)) 2 = S.words 2 := upd_ne _ _ _ (Ne.symm (node_two _))
  refine h.go ht (x := { S.th t with frames := [{ f with pc := 2 }] }) rfl rfl rfl rfl (fun _ _ => rfl) ?_ ?_ ?_ ?_ ?_ ?_ ?_ ?_ ?_ h.slips ?_ ?_ ?_
  · intro c1 d0 db hd2
    have hcc : c1 = c := by omega
    refine ⟨c1, d0, by omega, ?_, ?_, ?_⟩
    · show upd S.words _ _ 2 = _
      rw [w2]
      exact hd2
    · intro g hg
      simp only [List.mem_singleton] at hg
      subst hg
      refine ⟨.inr h1, .inr (.inr (.inl rfl)), fun _ => ?_, fun q => absurd q (by rw [h1]; decide), fun _ q => absurd q (by show ¬ ((2 : Int) = 0); decide), fun _ _ => ?_⟩
      · show 0 ≤ f.r 1 ∧ Bt.chg (f.r 1) ≤ c1 ∧ (f.r 1 = upd S.words (nodeN S.T s 0) (Bt.slot (f.r 1)) 2 ∨ Bt.chg (f.r 1) < c1) ∧ sl (f.r 1) ≤ S.N
        rw [w2, hcc]
        exact hold
      · show upd S.words (nodeN S.T s 0) (Bt.slot (f.r 1)) (nodeN S.T (sl (f.r 0)) 0) = Bt.slot (f.r 1)
        rw [← hs, upd_same]
    · intro u hu hn g hg hG
      refine ⟨hG.kind, hG.pc, ?_, ?_, ?_, ?_⟩
      · show _ → _ ∧ _ ∧ (_ = upd S.words (nodeN S.T s 0) (Bt.slot (f.r 1)) 2 ∨ _) ∧ _
        rw [w2]
        exact hG.old
      · intro q1 q2
        have := hG.take2 q1 q2
        refine ⟨this.1, this.2.1, ?_⟩
        show upd S.words (nodeN S.T s 0) (Bt.slot (f.r 1)) 2 = g.r 1 → g.r 2 = upd S.words (nodeN S.T s 0) (Bt.slot (f.r 1)) (nodeN S.T (sl (g.r 1)) 0)
        rw [w2]
        intro q3
        rw [upd_ne _ _ _ (fun q => ?_)]
        · exact this.2.2 q3
        · have e := (node_inj (by omega) (by omega) (by omega) (by omega) q).1
          have hh : sl (g.r 1) = L.headD 0 := by
            rw [← q3, hd2]
            have := h.hd
            unfold sl Bt.slot
            omega
          cases hL : L with
          | nil =>
            rw [hL] at hh
            simp at hh
            omega
          | cons a l =>
            rw [hL] at hh
            simp at hh
            exact hsL (by rw [hL, ← e, hh]; simp)
      · intro q1 q2
        exact (congrFun (leads_same (S := S) rfl rfl rfl) _).trans (hG.give0 q1 q2)
      · intro q1 q2
        have hm2 := mine_give (had := had) hg q1
        have hin2 := h.ownIn hu hm2
        show upd S.words (nodeN S.T s 0) (Bt.slot (f.r 1)) (nodeN S.T (sl (g.r 0)) 0) = _
        rw [upd_ne _ _ _ (fun q => ?_)]
        · exact hG.give2 q1 q2
        · have e := (node_inj (by omega) (by omega) (by omega) (by omega) q).1
          rw [e] at hm2
          exact h.apart ht hu hn hsM hm2
  · show Linked S.T (upd S.words (nodeN S.T s 0) (Bt.slot (f.r 1))) (L.headD 0) L
    exact h.links.congr fun a ha => upd_ne _ _ _ (fun q => hsL ((node_inj (by have := h.mem ha; omega) (by omega) (by omega) (by omega) q).1 ▸ ha))
  · intro a q1 q2
    show upd S.words (nodeN S.T s 0) (Bt.slot (f.r 1)) (nodeN S.T a 1) = _ ∧ _
    rw [upd_ne _ _ _ (fun q => absurd (node_inj (by omega) (by omega) (by omega) (by omega) q).2 (by omega))]
    have := h.genw a q1 q2
    exact ⟨this.1, this.2.1, Int.le_trans this.2.2 (by omega)⟩
  · intro a ha
    show 0 ≤ upd S.words (nodeN S.T s 0) (Bt.slot (f.r 1)) a
    by_cases e : a = nodeN S.T s 0
    · rw [e, upd_same, sl_cast]; omega
    · rw [upd_ne _ _ _ e]; exact h.nonneg a ha
  · simp
  · rw [hmine, eM]
  · intro u hu e he
    have k := h.leads u hu e he
    refine ⟨(congrFun (leads_same (S := S) rfl rfl rfl) _).trans k.1, ?_⟩
    exact k.2.trans (congrFun (edge_same (S := S) rfl rfl) _).symm
  · intro a
    rw [hholds, eH, List.append_nil]
    show S.held a = true ↔ _
    constructor
    · intro hq
      by_cases q : a ∈ (had t).map sl
      · exact .inr q
      · exact .inl ⟨hq, q⟩
    · rintro (q | q)
      · exact q.1
      · exact (h.held a).2 (.inr ⟨t, ht, .inl q⟩)
  · rw [hholds, eH, List.append_nil]
  · show (S.mfault || !S.okAt _) = false
    rw [hs, ← hnode, h.mfault, hok]
    rfl
  · show (S.fault || decide (1 < wrap64 (wrap64 (S.acc + 1) - S.acc))) = false
    rw [h.fault, hw1.1, hw1.2]
    rfl
  · show 0 ≤ wrap64 (S.acc + 1) ∧ wrap64 (S.acc + 1) ≤ b + 1
    rw [hw1.1]
    have := h.acc
    omega

theorem give2_eq {S : MS} {t : Nat} {f : FS} (hf : (S.th t).frames = [f]) (h1 : f.fn = 2) (hp : f.pc = 2) (hyes : S.casOk 2 (f.r 1) = true) :
    S.slotsStep t = { S with words := upd S.words 2 (Bt.head (Bt.slot (f.r 0)) (Bt.chg (f.r 1) + 1)), acc := wrap64 (S.acc + 1), mfault := S.mfault || !S.okAt 2, th := upd S.th t { S.th t with frames := [], ret := regs [] }, steps := wrap64 (S.steps + 1), fault := S.fault || decide (1 < wrap64 (wrap64 (S.acc + 1) - S.acc)) } := by
  have e : S.slotsStep t = S.stepped (((S.top t { f with pc := 3 }).cas 2 (f.r 1) (Bt.head (Bt.slot (f.r 0)) (Bt.chg (f.r 1) + 1))).back t []) := by
    simp [MS.slotsStep, hf, MS.slotsBit, h1, MS.giveBit, hp, hyes]
  rw [e]
  have c1 : (S.top t { f with pc := 3 }).casOk 2 (f.r 1) = true := hyes
  unfold MS.stepped MS.cas
  rw [if_pos c1]
  unfold MS.back MS.top
  dsimp only [MS.at1]
  rw [upd_upd, upd_same, hf]
  rfl

theorem step_give2 {b : Int} {S : MS} {L : List Nat} {had : Nat → List Int} (h : InvL b S L had) (hb : b ≤ 1000000) {t : Nat} (ht : t < S.T) {f : FS} (hf : (S.th t).frames = [f]) (h1 : f.fn = 2) (hp : f.pc = 2) (hyes : S.casOk 2 (f.r 1) = true) :
    InvL (b + 1) (S.slotsStep t) (sl (f.r 0) :: L) had := by
  obtain ⟨c, c0, cb, hw2, hfs⟩ := h.head
  have hF := hfs t ht f (by rw [hf]; simp)
  have hd := h.hd
  have hN250 := h.fit.N250
  have hin := h.ownIn ht (mine_give (had := had) (show f ∈ (S.th t).frames by rw [hf]; simp) h1)
  have hw1 := wrap_one h.acc.1 h.acc.2 hb
  have hok2 := okAt_two h.fit
  have er : S.words 2 = f.r 1 := by
    rw [casOk_two h.fit] at hyes
    simpa using hyes
  have esl : Bt.slot (f.r 1) = ((L.headD 0 : Nat) : Int) := by
    rw [← er, hw2]
    unfold Bt.slot
    omega
  have echg : Bt.chg (f.r 1) = c := by
    rw [← er, hw2]
    exact chg_val hd c0 (by omega)
  have hlink := hF.give2 h1 hp
  rw [esl] at hlink
  have hv : Bt.head (Bt.slot (f.r 0)) (Bt.chg (f.r 1) + 1) = ((sl (f.r 0) : Nat) : Int) + 4096 * (c + 1) := by
    rw [sl_cast, echg]
    have := head_val (n := sl (f.r 0)) (c := c) (by omega) c0 (by omega)
    rw [IntWalk.i64_in _ (by omega)] at this
    exact this
  rw [give2_eq hf h1 hp hyes, hv]
  obtain ⟨s, hs⟩ : ∃ s, s = sl (f.r 0) := ⟨_, rfl⟩
  rw [← hs] at hin hlink ⊢
  have hmine0 : (S.th t).mine = [s] := by simp [TS.mine, hf, FS.mine, h1, hs]
  have hmine : ownM had S t = (had t).map sl ++ [s] := by unfold ownM; rw [hmine0]
  have hholds : ownH had S t = (had t).map sl := by simp [ownH, hf, FS.holds, h1, hp]
  have eM : TS.mine { S.th t with frames := [], ret := regs [] } = [] := rfl
  have eH : List.flatMap FS.holds (TS.frames { S.th t with frames := [], ret := regs [] }) = [] := rfl
  refine h.go ht (x := { S.th t with frames := [], ret := regs [] }) rfl rfl rfl rfl (fun _ _ => rfl) ?_ ?_ ?_ ?_ ?_ ?_ ?_ ?_ ?_ h.slips ?_ ?_ ?_
  · intro c1 d0 db hd2
    have hcc : c1 = c := by omega
    subst hcc
    refine ⟨c1 + 1, by omega, by omega, ?_, fun g hg => absurd hg (by simp), ?_⟩
    · show upd S.words 2 _ 2 = _
      rw [upd_same]
      rfl
    · intro u hu hn f' hf' hF'
      refine hF'.head (c' := c1 + 1) rfl rfl (fun a ha => upd_ne _ _ _ ha) rfl (fun s hs => hs) rfl ?_ ?_
      · rw [er]; exact echg
      · show Bt.chg (upd S.words 2 _ 2) = _
        rw [upd_same]
        exact chg_val (by omega) (by omega) (by omega)
  · show Linked S.T (upd S.words 2 _) s (s :: L)
    refine ⟨rfl, by omega, L.headD 0, ?_, ?_⟩
    · rw [upd_ne _ _ _ (node_two _)]
      exact hlink
    · exact h.links.congr fun a _ => upd_ne _ _ _ (node_two _)
  · intro a q1 q2
    show upd S.words 2 _ _ = _ ∧ _
    rw [upd_ne _ _ _ (node_two _)]
    have := h.genw a q1 q2
    exact ⟨this.1, this.2.1, Int.le_trans this.2.2 (by omega)⟩
  · intro a ha
    show 0 ≤ upd S.words 2 _ a
    by_cases e : a = 2
    · subst e; rw [upd_same]; omega
    · rw [upd_ne _ _ _ e]; exact h.nonneg a ha
  · simp
  · rw [hmine, eM, List.append_nil, ← List.append_assoc]
    exact (List.perm_append_singleton s (L ++ (had t).map sl)).symm
  · intro u hu e he
    have k := h.leads u hu e he
    refine ⟨(congrFun (leads_same (S := S) rfl rfl rfl) _).trans k.1, ?_⟩
    exact k.2.trans (congrFun (edge_same (S := S) rfl rfl) _).symm
  · intro a
    rw [hholds, eH, List.append_nil]
    show S.held a = true ↔ _
    constructor
    · intro hq
      by_cases q : a ∈ (had t).map sl
      · exact .inr q
      · exact .inl ⟨hq, q⟩
    · rintro (q | q)
      · exact q.1
      · exact (h.held a).2 (.inr ⟨t, ht, .inl q⟩)
  · rw [hholds, eH, List.append_nil]
  · show (S.mfault || !S.okAt 2) = false
    rw [h.mfault, hok2]
    rfl
  · show (S.fault || decide (1 < wrap64 (wrap64 (S.acc + 1) - S.acc))) = false
    rw [h.fault, hw1.1, hw1.2]
    rfl
  · show 0 ≤ wrap64 (S.acc + 1) ∧ wrap64 (S.acc + 1) ≤ b + 1
    rw [hw1.1]
    have := h.acc
    omega
end Go.Proofs.Ytjnikgliecgbdaa
