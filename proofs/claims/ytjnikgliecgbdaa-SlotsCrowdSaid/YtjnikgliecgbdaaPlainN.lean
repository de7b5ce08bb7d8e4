/- The invariant through any step; each routine ends, alone. -/
import Derived.Test.YtjnikgliecgbdaaPlainM
namespace Go.Proofs.Ytjnikgliecgbdaa
open Go.RowKit

theorem InvL.mono {b b' : Int} {S : MS} {L : List Nat} {had : Nat → List Int} (h : InvL b S L had) (hb : b ≤ b') : InvL b' S L had := by
  refine ⟨h.fit, ?_, h.links, fun s h1 h2 => ?_, h.nonneg, h.len, h.each, h.leads, h.held, h.cnt, h.slips, h.mfault, h.fault, ⟨h.acc.1, Int.le_trans h.acc.2 hb⟩⟩
  · obtain ⟨c, c0, cb, r⟩ := h.head
    exact ⟨c, c0, Int.le_trans cb hb, r⟩
  · have := h.genw s h1 h2
    exact ⟨this.1, this.2.1, Int.le_trans this.2.2 hb⟩

/-- What the law's caller has behind a step. -/
def hadNext (S : MS) (t : Nat) (f : FS) (had : Nat → List Int) : Nat → List Int := if f.fn = 1 ∧ f.pc = 3 then upd had t (had t ++ [S.edge (Bt.slot (f.r 1))]) else had

theorem InvL.fok {b : Int} {S : MS} {L : List Nat} {had : Nat → List Int} (h : InvL b S L had) {t : Nat} (ht : t < S.T) {f : FS} (hf : (S.th t).frames = [f]) : (f.fn = 1 ∨ f.fn = 2) ∧ (f.pc = 0 ∨ f.pc = 1 ∨ f.pc = 2 ∨ f.pc = 3) := by
  obtain ⟨c, _, _, _, hfs⟩ := h.head
  have := hfs t ht f (by rw [hf]; simp)
  exact ⟨this.kind, this.pc⟩

theorem step_any {b : Int} {S : MS} {L : List Nat} {had : Nat → List Int} (h : InvL b S L had) (hb : b ≤ 1000000) {t : Nat} (ht : t < S.T) {f : FS} (hf : (S.th t).frames = [f]) : ∃ L', InvL (b + 1) (S.slotsStep t) L' (hadNext S t f had) := by
  obtain ⟨hk, hp⟩ := h.fok ht hf
  unfold hadNext
  rcases hk with h1 | h1
  · rcases hp with hp | hp | hp | hp
    · rw [if_neg (by rw [hp]; simp)]
      exact ⟨L, step_take0 h hb ht hf h1 hp⟩
    · rw [if_neg (by rw [hp]; simp)]
      by_cases hz : Bt.slot (f.r 1) = 0
      · exact ⟨L, step_take1z h hb ht hf h1 hp hz⟩
      · exact ⟨L, step_take1 h hb ht hf h1 hp hz⟩
    · rw [if_neg (by rw [hp]; simp)]
      cases hc : S.casOk 2 (f.r 1) with
      | true => exact ⟨L.tail, step_take2 h hb ht hf h1 hp hc⟩
      | false => exact ⟨L, step_take2n h hb ht hf h1 hp hc⟩
    · rw [if_pos ⟨h1, hp⟩]
      exact ⟨L, step_take3 h hb ht hf h1 hp⟩
  · rw [if_neg (by rw [h1]; simp)]
    rcases hp with hp | hp | hp | hp
    · exact ⟨L, step_give0 h hb ht hf h1 hp⟩
    · exact ⟨L, step_give1 h hb ht hf h1 hp⟩
    · cases hc : S.casOk 2 (f.r 1) with
      | true => exact ⟨_, step_give2 h hb ht hf h1 hp hc⟩
      | false => exact ⟨L, step_give2n h hb ht hf h1 hp hc⟩
    · exact ⟨L, step_give3 h hb ht hf h1 hp⟩

/-- How many steps a routine has ahead, alone, at most. -/
def rank (S : MS) (f : FS) : Nat :=
  if f.fn = 1 then (if f.pc = 0 then 4 else if f.pc = 1 then (if S.words 2 = f.r 1 then 3 else 6) else if f.pc = 2 then (if S.words 2 = f.r 1 then 2 else 5) else 1)
  else if f.pc = 0 then 4 else if f.pc = 3 then 3 else if f.pc = 1 then (if S.words 2 = f.r 1 then 2 else 5) else (if S.words 2 = f.r 1 then 1 else 4)

theorem rank_le (S : MS) (f : FS) : rank S f ≤ 6 := by
  unfold rank
  (repeat' split) <;> decide

theorem turn_frames {S : MS} {t : Nat} {g f : FS} (hf : (S.th t).frames = [f]) {S1 : MS} (h1 : S1.th = S.th) : (((S.stepped (S1.top t g)).th t).frames) = [g] := by
  show (upd S1.th t { S1.th t with frames := g :: (S1.th t).frames.tail } t).frames = [g]
  rw [upd_same, h1, hf]
  rfl

theorem rank_step {b : Int} {S : MS} {L : List Nat} {had : Nat → List Int} (h : InvL b S L had) {t : Nat} (ht : t < S.T) {f : FS} (hf : (S.th t).frames = [f]) :
    ((S.slotsStep t).th t).frames = [] ∨ ∃ g, ((S.slotsStep t).th t).frames = [g] ∧ rank (S.slotsStep t) g < rank S f := by
  obtain ⟨hk, hp⟩ := h.fok ht hf
  have l2 := load_two h.fit
  have c2 := casOk_two h.fit (f.r 1)
  rcases hk with h1 | h1
  · rcases hp with hp | hp | hp | hp
    · have he : S.slotsStep t = S.stepped ((S.at1 2).top t { f with r := upd f.r 1 (S.load 2), pc := 1 }) := by
        simp [MS.slotsStep, hf, MS.slotsBit, h1, MS.takeBit, hp]
      refine .inr ⟨{ f with r := upd f.r 1 (S.load 2), pc := 1 }, by rw [he]; exact turn_frames hf rfl, ?_⟩
      have hw : (S.slotsStep t).words = S.words := by rw [he]; rfl
      unfold rank
      rw [hw]
      simp [h1, hp, upd_same, l2]
    · by_cases hz : Bt.slot (f.r 1) = 0
      · have he : S.slotsStep t = S.stepped (S.back t [0]) := by
          simp [MS.slotsStep, hf, MS.slotsBit, h1, MS.takeBit, hp, hz]
        refine .inl ?_
        rw [he]
        show (upd S.th t { S.th t with frames := (S.th t).frames.tail, ret := _ } t).frames = []
        rw [upd_same, hf]
        rfl
      · have he : S.slotsStep t = S.stepped ((S.at1 (S.nodeAt (Bt.slot (f.r 1)) 0)).top t { f with r := upd f.r 2 (S.load (S.nodeAt (Bt.slot (f.r 1)) 0)), pc := 2 }) := by
          simp [MS.slotsStep, hf, MS.slotsBit, h1, MS.takeBit, hp, hz]
        refine .inr ⟨{ f with r := upd f.r 2 (S.load (S.nodeAt (Bt.slot (f.r 1)) 0)), pc := 2 }, by rw [he]; exact turn_frames hf rfl, ?_⟩
        have hw : (S.slotsStep t).words = S.words := by rw [he]; rfl
        have e1 : upd f.r 2 (S.load (S.nodeAt (Bt.slot (f.r 1)) 0)) 1 = f.r 1 := upd_ne _ _ _ (by decide)
        unfold rank
        rw [hw]
        simp only [h1, hp, e1]
        by_cases q : S.words 2 = f.r 1 <;> simp [q]
    · cases hc : S.casOk 2 (f.r 1) with
      | true =>
        have hq : S.words 2 = f.r 1 := by rw [c2] at hc; simpa using hc
        have he : S.slotsStep t = S.stepped ((((S.top t { f with pc := 0 }).cas 2 (f.r 1) (Bt.head (IntKind.i64.wrap (f.r 2)) (Bt.chg (f.r 1) + 1))).take (Bt.slot (f.r 1))).top t { f with pc := 3 }) := by
          simp [MS.slotsStep, hf, MS.slotsBit, h1, MS.takeBit, hp, hc]
        refine .inr ⟨{ f with pc := 3 }, ?_, ?_⟩
        · rw [he]
          show (upd (upd S.th t { S.th t with frames := _ :: (S.th t).frames.tail }) t { (upd S.th t { S.th t with frames := _ :: (S.th t).frames.tail }) t with frames := { f with pc := 3 } :: ((upd S.th t { S.th t with frames := _ :: (S.th t).frames.tail }) t).frames.tail } t).frames = [_]
          rw [upd_same, upd_same, hf]
          rfl
        · unfold rank
          simp [h1, hp, hq]
      | false =>
        have hq : ¬ S.words 2 = f.r 1 := by rw [c2] at hc; simpa using hc
        have he : S.slotsStep t = S.stepped ((S.top t { f with pc := 0 }).cas 2 (f.r 1) (Bt.head (IntKind.i64.wrap (f.r 2)) (Bt.chg (f.r 1) + 1))) := by
          simp [MS.slotsStep, hf, MS.slotsBit, h1, MS.takeBit, hp, hc]
        refine .inr ⟨{ f with pc := 0 }, ?_, ?_⟩
        · rw [he]
          show (upd S.th t { S.th t with frames := _ :: (S.th t).frames.tail } t).frames = [_]
          rw [upd_same, hf]
          rfl
        · unfold rank
          simp [h1, hp, hq]
    · refine .inl ?_
      rw [take3_eq hf h1 hp]
      show (upd S.th t _ t).frames = []
      rw [upd_same]
  · rcases hp with hp | hp | hp | hp
    · have he : S.slotsStep t = S.stepped (((S.store (S.nodeAt (Bt.slot (f.r 0)) 1) (Bt.gen (4096 * (IntKind.u64.wrap (Bt.gen (f.r 0) + 1) % Bt.p50)))).drop (f.r 0)).top t { f with pc := 3 }) := by
        simp [MS.slotsStep, hf, MS.slotsBit, h1, MS.giveBit, hp]
      refine .inr ⟨{ f with pc := 3 }, by rw [he]; exact turn_frames hf rfl, ?_⟩
      unfold rank
      simp [h1, hp]
    · have he : S.slotsStep t = S.stepped ((S.store (S.nodeAt (Bt.slot (f.r 0)) 0) (IntKind.u64.wrap (Bt.slot (f.r 1)))).top t { f with pc := 2 }) := by
        simp [MS.slotsStep, hf, MS.slotsBit, h1, MS.giveBit, hp]
      have hin := h.ownIn ht (mine_give (had := had) (show f ∈ (S.th t).frames by rw [hf]; simp) h1)
      have hnode : S.nodeAt (Bt.slot (f.r 0)) 0 = ((nodeN S.T (sl (f.r 0)) 0 : Nat) : Int) := by
        rw [sl_cast]
        exact nodeAt_eq S (f := 0) (by omega) hin.2 (by omega)
      have hw : (S.slotsStep t).words 2 = S.words 2 := by
        rw [he]
        show (if S.okAt _ = true then upd S.words (S.nodeAt (Bt.slot (f.r 0)) 0).toNat _ else S.words) 2 = _
        split
        · rw [upd_ne]
          rw [hnode]
          exact Ne.symm (node_two _)
        · rfl
      refine .inr ⟨{ f with pc := 2 }, by rw [he]; exact turn_frames hf rfl, ?_⟩
      unfold rank
      rw [hw]
      by_cases q : S.words 2 = f.r 1 <;> simp [h1, hp, q]
    · cases hc : S.casOk 2 (f.r 1) with
      | true =>
        refine .inl ?_
        rw [give2_eq hf h1 hp hc]
        show (upd S.th t _ t).frames = []
        rw [upd_same]
      | false =>
        have hq : ¬ S.words 2 = f.r 1 := by rw [c2] at hc; simpa using hc
        have he : S.slotsStep t = S.stepped ((S.top t { f with pc := 3 }).cas 2 (f.r 1) (Bt.head (Bt.slot (f.r 0)) (Bt.chg (f.r 1) + 1))) := by
          simp [MS.slotsStep, hf, MS.slotsBit, h1, MS.giveBit, hp, hc]
        refine .inr ⟨{ f with pc := 3 }, ?_, ?_⟩
        · rw [he]
          show (upd S.th t { S.th t with frames := _ :: (S.th t).frames.tail } t).frames = [_]
          rw [upd_same, hf]
          rfl
        · unfold rank
          simp [h1, hp, hq]
    · have he : S.slotsStep t = S.stepped ((S.at1 2).top t { f with r := upd f.r 1 (S.load 2), pc := 1 }) := by
        simp [MS.slotsStep, hf, MS.slotsBit, h1, MS.giveBit, hp]
      refine .inr ⟨{ f with r := upd f.r 1 (S.load 2), pc := 1 }, by rw [he]; exact turn_frames hf rfl, ?_⟩
      have hw : (S.slotsStep t).words = S.words := by rw [he]; rfl
      unfold rank
      rw [hw]
      simp [h1, hp, upd_same, l2]

theorem run_ends : ∀ (n : Nat) {b : Int} {S : MS} {L : List Nat} {had : Nat → List Int}, InvL b S L had → b + n ≤ 1000000 → ∀ {t : Nat}, t < S.T → (∀ f, (S.th t).frames = [f] → rank S f ≤ n) → ((S.runT t n).th t).frames = [] := by
  intro n
  induction n with
  | zero =>
    intro b S L had h hb t ht hr
    show (S.th t).frames = []
    cases hf : (S.th t).frames with
    | nil => rfl
    | cons f fs =>
      have hl := h.len t ht
      rw [hf] at hl
      have hfs : fs = [] := by cases fs with
        | nil => rfl
        | cons a l => simp at hl
      subst hfs
      have := hr f hf
      have : 0 < rank S f := by
        unfold rank
        (repeat' split) <;> decide
      omega
  | succ n ih =>
    intro b S L had h hb t ht hr
    rw [MS.runT]
    by_cases h0 : (S.th t).frames = []
    · rw [if_pos h0]; exact h0
    · rw [if_neg h0]
      cases hf : (S.th t).frames with
      | nil => exact absurd hf h0
      | cons f fs =>
        have hl := h.len t ht
        rw [hf] at hl
        have hfs : fs = [] := by cases fs with
          | nil => rfl
          | cons a l => simp at hl
        subst hfs
        obtain ⟨L', h'⟩ := step_any h (by omega) ht hf
        refine ih h' (by omega) (by rw [slotsStep_T]; exact ht) fun g hg => ?_
        rcases rank_step h ht hf with e | ⟨g', e, hlt⟩
        · rw [e] at hg; exact absurd hg (by simp)
        · rw [e] at hg
          have : g' = g := by simpa using hg
          subst this
          have := hr f hf
          omega

theorem flatMap_len_le {F G : Nat → List Nat} (h : ∀ u, (F u).length ≤ (G u).length) : ∀ l : List Nat, (l.flatMap F).length ≤ (l.flatMap G).length
  | [] => Nat.le_refl _
  | x :: l => by
    rw [List.flatMap_cons, List.flatMap_cons, List.length_append, List.length_append]
    have := flatMap_len_le h l
    have := h x
    omega
theorem holds_len (f : FS) : f.holds.length ≤ f.mine.length := by
  unfold FS.holds FS.mine
  (repeat' split) <;> simp
theorem frames_len : ∀ l : List FS, (l.flatMap FS.holds).length ≤ (l.flatMap FS.mine).length
  | [] => Nat.le_refl _
  | x :: l => by
    rw [List.flatMap_cons, List.flatMap_cons, List.length_append, List.length_append]
    have := frames_len l
    have := holds_len x
    omega
theorem InvL.cntLe {b : Int} {S : MS} {L : List Nat} {had : Nat → List Int} (h : InvL b S L had) : S.cnt ≤ 250 := by
  have h1 : S.cnt = 5 + ((List.range S.T).flatMap (ownH had S)).length := h.cnt
  have h2 := flatMap_len_le (F := ownH had S) (G := ownM had S) (fun u => by
    unfold ownH ownM TS.mine
    rw [List.length_append, List.length_append]
    have := frames_len (S.th u).frames
    omega) (List.range S.T)
  have h3 : (L ++ (List.range S.T).flatMap (ownM had S)).Perm ((List.range (S.N - 5)).map (· + 6)) := h.each
  have h4 := h3.length_eq
  have := h.fit.N250
  rw [List.length_append, List.length_map, List.length_range] at h4
  omega

theorem cons_erase_perm {α : Type} : ∀ (l : List α) (i : Nat) (h : i < l.length), (l[i] :: l.eraseIdx i).Perm l
  | _ :: _, 0, _ => List.Perm.refl _
  | x :: l, i + 1, h => by
    have h' : i < l.length := by simpa using h
    show (l[i] :: x :: l.eraseIdx i).Perm (x :: l)
    exact (List.Perm.swap _ _ _).trans ((cons_erase_perm l i h').cons x)

/-- So many steps may still come, whatever the caller has. -/
def InvA (k : Nat) (S : MS) : Prop := ∃ L had, InvL (100000 - k) S L had

theorem goods : Goods InvA where
  step := fun k S t ⟨L, had, h⟩ ht => by
    cases hf : (S.th t).frames with
    | nil =>
      have : S.slotsStep t = S := by unfold MS.slotsStep; rw [hf]
      rw [this]
      exact ⟨L, had, h.mono (by omega)⟩
    | cons f fs =>
      have hl := h.len t ht
      rw [hf] at hl
      have hfs : fs = [] := by cases fs with
        | nil => rfl
        | cons a l => simp at hl
      subst hfs
      obtain ⟨L', h'⟩ := step_any h (by omega) ht hf
      exact ⟨L', _, h'.mono (by omega)⟩
  cnt := fun k S ⟨L, had, h⟩ => by have := h.cntLe; omega
  len := fun k S t ⟨L, had, h⟩ ht => h.len t ht
  ends := fun k S t ⟨L, had, h⟩ ht => run_ends 10 h (by omega) ht fun f _ => by have := rank_le S f; omega
  mono := fun k j S ⟨L, had, h⟩ hj => ⟨L, had, h.mono (by omega)⟩

/-- Take begins. -/
theorem call_take {b : Int} {S : MS} {L : List Nat} {had : Nat → List Int} (h : InvL b S L had) {t : Nat} (ht : t < S.T) (hf : (S.th t).frames = []) : InvL (b + 1) (S.call t 1 []) L had := by
  have ha := h.acc
  refine h.turn ht (x := { S.th t with frames := [⟨1, 0, regs []⟩] }) rfl rfl rfl rfl rfl rfl rfl h.slips h.mfault h.fault ⟨ha.1, by show S.acc ≤ _; omega⟩ ?_ (by simp) ?_ ?_ ?_
  · show upd S.th t { S.th t with frames := _ :: (S.th t).frames } = _
    rw [hf]
  · simp [TS.mine, hf, FS.mine]
  · simp [hf, FS.holds]
  · intro c _ _ _ g hg
    simp only [List.mem_singleton] at hg
    subst hg
    exact ⟨.inl rfl, .inl rfl, fun q => absurd q (by show ¬ ((0 : Int) = 1 ∨ (0 : Int) = 2); decide), fun _ q => absurd q (by show ¬ ((0 : Int) = 2); decide), fun q => absurd q (by show ¬ ((1 : Int) = 2); decide), fun q => absurd q (by show ¬ ((1 : Int) = 2); decide)⟩

/-- Give begins. -/
theorem call_give {b : Int} {S : MS} {L : List Nat} {had : Nat → List Int} (h : InvL b S L had) {t : Nat} (ht : t < S.T) (hf : (S.th t).frames = []) {i : Nat} (hi : i < (had t).length) :
    InvL (b + 1) (S.call t 2 [(had t)[i]]) L (upd had t ((had t).eraseIdx i)) := by
  have ha := h.acc
  have hmine : ownM had S t = (had t).map sl := by simp [ownM, TS.mine, hf]
  have hholds : ownH had S t = (had t).map sl := by simp [ownH, hf]
  have hp : ((had t).eraseIdx i ++ [(had t)[i]]).Perm (had t) := (List.perm_append_singleton _ _).trans (cons_erase_perm _ i hi)
  have hpm : (((had t).eraseIdx i).map sl ++ [sl (had t)[i]]).Perm ((had t).map sl) := by
    have := hp.map sl
    rw [List.map_append] at this
    exact this
  have eM : TS.mine { S.th t with frames := [⟨2, 0, regs [(had t)[i]]⟩] } = [sl (had t)[i]] := by simp [TS.mine, FS.mine, regs]
  have eH : List.flatMap FS.holds (TS.frames { S.th t with frames := [⟨2, 0, regs [(had t)[i]]⟩] }) = [sl (had t)[i]] := by simp [FS.holds, regs]
  refine h.go ht (x := { S.th t with frames := [⟨2, 0, regs [(had t)[i]]⟩] }) rfl rfl rfl ?_ (fun u hu => upd_ne _ _ _ hu) ?_ h.links ?_ h.nonneg (by simp) ?_ ?_ ?_ ?_ h.slips h.mfault h.fault ⟨ha.1, by show S.acc ≤ _; omega⟩
  · show upd S.th t { S.th t with frames := _ :: (S.th t).frames } = _
    rw [hf]
  · intro c c0 cb hw2
    refine ⟨c, c0, by omega, hw2, ?_, fun u hu hn g _ hg => hg.same rfl rfl rfl rfl rfl⟩
    intro g hg
    simp only [List.mem_singleton] at hg
    subst hg
    refine ⟨.inr rfl, .inl rfl, fun q => absurd q (by show ¬ ((0 : Int) = 1 ∨ (0 : Int) = 2); decide), fun q => absurd q (by show ¬ ((2 : Int) = 1); decide), fun _ _ => ?_, fun _ q => absurd q (by show ¬ ((0 : Int) = 2); decide)⟩
    exact (h.leads t ht _ (List.getElem_mem hi)).1
  · intro s q1 q2
    have := h.genw s q1 q2
    exact ⟨this.1, this.2.1, Int.le_trans this.2.2 (by omega)⟩
  · rw [hmine, upd_same, eM]
    exact hpm.append_left L
  · intro u hu e he
    by_cases q : u = t
    · subst q
      rw [upd_same] at he
      exact h.leads u hu e (List.mem_of_mem_eraseIdx he)
    · rw [upd_ne _ _ _ q] at he
      exact h.leads u hu e he
  · intro s
    rw [hholds, upd_same, eH]
    show S.held s = true ↔ _
    constructor
    · intro hs
      by_cases q : s ∈ (had t).map sl
      · exact .inr (hpm.mem_iff.2 q)
      · exact .inl ⟨hs, q⟩
    · rintro (q | q)
      · exact q.1
      · exact (h.held s).2 (.inr ⟨t, ht, .inl (hpm.mem_iff.1 q)⟩)
  · rw [hholds, upd_same, eH]
    show S.cnt + _ = S.cnt + _
    have := hpm.length_eq
    omega
end Go.Proofs.Ytjnikgliecgbdaa
