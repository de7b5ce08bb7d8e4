/- What the law of a crowd keeps in memory, beside the machine. -/
import Derived.Test.YtjnikgliecgbdaaPlainN
namespace Go.Proofs.Ytjnikgliecgbdaa
open Go.RowKit

/-- What never changes while the law goes on. -/
structure Env where
  w0 : World
  T : Nat
  N : Nat
  st : Int
  s : Stat
  cb : Nat
  hb : Nat
  eb : Nat

def crowdConf (E : Env) : Nat → Value
  | 0 => .int .i64 E.T
  | 1 => .int .i64 E.N
  | _ => .int .u64 E.st

structure Crowd (E : Env) (L : Lay) (S : MS) (had : Nat → List Int) (emp : Nat → Bool) (hv : Nat → Value) (W : World) : Prop where
  rep : Rep L S W
  s : L.s = E.s
  T : S.T = E.T
  below : Below E.w0.heap.size E.w0 W
  free : ∀ b, b < E.w0.heap.size → L.own b = .free
  fcb : L.own E.cb = .free
  fhb : L.own E.hb = .free
  feb : L.own E.eb = .free
  nhb : E.w0.heap.size ≤ E.hb
  neb : E.w0.heap.size ≤ E.eb
  ccb : Cells W E.cb 24 3 (crowdConf E)
  chb : Cells W E.hb 39 E.T hv
  ceb : Cells W E.eb 4 E.T (fun t => .bool (emp t))
  rows : ∀ t, t < E.T → W.ownsRow E.w0.heap.size 41 1 (hv t) (had t).length ((had t).map (Value.int .u64))
  ofree : ∀ t, t < E.T → ∀ g, (hv t).ownBlock = some g → L.own g = .free
  apart : ∀ t u, t < E.T → u < E.T → t ≠ u → ∀ g, (hv t).ownBlock = some g → (hv u).ownBlock ≠ some g

theorem Cells.ne {w : World} {b c : Nat} {ty ty' : TypeId} {n m : Nat} {f g : Nat → Value} (h : Cells w b ty n f) (k : Cells w c ty' m g) (hne : ty ≠ ty') : b ≠ c := by
  intro e
  subst e
  obtain ⟨arr, hb, _⟩ := h
  obtain ⟨arr', hb', _⟩ := k
  rw [hb] at hb'
  simp only [Option.some.injEq, Obj.cells.injEq] at hb'
  exact hne hb'.2.1
theorem ownsRow_ne {w : World} {b : Nat} {ty ty' : TypeId} {n m base size : Nat} {f : Nat → Value} {v : Value} {xs : List Value} {g : Nat} (h : Cells w b ty n f) (k : w.ownsRow base ty' size v m xs) (hg : v.ownBlock = some g) (hne : ty ≠ ty') : b ≠ g := by
  intro e
  subst e
  obtain ⟨arr, hb, _⟩ := h
  rcases k.2 with ⟨rfl, _⟩ | ⟨g', cap, cur, rfl, _, hc, _⟩
  · simp [Value.ownBlock] at hg
  · simp [Value.ownBlock] at hg
    subst hg
    rw [hb] at hc
    simp only [Option.some.injEq, Obj.cells.injEq] at hc
    exact hne hc.2.1
theorem ownsRow_far {w w' : World} {base size n : Nat} {ty : TypeId} {v : Value} {xs : List Value} (h : w.ownsRow base ty size v n xs) (hw : ∀ g, v.ownBlock = some g → g < w.heap.size → w'.heap[g]? = w.heap[g]?) : w'.ownsRow base ty size v n xs := by
  refine ⟨h.1, ?_⟩
  rcases h.2 with h0 | ⟨g, cap, cur, rfl, hb, hg, r⟩
  · exact .inl h0
  · exact .inr ⟨g, cap, cur, rfl, hb, (hw g rfl (Array.getElem?_eq_some_iff.1 hg).1).trans hg, r⟩

section
variable {E : Env} {L L' : Lay} {S S' : MS} {had : Nat → List Int} {emp : Nat → Bool} {hv : Nat → Value} {W W' : World}

/-- The machine goes on; the law's own memory is as it was. -/
theorem Crowd.goes (h : Crowd E L S had emp hv W) (hr : Rep L' S' W') (hm : Moves L L' W W') (hT : S'.T = S.T) : Crowd E L' S' had emp hv W' := by
  have hk : ∀ b, L.own b = .free → b < W.heap.size → W'.heap[b]? = W.heap[b]? := fun b ho hb => hm.kept.block b hb ho
  have ho : ∀ b, L.own b = .free → b < W.heap.size → L'.own b = .free := fun b hf hb => (hm.own b hb).trans hf
  have hlt : ∀ t, t < E.T → ∀ g, (hv t).ownBlock = some g → g < W.heap.size := fun t ht g hg => ((h.rows t ht).lt g hg).2
  refine ⟨hr, hm.s.trans h.s, hT.trans h.T, ?_, fun b hb => ho b (h.free b hb) (Nat.lt_of_lt_of_le hb h.below.size), ho _ h.fcb h.ccb.lt, ho _ h.fhb h.chb.lt, ho _ h.feb h.ceb.lt, h.nhb, h.neb,
    h.ccb.congr (hk _ h.fcb h.ccb.lt), h.chb.congr (hk _ h.fhb h.chb.lt), h.ceb.congr (hk _ h.feb h.ceb.lt), fun t ht => ownsRow_far (h.rows t ht) fun g hg hl => hk g (h.ofree t ht g hg) hl,
    fun t ht g hg => ho g (h.ofree t ht g hg) (hlt t ht g hg), h.apart⟩
  exact ⟨hm.kept.os.trans h.below.os, hm.kept.tape.trans h.below.tape, hm.kept.output.trans h.below.output, Nat.le_trans h.below.size hm.kept.size,
    fun b hb => (hk b (h.free b hb) (Nat.lt_of_lt_of_le hb h.below.size)).trans (h.below.block b hb)⟩

/-- Memory comes behind. -/
theorem Crowd.thru (h : Crowd E L S had emp hv W) (hb : Below W.heap.size W W') : Crowd E L S had emp hv W' :=
  h.goes (h.rep.thru hb) ⟨rfl, fun _ _ => rfl, ⟨hb.os, hb.tape, hb.output, hb.size, fun b hl _ => hb.block b hl⟩⟩ rfl
theorem Crowd.drewN (h : Crowd E L S had emp hv W) (n : Nat) : Crowd E L S had emp hv (W.drewN n) := h.thru ⟨rfl, rfl, rfl, Nat.le_refl _, fun _ _ => rfl⟩
theorem Crowd.drew (h : Crowd E L S had emp hv W) : Crowd E L S had emp hv W.drew := h.thru ⟨rfl, rfl, rfl, Nat.le_refl _, fun _ _ => rfl⟩
theorem Crowd.alloc (h : Crowd E L S had emp hv W) (o : Obj) : Crowd E L S had emp hv (W.alloc o) := h.thru ((Below.refl _ _).alloc (Nat.le_refl _) _)

/-- A mark of the law's own is set. -/
theorem Crowd.setEmp (h : Crowd E L S had emp hv W) (t : Nat) (v : Bool) : Crowd E L S had (upd emp t v) hv (W.setCell ⟨E.eb, t, none⟩ (.bool v)) := by
  have hw : ∀ b, b ≠ E.eb → (W.setCell ⟨E.eb, t, none⟩ (.bool v)).heap[b]? = W.heap[b]? := fun b hb => Below.heap_setCell _ _ _ _ hb
  have hs : (W.setCell ⟨E.eb, t, none⟩ (.bool v)).heap.size = W.heap.size := by simp [World.setCell]
  refine ⟨h.rep.setFree h.feb _, h.s, h.T, ?_, h.free, h.fcb, h.fhb, h.feb, h.nhb, h.neb, h.ccb.congr (hw _ (h.ccb.ne h.ceb (by decide))), h.chb.congr (hw _ (h.chb.ne h.ceb (by decide))),
    ?_, fun u hu => ownsRow_far (h.rows u hu) fun g hg _ => hw g (Ne.symm (ownsRow_ne h.ceb (h.rows u hu) hg (by decide))), h.ofree, h.apart⟩
  · refine ⟨h.below.os, h.below.tape, h.below.output, by rw [hs]; exact h.below.size, fun b hb => (hw b ?_).trans (h.below.block b hb)⟩
    have := h.neb
    omega
  · refine (h.ceb.set t (.bool v)).ext fun i _ => ?_
    by_cases e : i = t
    · subst e; rw [upd_same, upd_same]
    · rw [upd_ne _ _ _ e, upd_ne _ _ _ e]

/-- A row of the law's own has become another one. -/
theorem Crowd.newRow (h : Crowd E L S had emp hv W) {t : Nat} (ht : t < E.T) {l : List Int} {v : Value} (hg : W.grownBy W' (hv t).ownBlock)
    (hown : W'.ownsRow E.w0.heap.size 41 1 v l.length (l.map (Value.int .u64))) (hat : v.ownBlock = (hv t).ownBlock ∨ ∀ g, v.ownBlock = some g → W.heap.size ≤ g) :
    Crowd E L S (upd had t l) emp (upd hv t v) (W'.setCell ⟨E.hb, t, none⟩ v) := by
  have hfb : ∀ g, (hv t).ownBlock = some g → L.own g = .free := h.ofree t ht
  have hw1 : ∀ b, b < W.heap.size → (hv t).ownBlock ≠ some b → W'.heap[b]? = W.heap[b]? := fun b hb hne => hg.block b hb (Ne.symm hne)
  have hnb : ∀ {b : Nat} {ty : TypeId} {n : Nat} {f : Nat → Value}, Cells W b ty n f → ty ≠ 41 → (hv t).ownBlock ≠ some b := fun hc hne hq => ownsRow_ne hc (h.rows t ht) hq hne rfl
  have hold : ∀ g, (hv t).ownBlock = some g → E.w0.heap.size ≤ g := fun g hq => ((h.rows t ht).lt g hq).1
  have hR1 : Rep L S W' := h.rep.congr hg.size fun b ho hb => hw1 b hb fun hq => ho (hfb b hq)
  have c1 := h.ccb.congr (hw1 _ h.ccb.lt (hnb h.ccb (by decide)))
  have c2 := h.chb.congr (hw1 _ h.chb.lt (hnb h.chb (by decide)))
  have c3 := h.ceb.congr (hw1 _ h.ceb.lt (hnb h.ceb (by decide)))
  have rows1 : ∀ u, u < E.T → u ≠ t → W'.ownsRow E.w0.heap.size 41 1 (hv u) (had u).length ((had u).map (Value.int .u64)) := fun u hu hn =>
    ownsRow_far (h.rows u hu) fun g hq hl => hw1 g hl fun hq' => h.apart t u ht hu (Ne.symm hn) g hq' hq
  have hw2 : ∀ b, b ≠ E.hb → (W'.setCell ⟨E.hb, t, none⟩ v).heap[b]? = W'.heap[b]? := fun b hb => Below.heap_setCell _ _ _ _ hb
  have hs : (W'.setCell ⟨E.hb, t, none⟩ v).heap.size = W'.heap.size := by simp [World.setCell]
  have vf : ∀ g, v.ownBlock = some g → L.own g = .free := fun g hq => by
    rcases hat with e | e
    · exact hfb g (e ▸ hq)
    · exact h.rep.fresh g (e g hq)
  have vne : ∀ u, u < E.T → u ≠ t → ∀ g, v.ownBlock = some g → (hv u).ownBlock ≠ some g := fun u hu hn g hq => by
    rcases hat with e | e
    · exact h.apart t u ht hu (Ne.symm hn) g (e ▸ hq)
    · intro hq'
      have := ((h.rows u hu).lt g hq').2
      have := e g hq
      omega
  refine ⟨hR1.setFree h.fhb _, h.s, h.T, ?_, h.free, h.fcb, h.fhb, h.feb, h.nhb, h.neb, c1.congr (hw2 _ (c1.ne c2 (by decide))), ?_, c3.congr (hw2 _ (c3.ne c2 (by decide))), ?_, ?_, ?_⟩
  · refine ⟨hg.os.trans h.below.os, hg.tape.trans h.below.tape, hg.output.trans h.below.output, by rw [hs]; exact Nat.le_trans h.below.size hg.size, fun b hb => ?_⟩
    have q := h.nhb
    rw [hw2 b (by omega), hw1 b (Nat.lt_of_lt_of_le hb h.below.size) fun hq => by have := hold b hq; omega]
    exact h.below.block b hb
  · refine (c2.set t v).ext fun i _ => rfl
  · intro u hu
    by_cases e : u = t
    · subst e
      rw [upd_same, upd_same]
      exact ownsRow_far hown fun g hq _ => hw2 g (Ne.symm (ownsRow_ne c2 hown hq (by decide)))
    · rw [upd_ne _ _ _ e, upd_ne _ _ _ e]
      exact ownsRow_far (rows1 u hu e) fun g hq _ => hw2 g (Ne.symm (ownsRow_ne c2 (rows1 u hu e) hq (by decide)))
  · intro u hu g hq
    by_cases e : u = t
    · subst e; rw [upd_same] at hq; exact vf g hq
    · rw [upd_ne _ _ _ e] at hq; exact h.ofree u hu g hq
  · intro u x hu hx hn g hq
    by_cases e : u = t
    · subst e
      rw [upd_same] at hq
      rw [upd_ne _ _ _ (Ne.symm hn)]
      exact vne x hx (Ne.symm hn) g hq
    · rw [upd_ne _ _ _ e] at hq
      by_cases e2 : x = t
      · subst e2
        rw [upd_same]
        exact fun hq2 => vne u hu e g hq2 hq
      · rw [upd_ne _ _ _ e2]
        exact h.apart u x hu hx hn g hq

/-! ### What a walk reads -/
theorem Crowd.form (h : Crowd E L S had emp hv W) {t : Nat} (ht : t < E.T) : ∃ p c, hv t = .slice p (had t).length c ∧ (had t).length ≤ c ∧ (0 < (had t).length → ∃ g, p = some ⟨g, 0, none⟩ ∧ ∀ i (hi : i < (had t).length), W.cell? ⟨g, i, none⟩ = some (.int .u64 (had t)[i])) ∧ ∀ a, p = some a → ∃ g, a = ⟨g, 0, none⟩ := by
  have hr := h.rows t ht
  rcases hr.2 with ⟨e, h0⟩ | ⟨g, cap, cur, e, _, hg, hc, _, hcs, htake⟩
  · refine ⟨none, 0, by rw [e, h0], by omega, fun hq => absurd hq (by omega), fun a ha => absurd ha (by simp)⟩
  · refine ⟨some ⟨g, 0, none⟩, cap, e, hc, fun _ => ⟨g, rfl, fun i hi => ?_⟩, fun a ha => ⟨g, by simpa using ha.symm⟩⟩
    have := hr.cells (g := g) (by rw [e]; rfl) i (.int .u64 (had t)[i]) (by simp [hi])
    have hadd : (⟨g, 0, none⟩ : Addr).add i = ⟨g, i, none⟩ := by unfold Addr.add; split <;> simp_all
    rw [hadd] at this
    exact this
theorem Crowd.thr (h : Crowd E L S had emp hv W) (t : Int) : Calls Try.prog 7 #[.pointer (some ⟨E.s.m, 0, none⟩), .int .i64 t] W fun e w' => e = .returned (if 0 ≤ t ∧ t < E.T then .pointer (some ⟨E.s.th t.toNat, 0, none⟩) else .pointer none) ∧ W = w' := by
  have := core_Thread h.rep t
  unfold thrPtr at this
  rw [h.s, h.T] at this
  exact this
theorem Crowd.depth (h : Crowd E L S had emp hv W) {t : Nat} (ht : t < E.T) : Calls Try.prog 8 #[.pointer (some ⟨E.s.th t, 0, none⟩)] W fun e w' => e = .returned (.int .i64 (S.th t).frames.length) ∧ W = w' := by
  have := frame_Depth (h.rep.cth t (by rw [h.T]; exact ht))
  rw [h.s] at this
  exact this
end

/-! ### The machine's own invariant, at hand -/
theorem InvL.chain {b : Int} {S : MS} {L : List Nat} {had : Nat → List Int} (h : InvL b S L had) : S.chain = (L, true) := by
  obtain ⟨c, hc0, hcb, hw, _⟩ := h.head
  have hmem : ∀ s, s ∈ L → 6 ≤ s ∧ s ≤ S.N := fun s hs => h.mem hs
  have hlen : L.length ≤ S.N - 5 := by
    have := h.each.length_eq
    rw [List.length_append, List.length_map, List.length_range] at this
    omega
  have hN := h.fit.N250
  have hN7 := h.fit.N7
  have hd := h.hd
  unfold MS.chain chainOf
  rw [show (S.words 2 % 4096).toNat = L.headD 0 by rw [hw]; omega]
  have := chainFrom_linked (N := S.N) (fuel := S.N + 2) (acc := []) h.links (fun s hs => (hmem s hs).2) (by omega) (by omega) (by simp; omega)
  simpa using this

def EmpOk (T : Nat) (S : MS) (emp : Nat → Bool) : Prop := ∀ t, t < T → ∀ f ∈ (S.th t).frames, f.fn = 1 → f.pc = 1 → Bt.slot (f.r 1) = 0 → emp t = true
end Go.Proofs.Ytjnikgliecgbdaa
