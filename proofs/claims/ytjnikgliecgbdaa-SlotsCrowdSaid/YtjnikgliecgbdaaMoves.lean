/- A thread's frames come and go: what the world holds then. -/
import Derived.Test.YtjnikgliecgbdaaCore
namespace Go.Proofs.Ytjnikgliecgbdaa
open Go.RowKit

def ofThr (t : Nat) (r : Role) : Prop := r = .thr t ∨ r = .frames t ∨ (∃ i, r = .frame t i) ∨ r = .row t ∨ r = .stack t

section
variable {L L' : Lay} {S : MS} {w w' : World}

theorem RowIs.relay {own own' : Nat → Role} {r : Role} {ty : TypeId} {size n : Nat} {v : Value} {xs : List Value} (h : RowIs own r w ty size v n xs) (ho : ∀ b, b < w.heap.size → own' b = own b)
    (hw : ∀ b, own b = r → b < w.heap.size → w'.heap[b]? = w.heap[b]?) : RowIs own' r w' ty size v n xs := by
  refine ⟨(h.congr hw).1, fun b hb => ?_⟩
  rw [ho b ?_]
  · exact h.2 b hb
  · rcases h.1.2 with ⟨hv, _⟩ | ⟨g, cap, cur, hv, _, hg, _⟩
    · rw [hv] at hb; cases hb
    · rw [hv] at hb
      have : g = b := by simpa [Value.ownBlock] using hb
      subst this
      exact (Array.getElem?_eq_some_iff.1 hg).1

theorem Frs.relay {own own' : Nat → Role} {t : Nat} (ho : ∀ b, b < w.heap.size → own' b = own b) : ∀ {bs : List Nat} {fs : List FS}, Frs own w t bs fs → (∀ b i, own b = .frame t i → b < w.heap.size → w'.heap[b]? = w.heap[b]?) → Frs own' w' t bs fs
  | [], [], _, _ => trivial
  | _ :: _, _ :: _, ⟨h1, hc, hr⟩, hw => ⟨(ho _ hc.lt).trans h1, hc.congr (hw _ _ h1 hc.lt), Frs.relay ho hr hw⟩
  | [], _ :: _, h, _ => h.elim
  | _ :: _, [], h, _ => h.elim

theorem ThrIs.relay {t : Nat} {x : TS} (h : ThrIs L w t x) (hs : L'.s = L.s) (ho : ∀ b, b < w.heap.size → L'.own b = L.own b) (e : L'.fr t = L.fr t ∧ L'.fv t = L.fv t ∧ L'.rv t = L.rv t ∧ L'.sv t = L.sv t)
    (hw : ∀ b, ofThr t (L.own b) → b < w.heap.size → w'.heap[b]? = w.heap[b]?) : ThrIs L' w' t x := by
  obtain ⟨e1, e2, e3, e4⟩ := e
  refine ⟨?_, ?_, ?_, ?_, ?_, ?_⟩
  · rw [hs, ho _ h.cells.lt]; exact h.own
  · rw [hs, e2, e3, e4]; exact h.cells.congr (hw _ (.inl h.own) h.cells.lt)
  · rw [e2, e1]; exact h.frames.relay ho fun b hb => hw b (.inr (.inl hb))
  · rw [e1]; exact h.frs.relay ho fun b i hb => hw b (.inr (.inr (.inl ⟨i, hb⟩)))
  · rw [e3]; exact h.row.relay ho fun b hb => hw b (.inr (.inr (.inr (.inl hb))))
  · rw [e4]; exact h.stack.relay ho fun b hb => hw b (.inr (.inr (.inr (.inr hb))))

/-- One thread's blocks have moved, or turned; the rest is as it was. -/
theorem Rep.moved (h : Rep L S w) {t : Nat} {y : TS} (hs : L'.s = L.s) (ho : ∀ b, b < w.heap.size → L'.own b = L.own b) (hf : ∀ b, w'.heap.size ≤ b → L'.own b = .free)
    (hw : ∀ b, b < w.heap.size → L.own b ≠ .free → ¬ ofThr t (L.own b) → w'.heap[b]? = w.heap[b]?)
    (hk : ∀ t', t' ≠ t → L'.fr t' = L.fr t' ∧ L'.fv t' = L.fv t' ∧ L'.rv t' = L.rv t' ∧ L'.sv t' = L.sv t') (hy : ThrIs L' w' t y) : Rep L' { S with th := upd S.th t y } w' := by
  have nt : ∀ {b : Nat} {r : Role}, L.own b = r → (∀ t, ¬ ofThr t r) → r ≠ .free → b < w.heap.size → w'.heap[b]? = w.heap[b]? := fun hb h1 h2 h3 => hw _ h3 (by rw [hb]; exact h2) (by rw [hb]; exact h1 t)
  have nn : ∀ {r : Role}, (r = .mach ∨ r = .plan ∨ r = .mem ∨ r = .words ∨ r = .guard ∨ r = .gens ∨ r = .held ∨ r = .thrs) → ∀ t, ¬ ofThr t r := by
    rintro r hr t hq
    rcases hr with e | e | e | e | e | e | e | e <;> subst e <;> simp [ofThr] at hq
  refine ⟨h.T1, h.T6, h.N7, h.N250, h.nw, by rw [hs]; exact h.nwc, by rw [hs]; exact h.Ttc, ?_, ?_, ?_, ?_, ?_, ?_, ?_, ?_, hf, ?_, ?_, ?_, ?_, ?_, ?_, ?_, ?_, ?_⟩
  · rw [hs, ho _ h.cm.lt]; exact h.om
  · rw [hs, ho _ h.cp.lt]; exact h.op
  · rw [hs, ho _ h.cme.lt]; exact h.ome
  · rw [hs, ho _ h.cwb.lt]; exact h.owb
  · rw [hs, ho _ h.cg.lt]; exact h.og
  · rw [hs, ho _ h.cgb.lt]; exact h.ogb
  · rw [hs, ho _ h.chb.lt]; exact h.ohb
  · rw [hs, ho _ h.ctb.lt]; exact h.otb
  · rw [hs]; exact h.cm.congr (nt h.om (nn (by simp)) (by simp) h.cm.lt)
  · rw [hs]; exact h.cp.congr (nt h.op (nn (by simp)) (by simp) h.cp.lt)
  · rw [hs]; exact h.cme.congr (nt h.ome (nn (by simp)) (by simp) h.cme.lt)
  · rw [hs]; exact h.cwb.congr (nt h.owb (nn (by simp)) (by simp) h.cwb.lt)
  · rw [hs]; exact h.cg.congr (nt h.og (nn (by simp)) (by simp) h.cg.lt)
  · rw [hs]; exact h.cgb.congr (nt h.ogb (nn (by simp)) (by simp) h.cgb.lt)
  · rw [hs]; exact h.chb.congr (nt h.ohb (nn (by simp)) (by simp) h.chb.lt)
  · rw [hs]; exact h.ctb.congr (nt h.otb (nn (by simp)) (by simp) h.ctb.lt)
  · intro t' ht'
    by_cases e : t' = t
    · subst e; show ThrIs L' w' t' (upd S.th t' y t'); rw [upd_same]; exact hy
    · show ThrIs L' w' t' (upd S.th t y t')
      rw [upd_ne _ _ _ e]
      refine (h.cth t' ht').relay hs ho (hk t' e) fun b hb hl => hw b hl ?_ (any_role (Ne.symm e) hb)
      intro e0; rw [e0] at hb; simp [ofThr] at hb

end

def Lay.push (L : Lay) (t b0 g n cap : Nat) : Lay :=
  { L with fr := upd L.fr t (b0 :: L.fr t), fv := upd L.fv t (.slice (some ⟨g, 0, none⟩) (n + 1) cap), own := fun b => if b = b0 then .frame t n else if b = g then .frames t else L.own b }

def regs (rs : List Int) : Nat → Int := fun i => rs.getD i 0
/-- A frame put upon a thread's others. -/
def MS.call (S : MS) (t : Nat) (fn : Int) (rs : List Int) : MS := { S with th := upd S.th t { S.th t with frames := ⟨fn, 0, regs rs⟩ :: (S.th t).frames } }

theorem Rep.push {L : Lay} {S : MS} {w w' : World} (h : Rep L S w) {t : Nat} (ht : t < S.T) (f : FS) (b0 g cap : Nat) (hs : w.heap.size ≤ w'.heap.size)
    (hb0 : w.heap.size ≤ b0) (hbl : b0 < w'.heap.size) (hc : Cells w' b0 46 26 (frCell f)) (hg : (L.fv t).ownBlock = some g ∨ w.heap.size ≤ g) (hgl : g < w'.heap.size) (hgb : g ≠ b0)
    (hrow : w'.ownsRow 0 42 1 (.slice (some ⟨g, 0, none⟩) ((S.th t).frames.length + 1) cap) ((S.th t).frames.length + 1) ((L.fr t).reverse.map ptr ++ [ptr b0]))
    (hth : Cells w' (L.s.th t) 58 27 (thrCell (S.th t) (.slice (some ⟨g, 0, none⟩) ((S.th t).frames.length + 1) cap) (L.rv t) (L.sv t)))
    (hw : ∀ b, b < w.heap.size → L.own b ≠ .free → b ≠ L.s.th t → L.own b ≠ .frames t → w'.heap[b]? = w.heap[b]?) :
    Rep (L.push t b0 g (S.th t).frames.length cap) { S with th := upd S.th t { S.th t with frames := f :: (S.th t).frames } } w' := by
  have hx := h.cth t ht
  have ho : ∀ b, b < w.heap.size → (L.push t b0 g (S.th t).frames.length cap).own b = L.own b := by
    intro b hb
    show (if b = b0 then _ else if b = g then _ else _) = _
    rw [if_neg (by omega)]
    by_cases e : b = g
    · rw [if_pos e]
      rcases hg with hg | hg
      · rw [e]; exact (hx.frames.2 g hg).symm
      · omega
    · rw [if_neg e]
  refine h.moved rfl ho (fun b hb => ?_) (fun b hb h1 h2 => hw b hb h1 (fun e => h2 (e ▸ .inl hx.own)) fun e => h2 (.inr (.inl e))) (fun t' e => ⟨upd_ne _ _ _ e, upd_ne _ _ _ e, rfl, rfl⟩) ?_
  · show (if b = b0 then _ else if b = g then _ else _) = _
    rw [if_neg (by omega), if_neg (by omega)]
    exact h.fresh b (Nat.le_trans hs hb)
  · refine ⟨(ho _ hx.cells.lt).trans hx.own, ?_, ?_, ?_, ?_, ?_⟩
    · show Cells w' (L.s.th t) _ 27 (thrCell _ (upd L.fv t _ t) _ _)
      rw [upd_same]
      exact hth.ext fun j hj => by
        match j, hj with
        | 0, _ | 1, _ | 2, _ | 3, _ | 4, _ | 5, _ | 6, _ | 7, _ | 8, _ | 9, _ | 10, _ | 11, _ | 12, _ | 13, _ | 14, _ | 15, _ | 16, _ | 17, _ | 18, _ | 19, _ | 20, _ | 21, _ | 22, _ | 23, _ | 24, _ | 25, _ | 26, _ => rfl
        | k + 27, hj => exact absurd hj (by omega)
    · show RowIs _ _ w' _ 1 (upd L.fv t _ t) ((S.th t).frames.length + 1) ((upd L.fr t _ t).reverse.map ptr)
      rw [upd_same, upd_same, List.reverse_cons, List.map_append]
      refine ⟨hrow, fun b hb => ?_⟩
      have : g = b := by simpa [Value.ownBlock] using hb
      subst this
      show (if g = b0 then _ else if g = g then _ else _) = _
      rw [if_neg hgb, if_pos rfl]
    · show Frs _ w' t (upd L.fr t _ t) _
      rw [upd_same]
      refine ⟨?_, hc, hx.frs.relay ho fun b i hb hl => hw b hl (by rw [hb]; simp) (fun e => by rw [e, hx.own] at hb; cases hb) (by rw [hb]; simp)⟩
      show (if b0 = b0 then _ else _) = _
      rw [if_pos rfl]
    · exact hx.row.relay ho fun b hb hl => hw b hl (by rw [hb]; simp) (fun e => by rw [e, hx.own] at hb; cases hb) (by rw [hb]; simp)
    · exact hx.stack.relay ho fun b hb hl => hw b hl (by rw [hb]; simp) (fun e => by rw [e, hx.own] at hb; cases hb) (by rw [hb]; simp)
end Go.Proofs.Ytjnikgliecgbdaa
