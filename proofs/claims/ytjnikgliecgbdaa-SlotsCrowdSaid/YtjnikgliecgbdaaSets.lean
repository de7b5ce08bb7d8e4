/- What a store into one of the machine's own cells does to the state that the world holds. -/
import Derived.Test.YtjnikgliecgbdaaMach
namespace Go.Proofs.Ytjnikgliecgbdaa
open Go.RowKit

def noRole (t : Nat) (r : Role) : Prop := ¬ (r = .thr t ∨ r = .frames t ∨ (∃ i, r = .frame t i) ∨ r = .row t ∨ r = .stack t)

theorem upd_eta {f g : Nat → Value} {i n : Nat} {v : Value} (hi : g i = v) (hn : ∀ j, j ≠ i → j < n → g j = f j) : ∀ j, j < n → upd f i v j = g j := by
  intro j hj
  by_cases e : j = i
  · subst e; rw [upd_same, hi]
  · rw [upd_ne _ _ _ e, hn j e hj]

section
variable {L : Lay} {S : MS} {w : World}

theorem Rep.setAcc (h : Rep L S w) (a : Int) : Rep L { S with acc := a } (w.setCell ⟨L.s.me, 1, none⟩ (.int .i64 a)) := by
  have o := h.ome
  refine h.change L.s.me (by simp [World.setCell]) (fun b hb => Below.heap_setCell _ _ _ _ hb) rfl rfl rfl ⟨fun e => ?_, fun _ => rfl⟩ ⟨by rw [o]; simp, rfl⟩ ⟨fun _ => ?_, fun e => (e o).elim⟩ ⟨fun e => ?_, fun _ => rfl⟩
    ⟨fun e => ?_, fun _ => rfl⟩ ⟨fun e => ?_, fun _ => rfl⟩ ⟨fun e => ?_, fun _ => ⟨rfl, rfl⟩⟩ (by rw [o]; simp) (fun t _ => ⟨fun e => ?_, fun _ => rfl⟩)
  all_goals first | (rw [o] at e; simp at e; done) | skip
  exact (h.cme.set 1 _).ext (upd_eta rfl fun j h1 h2 => by match j, h1, h2 with | 0, _, _ => rfl | 2, _, _ => rfl)

theorem Rep.setMFault (h : Rep L S w) (a : Bool) : Rep L { S with mfault := a } (w.setCell ⟨L.s.me, 2, none⟩ (.bool a)) := by
  have o := h.ome
  refine h.change L.s.me (by simp [World.setCell]) (fun b hb => Below.heap_setCell _ _ _ _ hb) rfl rfl rfl ⟨fun e => ?_, fun _ => rfl⟩ ⟨by rw [o]; simp, rfl⟩ ⟨fun _ => ?_, fun e => (e o).elim⟩ ⟨fun e => ?_, fun _ => rfl⟩
    ⟨fun e => ?_, fun _ => rfl⟩ ⟨fun e => ?_, fun _ => rfl⟩ ⟨fun e => ?_, fun _ => ⟨rfl, rfl⟩⟩ (by rw [o]; simp) (fun t _ => ⟨fun e => ?_, fun _ => rfl⟩)
  all_goals first | (rw [o] at e; simp at e; done) | skip
  exact (h.cme.set 2 _).ext (upd_eta rfl fun j h1 h2 => by match j, h1, h2 with | 0, _, _ => rfl | 1, _, _ => rfl | k + 3, _, h2 => exact absurd h2 (by omega))

theorem Rep.setWord (h : Rep L S w) (a : Nat) (v : Int) : Rep L { S with words := upd S.words a v } (w.setCell ⟨L.s.wb, a, none⟩ (.int .u64 v)) := by
  have o := h.owb
  refine h.change L.s.wb (by simp [World.setCell]) (fun b hb => Below.heap_setCell _ _ _ _ hb) rfl rfl rfl ⟨fun e => ?_, fun _ => rfl⟩ ⟨by rw [o]; simp, rfl⟩ ⟨fun e => ?_, fun _ => rfl⟩ ⟨fun _ => ?_, fun e => (e o).elim⟩
    ⟨fun e => ?_, fun _ => rfl⟩ ⟨fun e => ?_, fun _ => rfl⟩ ⟨fun e => ?_, fun _ => ⟨rfl, rfl⟩⟩ (by rw [o]; simp) (fun t _ => ⟨fun e => ?_, fun _ => rfl⟩)
  all_goals first | (rw [o] at e; simp at e; done) | skip
  exact (h.cwb.set a _).ext (upd_eta (by simp [upd]) fun j h1 _ => by simp [upd, h1])

theorem Rep.setSlips (h : Rep L S w) (a : Int) : Rep L { S with slips := a } (w.setCell ⟨L.s.g, 2, none⟩ (.int .i64 a)) := by
  have o := h.og
  refine h.change L.s.g (by simp [World.setCell]) (fun b hb => Below.heap_setCell _ _ _ _ hb) rfl rfl rfl ⟨fun e => ?_, fun _ => rfl⟩ ⟨by rw [o]; simp, rfl⟩ ⟨fun e => ?_, fun _ => rfl⟩ ⟨fun e => ?_, fun _ => rfl⟩
    ⟨fun _ => ?_, fun e => (e o).elim⟩ ⟨fun e => ?_, fun _ => rfl⟩ ⟨fun e => ?_, fun _ => ⟨rfl, rfl⟩⟩ (by rw [o]; simp) (fun t _ => ⟨fun e => ?_, fun _ => rfl⟩)
  all_goals first | (rw [o] at e; simp at e; done) | skip
  exact (h.cg.set 2 _).ext (upd_eta rfl fun j h1 h2 => by match j, h1, h2 with | 0, _, _ => rfl | 1, _, _ => rfl | k + 3, _, h2 => exact absurd h2 (by omega))

theorem Rep.setGen (h : Rep L S w) (a : Nat) (v : Int) : Rep L { S with gens := upd S.gens a v } (w.setCell ⟨L.s.gb, a, none⟩ (.int .u64 v)) := by
  have o := h.ogb
  refine h.change L.s.gb (by simp [World.setCell]) (fun b hb => Below.heap_setCell _ _ _ _ hb) rfl rfl rfl ⟨fun e => ?_, fun _ => rfl⟩ ⟨by rw [o]; simp, rfl⟩ ⟨fun e => ?_, fun _ => rfl⟩ ⟨fun e => ?_, fun _ => rfl⟩
    ⟨fun e => ?_, fun _ => rfl⟩ ⟨fun _ => ?_, fun e => (e o).elim⟩ ⟨fun e => ?_, fun _ => ⟨rfl, rfl⟩⟩ (by rw [o]; simp) (fun t _ => ⟨fun e => ?_, fun _ => rfl⟩)
  all_goals first | (rw [o] at e; simp at e; done) | skip
  exact (h.cgb.set a _).ext (upd_eta (by simp [upd]) fun j h1 _ => by simp [upd, h1])

theorem Rep.setSteps (h : Rep L S w) (a : Int) : Rep L { S with steps := a } (w.setCell ⟨L.s.m, 4, none⟩ (.int .i64 a)) := by
  have o := h.om
  refine h.change L.s.m (by simp [World.setCell]) (fun b hb => Below.heap_setCell _ _ _ _ hb) rfl rfl rfl ⟨fun _ => ?_, fun e => (e o).elim⟩ ⟨by rw [o]; simp, rfl⟩ ⟨fun e => ?_, fun _ => rfl⟩ ⟨fun e => ?_, fun _ => rfl⟩
    ⟨fun e => ?_, fun _ => rfl⟩ ⟨fun e => ?_, fun _ => rfl⟩ ⟨fun e => ?_, fun _ => ⟨rfl, rfl⟩⟩ (by rw [o]; simp) (fun t _ => ⟨fun e => ?_, fun _ => rfl⟩)
  all_goals first | (rw [o] at e; simp at e; done) | skip
  exact (h.cm.set 4 _).ext (upd_eta rfl fun j h1 h2 => by match j, h1, h2 with | 0, _, _ => rfl | 1, _, _ => rfl | 2, _, _ => rfl | 3, _, _ => rfl | 5, _, _ => rfl)

theorem Rep.setFault (h : Rep L S w) (a : Bool) : Rep L { S with fault := a } (w.setCell ⟨L.s.m, 5, none⟩ (.bool a)) := by
  have o := h.om
  refine h.change L.s.m (by simp [World.setCell]) (fun b hb => Below.heap_setCell _ _ _ _ hb) rfl rfl rfl ⟨fun _ => ?_, fun e => (e o).elim⟩ ⟨by rw [o]; simp, rfl⟩ ⟨fun e => ?_, fun _ => rfl⟩ ⟨fun e => ?_, fun _ => rfl⟩
    ⟨fun e => ?_, fun _ => rfl⟩ ⟨fun e => ?_, fun _ => rfl⟩ ⟨fun e => ?_, fun _ => ⟨rfl, rfl⟩⟩ (by rw [o]; simp) (fun t _ => ⟨fun e => ?_, fun _ => rfl⟩)
  all_goals first | (rw [o] at e; simp at e; done) | skip
  exact (h.cm.set 5 _).ext (upd_eta rfl fun j h1 h2 => by match j, h1, h2 with | 0, _, _ => rfl | 1, _, _ => rfl | 2, _, _ => rfl | 3, _, _ => rfl | 4, _, _ => rfl | k + 6, _, h2 => exact absurd h2 (by omega))

/-- The map of what is held has turned. -/
theorem Rep.setHeld (h : Rep L S w) {held' : Nat → Bool} {cnt' : Nat} {w' : World} (hw : w.mapTurned w' L.s.hb) (hh : HeldIs w' L.s.hb held' cnt') : Rep L { S with held := held', cnt := cnt' } w' := by
  have o := h.ohb
  have hs : w.heap.size = w'.heap.size := by obtain ⟨es, c, es', c', _, rfl⟩ := hw; simp [ChangeMaps.setBlock]
  have hb : ∀ b, b ≠ L.s.hb → w'.heap[b]? = w.heap[b]? := by
    obtain ⟨es, c, es', c', _, rfl⟩ := hw
    intro b hb
    simp only [ChangeMaps.setBlock]
    rw [Array.getElem?_setIfInBounds_ne (Ne.symm hb)]
  refine h.change L.s.hb hs hb rfl rfl rfl ⟨fun e => ?_, fun _ => rfl⟩ ⟨by rw [o]; simp, rfl⟩ ⟨fun e => ?_, fun _ => rfl⟩ ⟨fun e => ?_, fun _ => rfl⟩
    ⟨fun e => ?_, fun _ => rfl⟩ ⟨fun e => ?_, fun _ => rfl⟩ ⟨fun _ => hh, fun e => (e o).elim⟩ (by rw [o]; simp) (fun t _ => ⟨fun e => ?_, fun _ => rfl⟩)
  all_goals (rw [o] at e; simp at e; done)


theorem any_role {t t' : Nat} (ne : t' ≠ t) {r : Role} (h : r = .thr t ∨ r = .frames t ∨ (∃ i, r = .frame t i) ∨ r = .row t ∨ r = .stack t) : ¬ (r = .thr t' ∨ r = .frames t' ∨ (∃ i, r = .frame t' i) ∨ r = .row t' ∨ r = .stack t') := by
  rintro k
  rcases h with e | e | ⟨i, e⟩ | e | e <;> subst e <;> simp at k <;> exact ne k.symm

theorem role_not {r : Role} {t : Nat} (h : r = .thr t ∨ r = .frames t ∨ (∃ i, r = .frame t i) ∨ r = .row t ∨ r = .stack t) :
    r ≠ .mach ∧ r ≠ .plan ∧ r ≠ .mem ∧ r ≠ .words ∧ r ≠ .guard ∧ r ≠ .gens ∧ r ≠ .held ∧ r ≠ .thrs := by
  rcases h with e | e | ⟨i, e⟩ | e | e <;> subst e <;> simp

/-- One block of a thread's own has turned. -/
theorem Rep.setOwn (h : Rep L S w) {t x : Nat} (o : L.own x = .thr t ∨ L.own x = .frames t ∨ (∃ i, L.own x = .frame t i) ∨ L.own x = .row t ∨ L.own x = .stack t)
    {w' : World} (hs : w.heap.size = w'.heap.size) (hw : ∀ b, b ≠ x → w'.heap[b]? = w.heap[b]?) {y : TS} (hy : ThrIs L w' t y) : Rep L { S with th := upd S.th t y } w' := by
  obtain ⟨n1, n2, n3, n4, n5, n6, n7, n8⟩ := role_not o
  refine h.change x hs hw rfl rfl rfl ⟨fun e => (n1 e).elim, fun _ => rfl⟩ ⟨n2, rfl⟩ ⟨fun e => (n3 e).elim, fun _ => rfl⟩ ⟨fun e => (n4 e).elim, fun _ => rfl⟩
    ⟨fun e => (n5 e).elim, fun _ => rfl⟩ ⟨fun e => (n6 e).elim, fun _ => rfl⟩ ⟨fun e => (n7 e).elim, fun _ => ⟨rfl, rfl⟩⟩ n8 (fun t' _ => ⟨fun e => ?_, fun e => ?_⟩)
  · by_cases ne : t' = t
    · subst ne; show ThrIs L w' t' (upd S.th t' y t'); rw [upd_same]; exact hy
    · exact (any_role ne o e).elim
  · by_cases ne : t' = t
    · subst ne; exact (e o).elim
    · exact upd_ne _ _ _ ne

theorem Rep.setThr (h : Rep L S w) {t : Nat} (ht : t < S.T) (i : Nat) (v : Value) (y : TS)
    (he : ∀ j, j < 27 → upd (thrCell (S.th t) (L.fv t) (L.rv t) (L.sv t)) i v j = thrCell y (L.fv t) (L.rv t) (L.sv t) j)
    (hf : y.frames = (S.th t).frames) (hr : y.row = (S.th t).row) (hk : y.stack = (S.th t).stack) : Rep L { S with th := upd S.th t y } (w.setCell ⟨L.s.th t, i, none⟩ v) := by
  have hx := h.cth t ht
  have hb : ∀ b, b ≠ L.s.th t → (w.setCell ⟨L.s.th t, i, none⟩ v).heap[b]? = w.heap[b]? := fun b hb => Below.heap_setCell _ _ _ _ hb
  have ne : ∀ b, L.own b ≠ .thr t → b ≠ L.s.th t := fun b hb e => hb (e ▸ hx.own)
  refine h.setOwn (.inl hx.own) (by simp [World.setCell]) hb ⟨hx.own, (hx.cells.set i v).ext he, ?_, ?_, ?_, ?_⟩
  · rw [hf]; exact hx.frames.congr fun b ho _ => hb b (ne b (by rw [ho]; simp))
  · rw [hf]; exact hx.frs.congr fun b _ ho _ => hb b (ne b (by rw [ho]; simp))
  · rw [hr]; exact hx.row.congr fun b ho _ => hb b (ne b (by rw [ho]; simp))
  · rw [hk]; exact hx.stack.congr fun b ho _ => hb b (ne b (by rw [ho]; simp))

/-- A store into the top frame. -/
theorem Rep.setTop (h : Rep L S w) {t : Nat} (ht : t < S.T) {b : Nat} {bs : List Nat} {f : FS} {fs : List FS} (hb : L.fr t = b :: bs) (hf : (S.th t).frames = f :: fs) (i : Nat) (v : Value) (g : FS)
    (he : ∀ j, j < 26 → upd (frCell f) i v j = frCell g j) : Rep L { S with th := upd S.th t { S.th t with frames := g :: fs } } (w.setCell ⟨b, i, none⟩ v) := by
  have hx := h.cth t ht
  have hq := hx.frs
  rw [hb, hf] at hq
  obtain ⟨ho, hc, hr⟩ := hq
  have hw : ∀ k, k ≠ b → (w.setCell ⟨b, i, none⟩ v).heap[k]? = w.heap[k]? := fun k hk => Below.heap_setCell _ _ _ _ hk
  have ne : ∀ k, L.own k ≠ .frame t fs.length → k ≠ b := fun k hk e => hk (e ▸ ho)
  refine h.setOwn (.inr (.inr (.inl ⟨_, ho⟩))) (by simp [World.setCell]) hw ⟨hx.own, hx.cells.congr (hw _ (ne _ (by rw [hx.own]; simp))), ?_, ?_, ?_, ?_⟩
  · show RowIs _ _ _ _ _ _ (fs.length + 1) _
    have := hx.frames
    rw [hf] at this
    exact this.congr fun k hk _ => hw k (ne k (by rw [hk]; simp))
  · rw [hb]
    refine ⟨ho, (hc.set i v).ext he, ?_⟩
    have key : ∀ (bs' : List Nat) (fs' : List FS), fs'.length ≤ fs.length → Frs L.own w t bs' fs' → Frs L.own (w.setCell ⟨b, i, none⟩ v) t bs' fs' := by
      intro bs'
      induction bs' with
      | nil => intro fs' _ h'; cases fs' with
        | nil => trivial
        | cons _ _ => exact h'.elim
      | cons b' bs' ih => intro fs' hl h'; cases fs' with
        | nil => exact h'.elim
        | cons f' fs' =>
          simp only [List.length_cons] at hl
          exact ⟨h'.1, h'.2.1.congr (hw _ (ne _ (by rw [h'.1]; intro e; injection e with _ e; omega))), ih fs' (by omega) h'.2.2⟩
    exact key bs fs (Nat.le_refl _) hr
  · exact hx.row.congr fun k hk _ => hw k (ne k (by rw [hk]; simp))
  · exact hx.stack.congr fun k hk _ => hw k (ne k (by rw [hk]; simp))

/-- The state with a thread's top frame changed. -/
def MS.top (S : MS) (t : Nat) (g : FS) : MS := { S with th := upd S.th t { S.th t with frames := g :: (S.th t).frames.tail } }

theorem Rep.setPC (h : Rep L S w) {t : Nat} (ht : t < S.T) {b : Nat} {bs : List Nat} {f : FS} {fs : List FS} (hb : L.fr t = b :: bs) (hf : (S.th t).frames = f :: fs) (n : Int) :
    Rep L (S.top t { f with pc := n }) (w.setCell ⟨b, 1, none⟩ (.int .i64 n)) := by
  unfold MS.top
  rw [hf]
  exact h.setTop ht hb hf 1 _ _ (upd_eta rfl fun j h1 _ => by match j, h1 with | 0, _ => rfl | k + 2, _ => rfl)
theorem Rep.setR (h : Rep L S w) {t : Nat} (ht : t < S.T) {b : Nat} {bs : List Nat} {f : FS} {fs : List FS} (hb : L.fr t = b :: bs) (hf : (S.th t).frames = f :: fs) (i : Nat) (n : Int) :
    Rep L (S.top t { f with r := upd f.r i n }) (w.setCell ⟨b, i + 2, none⟩ (.int .u64 n)) := by
  unfold MS.top
  rw [hf]
  refine h.setTop ht hb hf (i + 2) _ _ (upd_eta (by simp [frCell, upd]) fun j h1 _ => ?_)
  match j, h1 with
  | 0, _ => rfl
  | 1, _ => rfl
  | k + 2, h1 => simp only [frCell]; rw [upd_ne _ _ _ (by omega)]

/-! ### Layouts that move -/
structure Moves (L L' : Lay) (w w' : World) : Prop where
  s : L'.s = L.s
  own : ∀ b, b < w.heap.size → L'.own b = L.own b
  kept : Kept L w w'

theorem Moves.of {w' : World} (h : Kept L w w') : Moves L L w w' := ⟨rfl, fun _ _ => rfl, h⟩
theorem Moves.trans {L L' L'' : Lay} {a b c : World} (h : Moves L L' a b) (k : Moves L' L'' b c) : Moves L L'' a c :=
  ⟨k.s.trans h.s, fun i hi => (k.own i (Nat.lt_of_lt_of_le hi h.kept.size)).trans (h.own i hi), ⟨k.kept.os.trans h.kept.os, k.kept.tape.trans h.kept.tape, k.kept.output.trans h.kept.output, Nat.le_trans h.kept.size k.kept.size,
    fun i hi ho => (k.kept.block i (Nat.lt_of_lt_of_le hi h.kept.size) ((h.own i hi).trans ho)).trans (h.kept.block i hi ho)⟩⟩

end
end Go.Proofs.Ytjnikgliecgbdaa
