/- Contract of the maker of a machine. -/
import Derived.Test.YtjnikgliecgbdaaNewC
namespace Go.Proofs.Ytjnikgliecgbdaa
open Go.RowKit

/-- A machine of which k threads are there. -/
structure Half (w0 : World) (T N nw : Nat) (st : Int) (p wb wc me gb hb g m k : Nat) (tv : Value) (th : Nat → Nat) (W : World) : Prop where
  below : Below w0.heap.size w0 W
  o0 : w0.heap.size ≤ p
  o1 : p < wb
  o2 : wb < me
  o3 : me < gb
  o4 : gb < hb
  o5 : hb < g
  o6 : g < m
  o7 : m < W.heap.size
  hwc : nw ≤ wc
  cp : PlanAt W p T N st
  cwb : Cells W wb 22 nw (fun a => .int .u64 (linkW T N a))
  cme : Cells W me 106 3 (fun i => match i with | 0 => .slice (some ⟨wb, 0, none⟩) nw wc | 1 => .int .i64 0 | _ => .bool false)
  cgb : Cells W gb 22 (N + 1) (fun _ => .int .u64 0)
  chb : HeldIs W hb (fun _ => false) 0
  cg : Cells W g 97 3 (fun i => match i with | 0 => .slice (some ⟨gb, 0, none⟩) (N + 1) (N + 1) | 1 => .map (some hb) | _ => .int .i64 0)
  cm : Cells W m 76 6 (fun i => match i with | 0 => ptr p | 1 => ptr me | 2 => ptr g | 3 => tv | 4 => .int .i64 0 | _ => .bool false)
  rows : W.ownsRow (m + 1) 36 1 tv k ((List.range k).map fun t => ptr (th t))
  ths : ∀ t, t < k → m < th t ∧ Cells W (th t) 58 27 (fun i => thrZero[i]?.getD undef)
  inj : ∀ t t', t < k → t' < k → th t = th t' → t = t'
  apart : ∀ t, t < k → tv.ownBlock ≠ some (th t)

theorem ownsRow_block {w : World} {base : Nat} {e : TypeId} {size n : Nat} {v : Value} {xs : List Value} (h : w.ownsRow base e size v n xs) {b : Nat} (hb : v.ownBlock = some b) : base ≤ b ∧ b < w.heap.size := by
  rcases h.2 with ⟨rfl, _⟩ | ⟨g, cap, cur, rfl, h1, h2, _⟩
  · cases hb
  · simp only [Value.ownBlock, Option.some.injEq] at hb
    subst hb
    exact ⟨h1, (Array.getElem?_eq_some_iff.1 h2).1⟩
theorem ownsRow_congr {w w' : World} {base : Nat} {e : TypeId} {size n : Nat} {v : Value} {xs : List Value} (h : w.ownsRow base e size v n xs) (hw : ∀ b, v.ownBlock = some b → w'.heap[b]? = w.heap[b]?) : w'.ownsRow base e size v n xs := by
  refine ⟨h.1, ?_⟩
  rcases h.2 with h0 | ⟨g, cap, cur, rfl, h1, h2, h3⟩
  · exact .inl h0
  · exact .inr ⟨g, cap, cur, rfl, h1, (hw g rfl).trans h2, h3⟩

theorem Half.next {w0 : World} {T N nw : Nat} {st : Int} {p wb wc me gb hb g m k : Nat} {tv : Value} {th : Nat → Nat} {W W6 : World} {g' cap : Nat} (h : Half w0 T N nw st p wb wc me gb hb g m k tv th W)
    (ho : W6.ownsRow (m + 1) 36 1 (.slice (some ⟨g', 0, none⟩) (k + 1) cap) (k + 1) ((List.range k).map (fun t => ptr (th t)) ++ [ptr W.heap.size]))
    (hg : ((W.alloc (.cells thrZero 58)).alloc (.cells #[.pointer (some ⟨W.heap.size, 0, none⟩)] 36)).drew.grownBy W6 tv.ownBlock)
    (ha : tv.ownBlock = some g' ∨ g' = W.heap.size + 2) :
    (W6.cell? ⟨m, 3, none⟩ = some tv ∧ W6.frozen? ⟨m, 3, none⟩ = false) ∧ Half w0 T N nw st p wb wc me gb hb g m (k + 1) (.slice (some ⟨g', 0, none⟩) (k + 1) cap) (upd th k W.heap.size) (W6.setCell ⟨m, 3, none⟩ (.slice (some ⟨g', 0, none⟩) (k + 1) cap)) := by
  have hsz : W.heap.size + 2 ≤ W6.heap.size := by have := hg.size; simpa using this
  have hold : ∀ b, b < W.heap.size → tv.ownBlock ≠ some b → W6.heap[b]? = W.heap[b]? := fun b hb hn => by
    rw [hg.block b (by simp; omega) (fun e => hn e.symm)]
    show ((W.alloc (.cells thrZero 58)).alloc (.cells #[.pointer (some ⟨W.heap.size, 0, none⟩)] 36)).heap[b]? = _
    rw [Below.heap_alloc _ _ _ (by simp; omega), Below.heap_alloc _ _ _ hb]
  have hlow : ∀ b, b ≤ m → W6.heap[b]? = W.heap[b]? := fun b hb => hold b (by have := h.o7; omega) fun e => by have := (ownsRow_block h.rows e).1; omega
  have hnew : W6.heap[W.heap.size]? = some (.cells thrZero 58 (0, 0)) := by
    rw [hg.block W.heap.size (by simp; omega) (fun e => by have := (ownsRow_block h.rows e.symm).2; omega)]
    show ((W.alloc (.cells thrZero 58)).alloc (.cells #[.pointer (some ⟨W.heap.size, 0, none⟩)] 36)).heap[W.heap.size]? = _
    rw [Below.heap_alloc _ _ _ (by simp)]
    exact heap_alloc_new _ _
  have hset : ∀ b, b ≠ m → (W6.setCell ⟨m, 3, none⟩ (.slice (some ⟨g', 0, none⟩) (k + 1) cap)).heap[b]? = W6.heap[b]? := fun b hb => Below.heap_setCell _ _ _ _ hb
  have hss : (W6.setCell ⟨m, 3, none⟩ (.slice (some ⟨g', 0, none⟩) (k + 1) cap)).heap.size = W6.heap.size := by simp [World.setCell]
  have hboth : ∀ b, b < m → (W6.setCell ⟨m, 3, none⟩ (.slice (some ⟨g', 0, none⟩) (k + 1) cap)).heap[b]? = W.heap[b]? := fun b hb => (hset b (by omega)).trans (hlow b (by omega))
  have hcm := h.cm.congr (hlow m (Nat.le_refl _))
  have hgm : m + 1 ≤ g' := (ownsRow_block ho (by rfl)).1
  obtain ⟨o0, o1, o2, o3, o4, o5, o6, o7⟩ := And.intro h.o0 (And.intro h.o1 (And.intro h.o2 (And.intro h.o3 (And.intro h.o4 (And.intro h.o5 (And.intro h.o6 h.o7))))))
  have hths : ∀ t, t < k → th t < W.heap.size := fun t ht => (h.ths t ht).2.lt
  refine ⟨⟨hcm.cell 3 (by decide), hcm.frozen 3⟩, ⟨?_, o0, o1, o2, o3, o4, o5, o6, by omega, h.hwc, h.cp.congr (hboth _ (by omega)), h.cwb.congr (hboth _ (by omega)), h.cme.congr (hboth _ (by omega)), h.cgb.congr (hboth _ (by omega)), h.chb.congr (hboth _ (by omega)), h.cg.congr (hboth _ (by omega)), ?_, ?_, ?_, ?_, ?_⟩⟩
  · have hb6 : Below w0.heap.size w0 W6 := by
      refine ⟨?_, ?_, ?_, ?_, fun b hb => ?_⟩
      · exact hg.os.trans h.below.os
      · exact hg.tape.trans h.below.tape
      · exact hg.output.trans h.below.output
      · have := h.below.size; omega
      · rw [hlow b (by omega)]; exact h.below.block b hb
    exact hb6.setCell (by show w0.heap.size ≤ m; omega) _
  · refine (hcm.set 3 _).ext fun i hi => ?_
    match i, hi with
    | 0, _ | 1, _ | 2, _ | 3, _ | 4, _ | 5, _ => rfl
  · rw [show (List.range (k + 1)).map (fun t => ptr (upd th k W.heap.size t)) = (List.range k).map (fun t => ptr (th t)) ++ [ptr W.heap.size] by
      rw [List.range_succ, List.map_append]
      congr 1
      · refine List.map_congr_left fun t ht => ?_
        rw [upd_ne _ _ _ (by have := List.mem_range.1 ht; omega)]
      · simp [upd_same]]
    exact ownsRow_congr ho fun b hb => hset b (by have := (ownsRow_block ho hb).1; omega)
  · intro t ht
    by_cases e : t = k
    · subst e
      rw [upd_same]
      refine ⟨by omega, ?_⟩
      exact Cells.congr ⟨thrZero, hnew, by decide, fun i hi => by
        have : i < thrZero.size := hi
        simp [this]⟩ (hset _ (by omega))
    · rw [upd_ne _ _ _ e]
      have ht' : t < k := by omega
      exact ⟨(h.ths t ht').1, (h.ths t ht').2.congr ((hset _ (by have := (h.ths t ht').1; omega)).trans (hold _ (hths t ht') (h.apart t ht')))⟩
  · intro t t' ht ht' e
    by_cases e1 : t = k
    · by_cases e2 : t' = k
      · omega
      · subst e1
        rw [upd_same, upd_ne _ _ _ e2] at e
        have := hths t' (by omega)
        omega
    · by_cases e2 : t' = k
      · subst e2
        rw [upd_same, upd_ne _ _ _ e1] at e
        have := hths t (by omega)
        omega
      · rw [upd_ne _ _ _ e1, upd_ne _ _ _ e2] at e
        exact h.inj t t' (by omega) (by omega) e
  · intro t ht hq
    simp only [Value.ownBlock, Option.some.injEq] at hq
    by_cases e : t = k
    · subst e
      rw [upd_same] at hq
      rcases ha with ha | ha
      · have := (ownsRow_block h.rows ha).2; omega
      · omega
    · rw [upd_ne _ _ _ e] at hq
      rcases ha with ha | ha
      · exact h.apart t (by omega) (by rw [ha, hq])
      · have := hths t (by omega); omega

theorem Half.thru {w0 : World} {T N nw : Nat} {st : Int} {p wb wc me gb hb g m k : Nat} {tv : Value} {th : Nat → Nat} {W W' : World} (h : Half w0 T N nw st p wb wc me gb hb g m k tv th W) (hb' : Below W.heap.size W W') : Half w0 T N nw st p wb wc me gb hb g m k tv th W' :=
  ⟨h.below.trans ⟨hb'.os, hb'.tape, hb'.output, hb'.size, fun k hk => hb'.block k (Nat.lt_of_lt_of_le hk h.below.size)⟩, h.o0, h.o1, h.o2, h.o3, h.o4, h.o5, h.o6, Nat.lt_of_lt_of_le h.o7 hb'.size, h.hwc, h.cp.congr (hb'.block _ h.cp.lt), h.cwb.congr (hb'.block _ h.cwb.lt), h.cme.congr (hb'.block _ h.cme.lt), h.cgb.congr (hb'.block _ h.cgb.lt), h.chb.congr (hb'.block _ h.chb.lt), h.cg.congr (hb'.block _ h.cg.lt), h.cm.congr (hb'.block _ h.cm.lt), ownsRow_congr h.rows fun b hb => hb'.block b (ownsRow_block h.rows hb).2, fun t ht => ⟨(h.ths t ht).1, (h.ths t ht).2.congr (hb'.block _ (h.ths t ht).2.lt)⟩, h.inj, h.apart⟩

def newTS : TS := { ret := fun _ => 0, joined := false, pinned := false, ended := false, past := 0, v := 0, time := 0, lo := 0, hi := 0, base := 0, top := 0, pos := 0, limit := 0, frames := [], row := [], stack := [] }
/-- A machine that nothing is held of yet. -/
def bareMS (T N : Nat) (st : Int) : MS :=
  { T := T, N := N, stamps := st, nw := 3 + 8 * T + 7 * N, words := linkW T N, acc := 0, mfault := false, gens := fun _ => 0, held := fun _ => false, cnt := 0, slips := 0, th := fun _ => newTS, steps := 0, fault := false }

open Classical in
noncomputable def ownOf (T p wb me gb hb g m tb : Nat) (th : Nat → Nat) (b : Nat) : Role :=
  if b = m then .mach else if b = p then .plan else if b = me then .mem else if b = wb then .words else if b = g then .guard else if b = gb then .gens else if b = hb then .held else if b = tb then .thrs else
  if h : ∃ t, t < T ∧ th t = b then .thr h.choose else .free

theorem Half.rep {w0 : World} {T N : Nat} {st : Int} {p wb wc me gb hb g m : Nat} {tv : Value} {th : Nat → Nat} {W : World} (h : Half w0 T N (3 + 8 * T + 7 * N) st p wb wc me gb hb g m T tv th W)
    (h1 : 1 ≤ T) (h2 : T ≤ 6) (h3 : 7 ≤ N) (h4 : N ≤ 250) :
    ∃ L, L.s.m = m ∧ L.s.g = g ∧ Rep L (bareMS T N st) W ∧ ∀ b, b < w0.heap.size → L.own b = .free := by
  obtain ⟨o0, o1, o2, o3, o4, o5, o6, o7⟩ := And.intro h.o0 (And.intro h.o1 (And.intro h.o2 (And.intro h.o3 (And.intro h.o4 (And.intro h.o5 (And.intro h.o6 h.o7))))))
  have hr := h.rows
  rcases hr.2 with ⟨_, e⟩ | ⟨tb, tc, cur, rfl, t1, t2, t3, t4, t5, t6⟩
  · omega
  have hap : ∀ t, t < T → th t ≠ tb := fun t ht e => h.apart t ht (by rw [e]; rfl)
  have htb : tb < W.heap.size := (Array.getElem?_eq_some_iff.1 t2).1
  have hown : ∀ t, t < T → ownOf T p wb me gb hb g m tb th (th t) = .thr t := by
    intro t ht
    have := (h.ths t ht).1
    have := hap t ht
    have hex : ∃ t', t' < T ∧ th t' = th t := ⟨t, ht, rfl⟩
    unfold ownOf
    rw [if_neg (by omega), if_neg (by omega), if_neg (by omega), if_neg (by omega), if_neg (by omega), if_neg (by omega), if_neg (by omega), if_neg (by omega), dif_pos hex]
    rw [h.inj _ t hex.choose_spec.1 ht hex.choose_spec.2]
  have hfree : ∀ b, (b < p ∨ W.heap.size ≤ b) → ownOf T p wb me gb hb g m tb th b = .free := by
    intro b hb'
    unfold ownOf
    rw [if_neg (by omega), if_neg (by omega), if_neg (by omega), if_neg (by omega), if_neg (by omega), if_neg (by omega), if_neg (by omega), if_neg (by omega), dif_neg]
    rintro ⟨t, ht, e⟩
    have := (h.ths t ht).1
    have := (h.ths t ht).2.lt
    omega
  refine ⟨{ s := { m := m, p := p, me := me, wb := wb, wc := wc, g := g, gb := gb, hb := hb, tb := tb, tc := tc, th := th }, fr := fun _ => [], fv := fun _ => .slice none 0 0, rv := fun _ => .slice none 0 0, sv := fun _ => .slice none 0 0, own := ownOf T p wb me gb hb g m tb th }, rfl, rfl, ?_, fun b hb' => hfree b (by omega)⟩
  refine ⟨h1, h2, h3, h4, rfl, h.hwc, t3, ?_, ?_, ?_, ?_, ?_, ?_, ?_, ?_, fun b hb' => hfree b (.inr hb'), ?_, ?_, ?_, h.cwb, ?_, h.cgb, h.chb, ?_, ?_⟩
  · show ownOf T p wb me gb hb g m tb th m = _
    unfold ownOf; rw [if_pos rfl]
  · show ownOf T p wb me gb hb g m tb th p = _
    unfold ownOf; rw [if_neg (by omega), if_pos rfl]
  · show ownOf T p wb me gb hb g m tb th me = _
    unfold ownOf; rw [if_neg (by omega), if_neg (by omega), if_pos rfl]
  · show ownOf T p wb me gb hb g m tb th wb = _
    unfold ownOf; rw [if_neg (by omega), if_neg (by omega), if_neg (by omega), if_pos rfl]
  · show ownOf T p wb me gb hb g m tb th g = _
    unfold ownOf; rw [if_neg (by omega), if_neg (by omega), if_neg (by omega), if_neg (by omega), if_pos rfl]
  · show ownOf T p wb me gb hb g m tb th gb = _
    unfold ownOf; rw [if_neg (by omega), if_neg (by omega), if_neg (by omega), if_neg (by omega), if_neg (by omega), if_pos rfl]
  · show ownOf T p wb me gb hb g m tb th hb = _
    unfold ownOf; rw [if_neg (by omega), if_neg (by omega), if_neg (by omega), if_neg (by omega), if_neg (by omega), if_neg (by omega), if_pos rfl]
  · show ownOf T p wb me gb hb g m tb th tb = _
    unfold ownOf; rw [if_neg (by omega), if_neg (by omega), if_neg (by omega), if_neg (by omega), if_neg (by omega), if_neg (by omega), if_neg (by omega), if_pos rfl]
  · exact h.cm.ext fun i hi => by
      match i, hi with
      | 0, _ | 1, _ | 2, _ | 3, _ | 4, _ | 5, _ => rfl
  · exact h.cp.ext fun i hi => by
      match i, hi with
      | 0, _ | 1, _ | 2, _ => rfl
  · exact h.cme.ext fun i hi => by
      match i, hi with
      | 0, _ | 1, _ | 2, _ => rfl
  · exact h.cg.ext fun i hi => by
      match i, hi with
      | 0, _ | 1, _ | 2, _ => rfl
  · refine ⟨cur, t2, by show T ≤ cur.size; omega, fun t ht => ?_⟩
    have hh := congrArg (fun l : List Value => l[t]?) t6
    simp only [List.getElem?_map, List.getElem?_range (show t < T from ht), Option.map_some, List.getElem?_take] at hh
    rw [if_pos (by show t < T * 1; have : t < T := ht; omega)] at hh
    simpa using hh
  · intro t ht
    refine ⟨hown t ht, (h.ths t ht).2.ext fun i hi => ?_, ⟨World.ownsRow_nil _ _ _ _, fun b hb => by cases hb⟩, trivial, ⟨World.ownsRow_nil _ _ _ _, fun b hb => by cases hb⟩, ⟨World.ownsRow_nil _ _ _ _, fun b hb => by cases hb⟩⟩
    match i, hi with
    | 0, _ | 1, _ | 2, _ | 3, _ | 4, _ | 5, _ | 6, _ | 7, _ | 8, _ | 9, _ | 10, _ | 11, _ | 12, _ | 13, _ | 14, _ | 15, _ | 16, _ | 17, _ | 18, _ | 19, _ | 20, _ | 21, _ | 22, _ | 23, _ | 24, _ | 25, _ | 26, _ => rfl
    | k + 27, hi => exact absurd hi (by omega)

/-- A machine on its way, and what was there before it. -/
structure Took (w0 : World) (T N : Nat) (st : Int) (L : Lay) (S : MS) (W : World) : Prop where
  rep : Rep L S W
  free : ∀ b, b < w0.heap.size → L.own b = .free
  below : Below w0.heap.size w0 W
theorem Took.alloc {w0 : World} {T N : Nat} {st : Int} {L : Lay} {S : MS} {W : World} (h : Took w0 T N st L S W) (o : Obj) : Took w0 T N st L S (W.alloc o) := ⟨h.rep.alloc o, h.free, h.below.alloc h.below.size o⟩
theorem Took.drew {w0 : World} {T N : Nat} {st : Int} {L : Lay} {S : MS} {W : World} (h : Took w0 T N st L S W) : Took w0 T N st L S W.drew := ⟨h.rep.drew, h.free, ⟨h.below.os, h.below.tape, h.below.output, h.below.size, h.below.block⟩⟩
theorem Took.moved {w0 : World} {T N : Nat} {st : Int} {L : Lay} {S S' : MS} {W W' : World} (h : Took w0 T N st L S W) (hr : Rep L S' W') (hk : Kept L W W') : Took w0 T N st L S' W' :=
  ⟨hr, h.free, ⟨hk.os.trans h.below.os, hk.tape.trans h.below.tape, hk.output.trans h.below.output, Nat.le_trans h.below.size hk.size, fun b hb => (hk.block b (Nat.lt_of_lt_of_le hb h.below.size) (h.free b hb)).trans (h.below.block b hb)⟩⟩
theorem take_le {S : MS} {s : Int} {n : Nat} (h : S.cnt ≤ n) : (S.take s).cnt ≤ n + 1 := by
  simp only [MS.take]
  split <;> omega
/-- A machine at first. -/
def startMS (T N : Nat) (st : Int) : MS := (((((bareMS T N st).take 1).take 2).take 3).take 4).take 5
def Started (w : World) (T N : Nat) (st : Int) (e : Ending) (w' : World) : Prop :=
  ∃ L, e = .returned (.tuple #[.pointer (some ⟨L.s.m, 0, none⟩), .int .i64 0]) ∧ Took w T N st L (startMS T N st) w'

def confV (T N : Nat) (st : Int) : Value := .agg #[.int .i64 T, .int .i64 N, .int .u64 st]

theorem info_thrp : (Try.prog.info? 36).map (fun i => (i.zero, i.size, i.bytes)) = some (some (.pointer none), 1, 8) := by kernel_rfl
theorem below_cell {B : Nat} {a b : World} (h : Below B a b) {k i : Nat} (hk : k < B) {v : Value} (hc : a.cell? ⟨k, i, none⟩ = some v) : b.cell? ⟨k, i, none⟩ = some v := by
  unfold World.cell? at *
  rw [h.block k hk]
  exact hc
theorem Cells.below {w w' : World} {b : Nat} {ty : TypeId} {n : Nat} {f : Nat → Value} (h : Cells w b ty n f) (hb : Below w.heap.size w w') : Cells w' b ty n f := h.congr (hb.block b h.lt)
theorem below_le {B C : Nat} {a b : World} (h : Below C a b) (hB : B ≤ C) : Below B a b := ⟨h.os, h.tape, h.output, h.size, fun k hk => h.block k (by omega)⟩
theorem below_drew {B : Nat} {a b : World} (h : Below B a b) : Below B a b.drew := ⟨h.os, h.tape, h.output, h.size, h.block⟩

set_option maxRecDepth 100000 in
set_option maxHeartbeats 4000000 in
theorem core_New (w : World) (T N : Nat) (st : Int) (h1 : 1 ≤ T) (h2 : T ≤ 6) (h3 : 7 ≤ N) (h4 : N ≤ 250) (h5 : 1 ≤ st) (h6 : st ≤ 1099511627776) :
    Calls Try.prog 6 #[.agg #[.int .i64 T, .int .i64 N, .int .u64 st]] w fun e w' => Started w T N st e w' := by
  obtain ⟨nw, hnw⟩ : ∃ nw, nw = 3 + 8 * T + 7 * N := ⟨_, rfl⟩
  have HN := Lib.hid hnw
  have hn1 : 1 ≤ nw := by omega
  have hn2 : nw ≤ 4096 := by omega
  clear hnw
  go_enter Try.func6, Try.ntmps6
  go_wp2_with (go_at_call 22; refine (plan_New_yes T N st _ (by omega) (by omega) (by omega) (by omega) h5 h6).mono ?_; rintro e w1 ⟨rfl, rfl⟩)
  obtain ⟨u, hu⟩ : ∃ u, u = ((((w.alloc (.cells #[.int .i64 T, .int .i64 N, .int .u64 st] 24)).alloc (.cells #[.int .i64 T, .int .i64 N, .int .u64 st] 24)).alloc (.cells #[.int .i64 T, .int .i64 N, .int .u64 st] 24)).alloc (.cells #[.int .i64 T, .int .i64 N, .int .u64 st] 103)) := ⟨_, rfl⟩
  rw [← hu]
  have hus : u.heap.size = w.heap.size + 4 := by rw [hu]; simp
  have hub : Below w.heap.size w u := by rw [hu]; exact ((((Below.refl _ _).alloc (Nat.le_refl _) _).alloc (by simp) _).alloc (by simp; omega) _).alloc (by simp; omega) _
  have hup : PlanAt u (w.heap.size + 3) T N st := by
    rw [hu]
    have := Cells.new (((w.alloc (.cells #[.int .i64 T, .int .i64 N, .int .u64 st] 24)).alloc (.cells #[.int .i64 T, .int .i64 N, .int .u64 st] 24)).alloc (.cells #[.int .i64 T, .int .i64 N, .int .u64 st] 24)) #[.int .i64 T, .int .i64 N, .int .u64 st] 103 3 (fun i => match i with | 0 => .int .i64 T | 1 => .int .i64 N | _ => .int .u64 st) (by simp) (fun i hi => by match i, hi with | 0, _ | 1, _ | 2, _ => rfl)
    rw [show (((w.alloc (.cells #[.int .i64 T, .int .i64 N, .int .u64 st] 24)).alloc (.cells #[.int .i64 T, .int .i64 N, .int .u64 st] 24)).alloc (.cells #[.int .i64 T, .int .i64 N, .int .u64 st] 24)).heap.size = w.heap.size + 3 by simp] at this
    exact this
  have hcf : Cells u w.heap.size 24 3 (fun i => match i with | 0 => .int .i64 T | 1 => .int .i64 N | _ => .int .u64 st) := by
    rw [hu]
    exact (((Cells.new w #[.int .i64 T, .int .i64 N, .int .u64 st] 24 3 _ (by simp) (fun i hi => by match i, hi with | 0, _ | 1, _ | 2, _ => rfl)).alloc _).alloc _).alloc _
  have c0 : u.cell? ⟨w.heap.size, 0, none⟩ = some (.int .i64 T) := hcf.cell 0 (by decide)
  have c1 : u.cell? ⟨w.heap.size, 1, none⟩ = some (.int .i64 N) := hcf.cell 1 (by decide)
  clear hu
  have HUB := Lib.hid hub
  have HUP := Lib.hid hup
  have HUS := Lib.hid hus
  have C1 := Lib.hid c1
  have C0 := Lib.hid c0
  clear hub hup hus c0 hcf
  rw [show w.heap.size + 1 + 2 = w.heap.size + 3 from rfl]
  go_region_held3 (fun W => W.cell? ⟨w.heap.size, 1, none⟩ = some (.int .i64 N)) (go_keep) (first | (go_at_call 24; refine (core_words (w := u.drew) (p := w.heap.size + 3) (T := T) (N := N) (nw := nw) (st := st) (HUP.out.congr rfl) h1 h2 h3 h4 HN.out).mono ?_; rintro e w2 ⟨B, rfl, hB1, hB2, hB3⟩; have d1 := below_cell hB3 (show w.heap.size < u.drew.heap.size by show _ < u.heap.size; rw [HUS.out]; omega) (show u.drew.cell? _ = _ from C1.out); have HB := Lib.hid (And.intro hB1 (And.intro hB2 hB3)); have D1 := Lib.hid d1; clear hB1 hB2 hB3) | (go_at_call 23; refine (mem_Of HB.out.2.1 hn1 hn2).mono ?_; rintro e w3 ⟨me, wb, wc, rfl, hM⟩; have d2 := below_cell hM.2.2.2.2.2.2 (show w.heap.size < w2.heap.size by have := HB.out.2.2.size; have q := HUS.out; have : u.heap.size ≤ w2.heap.size := this; omega) D1.out; have HM := Lib.hid hM; have D2 := Lib.hid d2; clear hM) | (go_at_call 25; refine (guard_New w3 N (by omega) h4).mono ?_; rintro e w4 ⟨g, gb, hb, rfl, hG⟩; have d3 := below_cell hG.2.2.2.2.2.2.2 (show w.heap.size < w3.heap.size by have := HB.out.2.2.size; have := HM.out.2.2.2.2.2.2.size; have q := HUS.out; have : u.heap.size ≤ w2.heap.size := (by assumption); omega) D2.out; have HG := Lib.hid hG; have D3 := Lib.hid d3; clear hG))
  obtain ⟨u5, hu5⟩ : ∃ v, v = w4.alloc (.cells #[.pointer (some ⟨w.heap.size + 3, 0, none⟩), .pointer (some ⟨me, 0, none⟩), .pointer (some ⟨g, 0, none⟩), .slice none 0 0, .int .i64 0, .bool false] 76) := ⟨_, rfl⟩
  rw [← hu5]
  have hus := HUS.out
  obtain ⟨hB1, hB2, hB3⟩ := HB.out
  obtain ⟨hM1, hM2, hM3, hM4, hM5, hM6, hM7⟩ := HM.out
  obtain ⟨hG1, hG2, hG3, hG4, hG5, hG6, hG7, hG8⟩ := HG.out
  have s2 : u.heap.size ≤ w2.heap.size := hB3.size
  have s3 := hM7.size
  have s4 := hG8.size
  have b5 : Below w4.heap.size w4 u5 := by rw [hu5]; exact (Below.refl _ _).alloc (Nat.le_refl _) _
  have s5 : u5.heap.size = w4.heap.size + 1 := by rw [hu5]; simp
  have b2 : Below u.heap.size u w2 := ⟨hB3.os, hB3.tape, hB3.output, hB3.size, hB3.block⟩
  have b3 : Below u.heap.size u w3 := b2.trans (below_le hM7 s2)
  have b4 : Below u.heap.size u w4 := b3.trans (below_le hG8 (by omega))
  have b6 : Below u.heap.size u u5 := b4.trans (below_le b5 (by omega))
  have hH : Half w T N nw st (w.heap.size + 3) wb wc me gb hb g w4.heap.size 0 (.slice none 0 0) (fun _ => 0) u5 := by
    refine ⟨HUB.out.trans (below_le b6 (by omega)), by omega, by omega, hM3, by omega, hG2, hG3, hG4, by omega, hM1, HUP.out.below b6, (hM5.below hG8).below b5, (hM6.below hG8).below b5, hG5.below b5, hG6.congr (b5.block _ hG6.lt), hG7.below b5, ?_, World.ownsRow_nil _ _ _ _, fun t h => absurd h (by omega), fun t t' h => absurd h (by omega), fun t h => absurd h (by omega)⟩
    rw [hu5]
    exact Cells.new w4 _ _ _ _ (by simp) (fun i hi => by match i, hi with | 0, _ | 1, _ | 2, _ | 3, _ | 4, _ | 5, _ => rfl)
  have c0 := below_cell b6 (show w.heap.size < u.heap.size by omega) C0.out
  clear c1 d1 d2 d3 hu5 hB1 hB2 hB3 hM1 hM2 hM3 hM4 hM5 hM6 hM7 hG1 hG2 hG3 hG4 hG5 hG6 hG7 hG8 s2 s3 s4 b5 s5 b2 b3 b4 b6 hus HB HM HG D1 D2 D3 C1 C0 HUP HUB HUS
  have H := Lib.hid hH
  clear hH
  go_wp2_with fail
  clear c0
  generalize w.heap.size + 3 = p at *
  generalize w4.heap.size = m at *
  go_loopw [30] (fun vi W => ∃ (k : Nat) (tv : Value) (th : Nat → Nat), vi = .int .i64 k ∧ k ≤ T ∧ Hid (Half w T N nw st p wb wc me gb hb g m k tv th W)) (fun vi _ => T - (intOf vi).toNat)
  case atStart => exact ⟨0, _, _, rfl, Nat.zero_le _, H⟩
  case round =>
    obtain ⟨k, tv, th, rfl, hkT, HK⟩ := hrel
    clear H
    by_cases hk : k < T
    · have hkI : (k : Int) < T := by omega
      have c3 := HK.out.cm.cell 3 (by decide)
      have f3 := HK.out.cm.frozen 3
      have hm := HK.out.o7
      simp only at c3
      obtain ⟨i0, hi, hz0, hz1, hz2⟩ := info_parts info_thrp
      go_wp2_with fail
      go_region_law (first | (refine step_append_lies _ rfl (.tmp 36) (.tmp 38) 74 rfl (m + 1) 36 i0 (.pointer none) 1 8 Try.underlying74 hi hz0 hz1 hz2 rfl (by decide) tv k ((List.range k).map fun t => ptr (th t)) rfl (by first | exact ((HK.out.rows.alloc _).alloc _).drew | exact ((HK.out.rows.drew.alloc _).alloc _)) ⟨wr.heap.size + 1, 0, none⟩ 1 1 [ptr wr.heap.size] rfl rfl (by intro j u hj; match j, hj with | 0, hj => simp at hj; subst hj; simp [Addr.add, ptr]) (by intro u hu; simp at hu; subst hu; rfl) (by decide) (by unfold maxLen; omega) (by omega) (by simp <;> omega) (wr.heap.size + 2) (by simp) ?_; intro g' cap w6 hown6 hgrow6 hat6 hlt6; have H6 := Lib.hid (And.intro hown6 (And.intro hgrow6 hat6)); have c36 : w6.cell? ⟨m, 3, none⟩ = some tv := (HK.out.next hown6 hgrow6 hat6).1.1; have f36 : w6.frozen? ⟨m, 3, none⟩ = false := (HK.out.next hown6 hgrow6 hat6).1.2; clear hown6 hgrow6 hat6) | (go_simp; refine (frame_New _).mono ?_; rintro e wq ⟨rfl, rfl⟩; dsimp only))
      all_goals (go_wp2_with fail; go_roundw)
      all_goals first | exact ⟨k + 1, _, _, by go_num, by omega, (HK.out.next H6.out.1 H6.out.2.1 H6.out.2.2).2⟩ | (simp [intOf]; omega)
    · have hkI : ¬ (k : Int) < T := by omega
      go_wp2_with fail
      refine (core_tree _).mono ?_
      rintro e w7 ⟨rfl, hb7⟩
      have hkT' : k = T := by omega
      subst hkT'
      have hH7 := HK.out.thru hb7
      rw [HN.out] at hH7
      obtain ⟨L, hm7, hg7, hr7, hf7⟩ := hH7.rep h1 h2 h3 h4
      have HT := Lib.hid (show Took w k N st L (bareMS k N st) w7 from ⟨hr7, hf7, hH7.below⟩)
      clear hb7 hH7 hr7 hf7 HK
      subst hm7 hg7
      go_wp2_with fail
      refine wp_loop_rounds 6 ?_
      rw [rounds_succ]
      have q0 := tree_ix0
      go_wp2_with fail
      clear q0
      obtain ⟨x0, hv⟩ : ∃ v, v = w7.alloc (.cells #[.int .i64 1, .bool false, .int .i64 3, .int .i64 2, .int .i64 5] 79) := ⟨_, rfl⟩
      rw [← hv]
      have V := Lib.hid (show Took w k N st L (bareMS k N st) x0 by rw [hv]; exact HT.out.alloc _)
      have a0 : x0.cell? ⟨w7.heap.size, 0, none⟩ = some (.int .i64 1) := by rw [hv]; simp
      have A0 := Lib.hid a0
      have HO := Lib.hid (show L.own w7.heap.size = .free from HT.out.rep.fresh _ (Nat.le_refl _))
      have a2 : x0.cell? ⟨L.s.m, 2, none⟩ = some (.pointer (some ⟨L.s.g, 0, none⟩)) := V.out.rep.cm.cell 2 (by decide)
      clear hv HT
      go_region_held3 (fun W => W.cell? ⟨L.s.m, 2, none⟩ = some (.pointer (some ⟨L.s.g, 0, none⟩)) ∧ W.cell? ⟨w7.heap.size, 0, none⟩ = some (.int .i64 1)) (go_keep) (first | (go_at_call 28; refine (guard_Take (L := L) (S := (bareMS k N st)) V.out.rep.drew 1 (Nat.le_trans (show (bareMS k N st).cnt ≤ 0 from Nat.le_refl 0) (by decide))).mono ?_; rintro e y0 ⟨rfl, hr, hk⟩; have HT0 := Lib.hid (V.out.drew.moved hr hk); have b2 : y0.cell? ⟨L.s.m, 2, none⟩ = some (.pointer (some ⟨L.s.g, 0, none⟩)) := hr.cm.cell 2 (by decide); have b0 := hk.cell HO.out A0.out; clear hr hk))
      go_wp2_with fail
      clear a0 a2 b0 b2 A0 HO V
      rw [rounds_succ]
      have q0 := tree_ix1
      go_wp2_with fail
      clear q0
      obtain ⟨x1, hv⟩ : ∃ v, v = y0.alloc (.cells #[.int .i64 2, .bool false, .int .i64 2, .int .i64 3, .int .i64 4] 79) := ⟨_, rfl⟩
      rw [← hv]
      have V := Lib.hid (show Took w k N st L ((bareMS k N st).take 1) x1 by rw [hv]; exact HT0.out.alloc _)
      have a0 : x1.cell? ⟨y0.heap.size, 0, none⟩ = some (.int .i64 2) := by rw [hv]; simp
      have A0 := Lib.hid a0
      have HO := Lib.hid (show L.own y0.heap.size = .free from HT0.out.rep.fresh _ (Nat.le_refl _))
      have a2 : x1.cell? ⟨L.s.m, 2, none⟩ = some (.pointer (some ⟨L.s.g, 0, none⟩)) := V.out.rep.cm.cell 2 (by decide)
      clear hv HT0
      go_region_held3 (fun W => W.cell? ⟨L.s.m, 2, none⟩ = some (.pointer (some ⟨L.s.g, 0, none⟩)) ∧ W.cell? ⟨y0.heap.size, 0, none⟩ = some (.int .i64 2)) (go_keep) (first | (go_at_call 28; refine (guard_Take (L := L) (S := ((bareMS k N st).take 1)) V.out.rep.drew 2 (Nat.le_trans (take_le (show (bareMS k N st).cnt ≤ 0 from Nat.le_refl 0)) (by decide))).mono ?_; rintro e y1 ⟨rfl, hr, hk⟩; have HT1 := Lib.hid (V.out.drew.moved hr hk); have b2 : y1.cell? ⟨L.s.m, 2, none⟩ = some (.pointer (some ⟨L.s.g, 0, none⟩)) := hr.cm.cell 2 (by decide); have b0 := hk.cell HO.out A0.out; clear hr hk))
      go_wp2_with fail
      clear a0 a2 b0 b2 A0 HO V
      rw [rounds_succ]
      have q0 := tree_ix2
      go_wp2_with fail
      clear q0
      obtain ⟨x2, hv⟩ : ∃ v, v = y1.alloc (.cells #[.int .i64 3, .bool true, .int .i64 1, .int .i64 0, .int .i64 0] 79) := ⟨_, rfl⟩
      rw [← hv]
      have V := Lib.hid (show Took w k N st L (((bareMS k N st).take 1).take 2) x2 by rw [hv]; exact HT1.out.alloc _)
      have a0 : x2.cell? ⟨y1.heap.size, 0, none⟩ = some (.int .i64 3) := by rw [hv]; simp
      have A0 := Lib.hid a0
      have HO := Lib.hid (show L.own y1.heap.size = .free from HT1.out.rep.fresh _ (Nat.le_refl _))
      have a2 : x2.cell? ⟨L.s.m, 2, none⟩ = some (.pointer (some ⟨L.s.g, 0, none⟩)) := V.out.rep.cm.cell 2 (by decide)
      clear hv HT1
      go_region_held3 (fun W => W.cell? ⟨L.s.m, 2, none⟩ = some (.pointer (some ⟨L.s.g, 0, none⟩)) ∧ W.cell? ⟨y1.heap.size, 0, none⟩ = some (.int .i64 3)) (go_keep) (first | (go_at_call 28; refine (guard_Take (L := L) (S := (((bareMS k N st).take 1).take 2)) V.out.rep.drew 3 (Nat.le_trans (take_le (take_le (show (bareMS k N st).cnt ≤ 0 from Nat.le_refl 0))) (by decide))).mono ?_; rintro e y2 ⟨rfl, hr, hk⟩; have HT2 := Lib.hid (V.out.drew.moved hr hk); have b2 : y2.cell? ⟨L.s.m, 2, none⟩ = some (.pointer (some ⟨L.s.g, 0, none⟩)) := hr.cm.cell 2 (by decide); have b0 := hk.cell HO.out A0.out; clear hr hk))
      go_wp2_with fail
      clear a0 a2 b0 b2 A0 HO V
      rw [rounds_succ]
      have q0 := tree_ix3
      go_wp2_with fail
      clear q0
      obtain ⟨x3, hv⟩ : ∃ v, v = y2.alloc (.cells #[.int .i64 4, .bool true, .int .i64 2, .int .i64 0, .int .i64 0] 79) := ⟨_, rfl⟩
      rw [← hv]
      have V := Lib.hid (show Took w k N st L ((((bareMS k N st).take 1).take 2).take 3) x3 by rw [hv]; exact HT2.out.alloc _)
      have a0 : x3.cell? ⟨y2.heap.size, 0, none⟩ = some (.int .i64 4) := by rw [hv]; simp
      have A0 := Lib.hid a0
      have HO := Lib.hid (show L.own y2.heap.size = .free from HT2.out.rep.fresh _ (Nat.le_refl _))
      have a2 : x3.cell? ⟨L.s.m, 2, none⟩ = some (.pointer (some ⟨L.s.g, 0, none⟩)) := V.out.rep.cm.cell 2 (by decide)
      clear hv HT2
      go_region_held3 (fun W => W.cell? ⟨L.s.m, 2, none⟩ = some (.pointer (some ⟨L.s.g, 0, none⟩)) ∧ W.cell? ⟨y2.heap.size, 0, none⟩ = some (.int .i64 4)) (go_keep) (first | (go_at_call 28; refine (guard_Take (L := L) (S := ((((bareMS k N st).take 1).take 2).take 3)) V.out.rep.drew 4 (Nat.le_trans (take_le (take_le (take_le (show (bareMS k N st).cnt ≤ 0 from Nat.le_refl 0)))) (by decide))).mono ?_; rintro e y3 ⟨rfl, hr, hk⟩; have HT3 := Lib.hid (V.out.drew.moved hr hk); have b2 : y3.cell? ⟨L.s.m, 2, none⟩ = some (.pointer (some ⟨L.s.g, 0, none⟩)) := hr.cm.cell 2 (by decide); have b0 := hk.cell HO.out A0.out; clear hr hk))
      go_wp2_with fail
      clear a0 a2 b0 b2 A0 HO V
      rw [rounds_succ]
      have q0 := tree_ix4
      go_wp2_with fail
      clear q0
      obtain ⟨x4, hv⟩ : ∃ v, v = y3.alloc (.cells #[.int .i64 5, .bool true, .int .i64 3, .int .i64 0, .int .i64 0] 79) := ⟨_, rfl⟩
      rw [← hv]
      have V := Lib.hid (show Took w k N st L (((((bareMS k N st).take 1).take 2).take 3).take 4) x4 by rw [hv]; exact HT3.out.alloc _)
      have a0 : x4.cell? ⟨y3.heap.size, 0, none⟩ = some (.int .i64 5) := by rw [hv]; simp
      have A0 := Lib.hid a0
      have HO := Lib.hid (show L.own y3.heap.size = .free from HT3.out.rep.fresh _ (Nat.le_refl _))
      have a2 : x4.cell? ⟨L.s.m, 2, none⟩ = some (.pointer (some ⟨L.s.g, 0, none⟩)) := V.out.rep.cm.cell 2 (by decide)
      clear hv HT3
      go_region_held3 (fun W => W.cell? ⟨L.s.m, 2, none⟩ = some (.pointer (some ⟨L.s.g, 0, none⟩)) ∧ W.cell? ⟨y3.heap.size, 0, none⟩ = some (.int .i64 5)) (go_keep) (first | (go_at_call 28; refine (guard_Take (L := L) (S := (((((bareMS k N st).take 1).take 2).take 3).take 4)) V.out.rep.drew 5 (Nat.le_trans (take_le (take_le (take_le (take_le (show (bareMS k N st).cnt ≤ 0 from Nat.le_refl 0))))) (by decide))).mono ?_; rintro e y4 ⟨rfl, hr, hk⟩; have HT4 := Lib.hid (V.out.drew.moved hr hk); have b2 : y4.cell? ⟨L.s.m, 2, none⟩ = some (.pointer (some ⟨L.s.g, 0, none⟩)) := hr.cm.cell 2 (by decide); have b0 := hk.cell HO.out A0.out; clear hr hk))
      go_wp2_with fail
      clear a0 a2 b0 b2 A0 HO V
      rw [rounds_succ]
      go_wp2_with fail
      go_ret2
      exact ⟨L, rfl, HT4.out⟩
end Go.Proofs.Ytjnikgliecgbdaa
