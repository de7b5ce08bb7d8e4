/- The machine as a plain state, and what it is for a world to hold one: which block is whose, and what each cell reads as. -/
import Derived.Test.YtjnikgliecgbdaaProg
import Derived.Test.YtjnikgliecgbdaaBits
import Derived.WalkKit
import Derived.Maps.OwnSet
import Derived.Maps.OwnOps
import Derived.Deep.AppendLies
import Derived.WalkSmall
namespace Go.Proofs.Ytjnikgliecgbdaa
open Go.RowKit

/-! ### The state -/
/-- A routine that a thread is within. -/
structure FS where
  fn : Int
  pc : Int
  r : Nat → Int

/-- A thread. Its frames: the top one first. -/
structure TS where
  ret : Nat → Int
  joined : Bool
  pinned : Bool
  ended : Bool
  past : Int
  v : Int
  time : Int
  lo : Int
  hi : Int
  base : Int
  top : Int
  pos : Int
  limit : Int
  frames : List FS
  row : List (Int × Int)
  stack : List Int

structure MS where
  T : Nat
  N : Nat
  stamps : Int
  nw : Nat
  words : Nat → Int
  acc : Int
  mfault : Bool
  gens : Nat → Int
  held : Nat → Bool
  cnt : Nat
  slips : Int
  th : Nat → TS
  steps : Int
  fault : Bool

def upd {α : Type} (f : Nat → α) (i : Nat) (v : α) : Nat → α := fun j => if j = i then v else f j
theorem upd_same {α : Type} (f : Nat → α) (i : Nat) (v : α) : upd f i v i = v := by simp [upd]
theorem upd_ne {α : Type} (f : Nat → α) (i : Nat) (v : α) {j : Nat} (h : j ≠ i) : upd f i v j = f j := by simp [upd, h]

/-! ### Blocks -/
inductive Role where
  | free | mach | plan | mem | words | guard | gens | held | thrs
  | thr (t : Nat) | frames (t : Nat) | frame (t i : Nat) | row (t : Nat) | stack (t : Nat)
  deriving DecidableEq

def ptr (b : Nat) : Value := .pointer (some ⟨b, 0, none⟩)

/-- Block b is a row of cells of a type, not frozen, of which the first n read as f says. -/
def Cells (w : World) (b : Nat) (ty : TypeId) (n : Nat) (f : Nat → Value) : Prop :=
  ∃ arr : Array Value, w.heap[b]? = some (.cells arr ty (0, 0)) ∧ n ≤ arr.size ∧ ∀ i, i < n → arr[i]? = some (f i)

theorem Cells.cell {w : World} {b : Nat} {ty : TypeId} {n : Nat} {f : Nat → Value} (h : Cells w b ty n f) (i : Nat) (hi : i < n) : w.cell? ⟨b, i, none⟩ = some (f i) := by
  obtain ⟨arr, hb, _, hf⟩ := h
  simp [World.cell?, hb, hf i hi]
theorem Cells.frozen {w : World} {b : Nat} {ty : TypeId} {n : Nat} {f : Nat → Value} (h : Cells w b ty n f) (i : Nat) : w.frozen? ⟨b, i, none⟩ = false := by
  obtain ⟨arr, hb, _, _⟩ := h
  simp [World.frozen?, hb]
theorem Cells.lt {w : World} {b : Nat} {ty : TypeId} {n : Nat} {f : Nat → Value} (h : Cells w b ty n f) : b < w.heap.size := by
  obtain ⟨arr, hb, _, _⟩ := h
  exact (Array.getElem?_eq_some_iff.1 hb).1
theorem Cells.congr {w w' : World} {b : Nat} {ty : TypeId} {n : Nat} {f : Nat → Value} (h : Cells w b ty n f) (hw : w'.heap[b]? = w.heap[b]?) : Cells w' b ty n f := by
  obtain ⟨arr, hb, r⟩ := h
  exact ⟨arr, hw.trans hb, r⟩
theorem Cells.set {w : World} {b : Nat} {ty : TypeId} {n : Nat} {f : Nat → Value} (h : Cells w b ty n f) (i : Nat) (v : Value) : Cells (w.setCell ⟨b, i, none⟩ v) b ty n (upd f i v) := by
  obtain ⟨arr, hb, hn, hf⟩ := h
  refine ⟨arr.setIfInBounds i v, ?_, by simpa using hn, fun j hj => ?_⟩
  · simp [World.setCell, Array.getElem?_modify, hb]
  · by_cases e : j = i
    · subst e; rw [upd_same, Array.getElem?_setIfInBounds_self]; simp; omega
    · rw [upd_ne _ _ _ e, Array.getElem?_setIfInBounds_ne (Ne.symm e)]; exact hf j hj
theorem Cells.ext {w : World} {b : Nat} {ty : TypeId} {n : Nat} {f g : Nat → Value} (h : Cells w b ty n f) (hfg : ∀ i, i < n → f i = g i) : Cells w b ty n g := by
  obtain ⟨arr, hb, hn, hf⟩ := h
  exact ⟨arr, hb, hn, fun i hi => by rw [hf i hi, hfg i hi]⟩
theorem Cells.set_ne {w : World} {b : Nat} {ty : TypeId} {n : Nat} {f : Nat → Value} (h : Cells w b ty n f) {a : Addr} (ha : b ≠ a.block) (v : Value) : Cells (w.setCell a v) b ty n f :=
  h.congr (Below.heap_setCell _ _ _ _ ha)
theorem Cells.alloc {w : World} {b : Nat} {ty : TypeId} {n : Nat} {f : Nat → Value} (h : Cells w b ty n f) (o : Obj) : Cells (w.alloc o) b ty n f :=
  h.congr (Below.heap_alloc _ _ _ h.lt)
theorem Cells.new (w : World) (arr : Array Value) (ty : TypeId) (n : Nat) (f : Nat → Value) (hn : n ≤ arr.size) (hf : ∀ i, i < n → arr[i]? = some (f i)) : Cells (w.alloc (.cells arr ty (0, 0))) w.heap.size ty n f :=
  ⟨arr, by show (w.heap.push _)[w.heap.size]? = _; simp, hn, hf⟩

/-! ### The layout -/
/-- What never moves. -/
structure Stat where
  m : Nat
  p : Nat
  me : Nat
  wb : Nat
  wc : Nat
  g : Nat
  gb : Nat
  hb : Nat
  tb : Nat
  tc : Nat
  th : Nat → Nat

structure Lay where
  s : Stat
  fr : Nat → List Nat
  fv : Nat → Value
  rv : Nat → Value
  sv : Nat → Value
  own : Nat → Role

def machCell (s : Stat) (S : MS) : Nat → Value
  | 0 => ptr s.p
  | 1 => ptr s.me
  | 2 => ptr s.g
  | 3 => .slice (some ⟨s.tb, 0, none⟩) S.T s.tc
  | 4 => .int .i64 S.steps
  | _ => .bool S.fault
def planCell (S : MS) : Nat → Value
  | 0 => .int .i64 S.T
  | 1 => .int .i64 S.N
  | _ => .int .u64 S.stamps
def memCell (s : Stat) (S : MS) : Nat → Value
  | 0 => .slice (some ⟨s.wb, 0, none⟩) S.nw s.wc
  | 1 => .int .i64 S.acc
  | _ => .bool S.mfault
def guardCell (s : Stat) (S : MS) : Nat → Value
  | 0 => .slice (some ⟨s.gb, 0, none⟩) (S.N + 1) (S.N + 1)
  | 1 => .map (some s.hb)
  | _ => .int .i64 S.slips
def frCell (f : FS) : Nat → Value
  | 0 => .int .i64 f.fn
  | 1 => .int .i64 f.pc
  | i + 2 => .int .u64 (f.r i)
def thrCell (x : TS) (fv rv sv : Value) : Nat → Value
  | 12 => .bool x.joined
  | 13 => .bool x.pinned
  | 14 => .bool x.ended
  | 15 => .int .u64 x.past
  | 16 => .int .u64 x.v
  | 17 => .int .u64 x.time
  | 18 => .int .i64 x.lo
  | 19 => .int .i64 x.hi
  | 20 => .int .i64 x.base
  | 21 => .int .i64 x.top
  | 22 => .int .i64 x.pos
  | 23 => .int .i64 x.limit
  | 24 => fv
  | 25 => rv
  | 26 => sv
  | i => .int .u64 (x.ret i)

/-- A thread's frames: the top one first. -/
def Frs (own : Nat → Role) (w : World) (t : Nat) : List Nat → List FS → Prop
  | [], [] => True
  | b :: bs, f :: fs => own b = .frame t fs.length ∧ Cells w b 46 26 (frCell f) ∧ Frs own w t bs fs
  | _, _ => False

/-- The map of what is held. -/
def HeldIs (w : World) (b : Nat) (held : Nat → Bool) (cnt : Nat) : Prop :=
  ∃ D : DataW Unit, w.ownsMap Try.prog 3 (plainElem Try.prog 22) b cnt D ∧ Maps.size D = cnt ∧
    ∀ s : Nat, Maps.has D (.int .i64 s) = held s ∧ D.atKey (.int .i64 s) (.lit (.int .u64 0)) = .lit (.int .u64 (if held s then 1 else 0))

/-- A row that a value owns, and whose it is. -/
def RowIs (own : Nat → Role) (r : Role) (w : World) (ty : TypeId) (size : Nat) (v : Value) (n : Nat) (xs : List Value) : Prop :=
  w.ownsRow 0 ty size v n xs ∧ ∀ b, v.ownBlock = some b → own b = r

def pairCells : List (Int × Int) → List Value
  | [] => []
  | (k, v) :: l => .int .i64 k :: .int .i64 v :: pairCells l

structure ThrIs (L : Lay) (w : World) (t : Nat) (x : TS) : Prop where
  own : L.own (L.s.th t) = .thr t
  cells : Cells w (L.s.th t) 58 27 (thrCell x (L.fv t) (L.rv t) (L.sv t))
  frames : RowIs L.own (.frames t) w 42 1 (L.fv t) x.frames.length ((L.fr t).reverse.map ptr)
  frs : Frs L.own w t (L.fr t) x.frames
  row : RowIs L.own (.row t) w 148 2 (L.rv t) x.row.length (pairCells x.row)
  stack : RowIs L.own (.stack t) w 22 1 (L.sv t) x.stack.length (x.stack.map (Value.int .u64))

/-- The world holds a machine. -/
structure Rep (L : Lay) (S : MS) (w : World) : Prop where
  T1 : 1 ≤ S.T
  T6 : S.T ≤ 6
  N7 : 7 ≤ S.N
  N250 : S.N ≤ 250
  nw : S.nw = 3 + 8 * S.T + 7 * S.N
  nwc : S.nw ≤ L.s.wc
  Ttc : S.T ≤ L.s.tc
  om : L.own L.s.m = .mach
  op : L.own L.s.p = .plan
  ome : L.own L.s.me = .mem
  owb : L.own L.s.wb = .words
  og : L.own L.s.g = .guard
  ogb : L.own L.s.gb = .gens
  ohb : L.own L.s.hb = .held
  otb : L.own L.s.tb = .thrs
  fresh : ∀ b, w.heap.size ≤ b → L.own b = .free
  cm : Cells w L.s.m 76 6 (machCell L.s S)
  cp : Cells w L.s.p 103 3 (planCell S)
  cme : Cells w L.s.me 106 3 (memCell L.s S)
  cwb : Cells w L.s.wb 22 S.nw (fun a => .int .u64 (S.words a))
  cg : Cells w L.s.g 97 3 (guardCell L.s S)
  cgb : Cells w L.s.gb 22 (S.N + 1) (fun a => .int .u64 (S.gens a))
  chb : HeldIs w L.s.hb S.held S.cnt
  ctb : Cells w L.s.tb 36 S.T (fun t => ptr (L.s.th t))
  cth : ∀ t, t < S.T → ThrIs L w t (S.th t)

/-- What nobody of the machine's own has is as it was. -/
structure Kept (L : Lay) (w w' : World) : Prop where
  os : w'.os = w.os
  tape : w'.tape = w.tape
  output : w'.output = w.output
  size : w.heap.size ≤ w'.heap.size
  block : ∀ b, b < w.heap.size → L.own b = .free → w'.heap[b]? = w.heap[b]?

theorem Kept.refl (L : Lay) (w : World) : Kept L w w := ⟨rfl, rfl, rfl, Nat.le_refl _, fun _ _ _ => rfl⟩
theorem Kept.trans {L : Lay} {a b c : World} (h : Kept L a b) (k : Kept L b c) : Kept L a c :=
  ⟨k.os.trans h.os, k.tape.trans h.tape, k.output.trans h.output, Nat.le_trans h.size k.size, fun i hi ho => (k.block i (Nat.lt_of_lt_of_le hi h.size) ho).trans (h.block i hi ho)⟩
theorem Kept.alloc {L : Lay} {a w : World} (h : Kept L a w) (o : Obj) : Kept L a (w.alloc o) :=
  h.trans ⟨rfl, rfl, rfl, by simp, fun k hk _ => Below.heap_alloc _ _ _ hk⟩
theorem Kept.drew {L : Lay} {a w : World} (h : Kept L a w) : Kept L a w.drew := ⟨h.os, h.tape, h.output, h.size, h.block⟩
theorem Kept.setCell {L : Lay} {a w : World} (h : Kept L a w) {p : Addr} (hp : L.own p.block ≠ .free) (u : Value) : Kept L a (w.setCell p u) :=
  h.trans ⟨rfl, rfl, rfl, by simp [World.setCell], fun k _ ho => Below.heap_setCell _ _ _ _ (fun e => hp (e ▸ ho))⟩
/-- A store into a block that came behind. -/
theorem Kept.setNew {L : Lay} {a w : World} (h : Kept L a w) {p : Addr} (hp : a.heap.size ≤ p.block) (u : Value) : Kept L a (w.setCell p u) :=
  ⟨h.os, h.tape, h.output, Nat.le_trans h.size (by simp [World.setCell]), fun k hk ho => (Below.heap_setCell _ _ _ _ (by omega)).trans (h.block k hk ho)⟩

theorem role_ne {own : Nat → Role} {a b : Nat} {r s : Role} (ha : own a = r) (hb : own b = s) (h : r ≠ s) : a ≠ b := by
  intro e; subst e; exact h (ha.symm.trans hb)

theorem RowIs.congr {own : Nat → Role} {r : Role} {w w' : World} {ty : TypeId} {size n : Nat} {v : Value} {xs : List Value} (h : RowIs own r w ty size v n xs)
    (hw : ∀ b, own b = r → b < w.heap.size → w'.heap[b]? = w.heap[b]?) : RowIs own r w' ty size v n xs := by
  refine ⟨⟨h.1.1, ?_⟩, h.2⟩
  rcases h.1.2 with h0 | ⟨g, cap, cur, hv, hb, hg, r⟩
  · exact .inl h0
  · exact .inr ⟨g, cap, cur, hv, hb, by rw [hw g (h.2 g (by rw [hv]; rfl)) (Array.getElem?_eq_some_iff.1 hg).1]; exact hg, r⟩

theorem Frs.congr {own : Nat → Role} {w w' : World} {t : Nat} : ∀ {bs : List Nat} {fs : List FS}, Frs own w t bs fs → (∀ b i, own b = .frame t i → b < w.heap.size → w'.heap[b]? = w.heap[b]?) → Frs own w' t bs fs
  | [], [], _, _ => trivial
  | _ :: _, _ :: _, ⟨ho, hc, hr⟩, hw => ⟨ho, hc.congr (hw _ _ ho hc.lt), Frs.congr hr hw⟩
  | [], _ :: _, h, _ => h.elim
  | _ :: _, [], h, _ => h.elim

theorem HeldIs.congr {w w' : World} {b : Nat} {held : Nat → Bool} {cnt : Nat} (h : HeldIs w b held cnt) (hw : w'.heap[b]? = w.heap[b]?) : HeldIs w' b held cnt := by
  obtain ⟨D, ⟨es, clock, hb, r⟩, hs⟩ := h
  exact ⟨D, ⟨es, clock, hw.trans hb, r⟩, hs⟩
theorem HeldIs.lt {w : World} {b : Nat} {held : Nat → Bool} {cnt : Nat} (h : HeldIs w b held cnt) : b < w.heap.size := by
  obtain ⟨D, ho, _⟩ := h
  exact ho.lt

theorem ThrIs.congr {L : Lay} {w w' : World} {t : Nat} {x : TS} (h : ThrIs L w t x)
    (hw : ∀ b, (L.own b = .thr t ∨ L.own b = .frames t ∨ (∃ i, L.own b = .frame t i) ∨ L.own b = .row t ∨ L.own b = .stack t) → b < w.heap.size → w'.heap[b]? = w.heap[b]?) : ThrIs L w' t x :=
  ⟨h.own, h.cells.congr (hw _ (.inl h.own) h.cells.lt), h.frames.congr fun b ho => hw b (.inr (.inl ho)), h.frs.congr fun b i ho => hw b (.inr (.inr (.inl ⟨i, ho⟩))),
    h.row.congr fun b ho => hw b (.inr (.inr (.inr (.inl ho)))), h.stack.congr fun b ho => hw b (.inr (.inr (.inr (.inr ho))))⟩

/-- The machine's blocks are as they were. -/
theorem Rep.congr {L : Lay} {S : MS} {w w' : World} (h : Rep L S w) (hs : w.heap.size ≤ w'.heap.size) (hw : ∀ b, L.own b ≠ .free → b < w.heap.size → w'.heap[b]? = w.heap[b]?) : Rep L S w' where
  T1 := h.T1
  T6 := h.T6
  N7 := h.N7
  N250 := h.N250
  nw := h.nw
  nwc := h.nwc
  Ttc := h.Ttc
  om := h.om
  op := h.op
  ome := h.ome
  owb := h.owb
  og := h.og
  ogb := h.ogb
  ohb := h.ohb
  otb := h.otb
  fresh := fun b hb => h.fresh b (Nat.le_trans hs hb)
  cm := h.cm.congr (hw _ (by rw [h.om]; simp) h.cm.lt)
  cp := h.cp.congr (hw _ (by rw [h.op]; simp) h.cp.lt)
  cme := h.cme.congr (hw _ (by rw [h.ome]; simp) h.cme.lt)
  cwb := h.cwb.congr (hw _ (by rw [h.owb]; simp) h.cwb.lt)
  cg := h.cg.congr (hw _ (by rw [h.og]; simp) h.cg.lt)
  cgb := h.cgb.congr (hw _ (by rw [h.ogb]; simp) h.cgb.lt)
  chb := h.chb.congr (hw _ (by rw [h.ohb]; simp) h.chb.lt)
  ctb := h.ctb.congr (hw _ (by rw [h.otb]; simp) h.ctb.lt)
  cth := fun t ht => (h.cth t ht).congr fun b ho => hw b (by rcases ho with e | e | ⟨i, e⟩ | e | e <;> (rw [e]; simp))

theorem Rep.alloc {L : Lay} {S : MS} {w : World} (h : Rep L S w) (o : Obj) : Rep L S (w.alloc o) :=
  h.congr (by simp) fun _ _ hb => Below.heap_alloc _ _ _ hb
theorem Rep.drew {L : Lay} {S : MS} {w : World} (h : Rep L S w) : Rep L S w.drew := h.congr (Nat.le_refl _) fun _ _ _ => rfl
/-- A store into a block that is not the machine's. -/
theorem Rep.setFree {L : Lay} {S : MS} {w : World} (h : Rep L S w) {p : Addr} (hp : L.own p.block = .free) (u : Value) : Rep L S (w.setCell p u) :=
  h.congr (by simp [World.setCell]) fun _ ho _ => Below.heap_setCell _ _ _ _ (fun e => ho (e ▸ hp))

/-- One block, and what it says, may be another; the rest is as it was. -/
theorem Rep.change {L : Lay} {S S' : MS} {w w' : World} (h : Rep L S w) (x : Nat) (hs : w.heap.size = w'.heap.size) (hw : ∀ b, b ≠ x → w'.heap[b]? = w.heap[b]?)
    (eT : S'.T = S.T) (eN : S'.N = S.N) (ew : S'.nw = S.nw)
    (cm : (L.own x = .mach → Cells w' L.s.m 76 6 (machCell L.s S')) ∧ (L.own x ≠ .mach → machCell L.s S' = machCell L.s S))
    (cp : L.own x ≠ .plan ∧ planCell S' = planCell S)
    (cme : (L.own x = .mem → Cells w' L.s.me 106 3 (memCell L.s S')) ∧ (L.own x ≠ .mem → memCell L.s S' = memCell L.s S))
    (cwb : (L.own x = .words → Cells w' L.s.wb 22 S.nw (fun a => .int .u64 (S'.words a))) ∧ (L.own x ≠ .words → S'.words = S.words))
    (cg : (L.own x = .guard → Cells w' L.s.g 97 3 (guardCell L.s S')) ∧ (L.own x ≠ .guard → guardCell L.s S' = guardCell L.s S))
    (cgb : (L.own x = .gens → Cells w' L.s.gb 22 (S.N + 1) (fun a => .int .u64 (S'.gens a))) ∧ (L.own x ≠ .gens → S'.gens = S.gens))
    (chb : (L.own x = .held → HeldIs w' L.s.hb S'.held S'.cnt) ∧ (L.own x ≠ .held → S'.held = S.held ∧ S'.cnt = S.cnt))
    (ctb : L.own x ≠ .thrs)
    (cth : ∀ t, t < S.T → ((L.own x = .thr t ∨ L.own x = .frames t ∨ (∃ i, L.own x = .frame t i) ∨ L.own x = .row t ∨ L.own x = .stack t) → ThrIs L w' t (S'.th t)) ∧
      (¬ (L.own x = .thr t ∨ L.own x = .frames t ∨ (∃ i, L.own x = .frame t i) ∨ L.own x = .row t ∨ L.own x = .stack t) → S'.th t = S.th t)) : Rep L S' w' := by
  have ne : ∀ {b : Nat} {r : Role}, L.own b = r → L.own x ≠ r → b ≠ x := fun hb hr e => hr (e ▸ hb)
  refine ⟨eT ▸ h.T1, eT ▸ h.T6, eN ▸ h.N7, eN ▸ h.N250, by rw [ew, eT, eN]; exact h.nw, ew ▸ h.nwc, eT ▸ h.Ttc, h.om, h.op, h.ome, h.owb, h.og, h.ogb, h.ohb, h.otb, fun b hb => h.fresh b (hs ▸ hb), ?_, ?_, ?_, ?_, ?_, ?_, ?_, ?_, ?_⟩
  · by_cases e : L.own x = .mach
    · exact cm.1 e
    · rw [cm.2 e]; exact h.cm.congr (hw _ (ne h.om e))
  · rw [cp.2]; exact h.cp.congr (hw _ (ne h.op cp.1))
  · by_cases e : L.own x = .mem
    · exact cme.1 e
    · rw [cme.2 e]; exact h.cme.congr (hw _ (ne h.ome e))
  · rw [ew]
    by_cases e : L.own x = .words
    · exact cwb.1 e
    · rw [cwb.2 e]; exact h.cwb.congr (hw _ (ne h.owb e))
  · by_cases e : L.own x = .guard
    · exact cg.1 e
    · rw [cg.2 e]; exact h.cg.congr (hw _ (ne h.og e))
  · rw [eN]
    by_cases e : L.own x = .gens
    · exact cgb.1 e
    · rw [cgb.2 e]; exact h.cgb.congr (hw _ (ne h.ogb e))
  · by_cases e : L.own x = .held
    · exact chb.1 e
    · rw [(chb.2 e).1, (chb.2 e).2]; exact h.chb.congr (hw _ (ne h.ohb e))
  · rw [eT]; exact h.ctb.congr (hw _ (ne h.otb ctb))
  · intro t ht
    rw [eT] at ht
    by_cases e : (L.own x = .thr t ∨ L.own x = .frames t ∨ (∃ i, L.own x = .frame t i) ∨ L.own x = .row t ∨ L.own x = .stack t)
    · exact (cth t ht).1 e
    · rw [(cth t ht).2 e]
      refine (h.cth t ht).congr fun b ho _ => hw b fun eb => e ?_
      rw [← eb]; exact ho

end Go.Proofs.Ytjnikgliecgbdaa
