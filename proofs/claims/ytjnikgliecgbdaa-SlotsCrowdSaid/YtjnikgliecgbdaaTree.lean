/- Contract of the nodes that are there at first. -/
import Derived.Test.YtjnikgliecgbdaaNew
import Derived.Deep.MidRow
namespace Go.Proofs.Ytjnikgliecgbdaa
open Go.RowKit

def treeVals : Array Value := #[.int .i64 1, .bool false, .int .i64 3, .int .i64 2, .int .i64 5, .int .i64 2, .bool false, .int .i64 2, .int .i64 3, .int .i64 4,
  .int .i64 3, .bool true, .int .i64 1, .int .i64 0, .int .i64 0, .int .i64 4, .bool true, .int .i64 2, .int .i64 0, .int .i64 0, .int .i64 5, .bool true, .int .i64 3, .int .i64 0, .int .i64 0]

theorem setCells_size (b : Nat) : ∀ (vs : List Value) (o : Nat) (w : World), (w.setCells b o vs).heap.size = w.heap.size := by
  intro vs
  induction vs with
  | nil => intro o w; rfl
  | cons v r ih => intro o w; simp only [World.setCells]; rw [ih]; simp [World.setCell]

theorem setCells_shape (b : Nat) (t : TypeId) (fr : Nat × Nat) : ∀ (vs : List Value) (o : Nat) (w : World) (cs : Array Value), w.heap[b]? = some (.cells cs t fr) →
    ∃ cs', (w.setCells b o vs).heap[b]? = some (.cells cs' t fr) ∧ cs'.size = cs.size := by
  intro vs
  induction vs with
  | nil => intro o w cs h; exact ⟨cs, h, rfl⟩
  | cons v r ih =>
    intro o w cs h
    simp only [World.setCells]
    have hb : b < w.heap.size := (Array.getElem?_eq_some_iff.1 h).1
    obtain ⟨cs', h', hs⟩ := ih (o + 1) (w.setCell ⟨b, o, none⟩ v) (cs.set! o v) (by unfold World.setCell; simp only [Array.getElem?_modify, if_true, h]; rfl)
    exact ⟨cs', h', by rw [hs]; simp⟩

theorem setCells_whole {w : World} {b : Nat} {t : TypeId} {fr : Nat × Nat} {cs : Array Value} (vs : Array Value) (h : w.heap[b]? = some (.cells cs t fr)) (hs : cs.size = vs.size) :
    (w.setCells b 0 vs.toList).heap[b]? = some (.cells vs t fr) := by
  obtain ⟨cs', h', hs'⟩ := setCells_shape b t fr vs.toList 0 w cs h
  rw [h']
  have : cs' = vs := by
    refine Array.ext (by omega) fun i h1 h2 => ?_
    have := World.cell?_setCells_in b vs.toList 0 w (fun j hj => by
      have hj' : j < cs.size := by rw [hs]; simpa using hj
      simp [World.cell?, h, hj']) i (by simpa using h2)
    simp only [World.cell?, h', Nat.zero_add] at this
    have e : cs'[i]? = some vs[i] := by simpa using this
    rw [Array.getElem?_eq_getElem h1] at e
    exact Option.some.inj e
  rw [this]

theorem below_setCellsP {B b : Nat} {a : World} (hb : B ≤ b) : ∀ (vs : List Value) (o : Nat) (w : World), Below B a w → Below B a (w.setCells b o vs)
  | [], _, _, h => h
  | v :: r, o, w, h => below_setCellsP hb r (o + 1) _ (h.setCell (by exact hb) v)

theorem wpList_store_whole {P : Program} {ops : Array Oper} {rest : List Oper} {op : Oper} {a : Act} {w : World} {Q : Exit → Act → World → Prop} (hgd : op.guard = none) (ty : TypeId) (x y : Operand) (ho : op.op = .store ty x y)
    (b : Nat) (old cells : Array Value) (t : TypeId) (hx : a.eval x = .pointer (some ⟨b, 0, none⟩)) (hy : a.eval y = .agg cells)
    (hg : w.heap[b]? = some (.cells old t (0, 0))) (hs : old.size = cells.size) (hi : (P.info? ty).map (·.size) = some cells.size) (h1 : cells.all (·.oneCell') = true)
    (h : ∀ w', w'.heap[b]? = some (.cells cells t (0, 0)) → (∀ {B : Nat} {u : World}, B ≤ b → Below B u w → Below B u w') → w'.heap.size = w.heap.size → wpList P ops Q rest (a.put op.dst undef) w') : wpList P ops Q (op :: rest) a w :=
  wpList_store_mid hgd ty x y ho b 0 cells hx hy (fun j hj => by
    have hj' : j < old.size := by omega
    constructor
    · simp [World.cell?, hg, hj']
    · simp [World.frozen?, hg]) hi h1 (h _ (setCells_whole cells hg hs) (fun hB hb => below_setCellsP hB cells.toList 0 _ hb) (setCells_size _ _ _ _))

def Stopped (p : Prop) : Prop := p
theorem stop_store {P : Program} {ops : Array Oper} {rest : List Oper} {op : Oper} {a : Act} {w : World} {Q : Exit → Act → World → Prop} (ty : TypeId) (x y : Operand) (ho : op.op = .store ty x y)
    (h : Stopped (wpList P ops Q (op :: rest) a w)) : wpList P ops Q (op :: rest) a w := h
set_option maxRecDepth 100000 in
set_option maxHeartbeats 800000 in
theorem core_tree (w : World) : Calls Try.prog 27 #[] w fun e w' => e = .returned (.agg treeVals) ∧ Below w.heap.size w w' := by
  have hsz : (Try.prog.info? 80).map (·.size) = some 25 := by kernel_rfl
  go_enter Try.func27, Try.ntmps27
  go_wp2_with (with_reducible refine stop_store 80 _ _ rfl ?_)
  unfold Stopped
  refine wpList_store_whole rfl 80 (.tmp 0) (.tmp 6) rfl w.heap.size _ treeVals _ rfl rfl (heap_alloc_new _ _) (by rfl) hsz (by simp [treeVals, Value.oneCell']) ?hk
  intro w' h1 h2 h3
  have h2' := h2 (B := w.heap.size) (u := w) (Nat.le_refl _) ((Below.refl _ _).alloc (Nat.le_refl _) _)
  clear h2 h3
  go_wp2
  exact bodyPost_ret (v := .agg treeVals) (results_cell_row (p := 0) (ty := 80) rfl _ w' w.heap.size _ treeVals (0, 0) _ rfl h1 Try.underlying80 rfl hsz) rfl ⟨rfl, h2'⟩
end Go.Proofs.Ytjnikgliecgbdaa
