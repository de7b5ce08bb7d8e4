/- deadwoodlaw17.SlotsCrowd answers true for every configuration and every list of deeds, and leaves its arguments as they were: no condition. -/
import Derived.Test.YtjnikgliecgbdaaRows
import Derived.Test.YtjnikgliecgbdaaMain
import Derived.Test.YtjnikgliecgbdaaNo
import Derived.WalkKit
import Derived.ProofKit
import Derived.OpenShut
import Derived.ChangeOld
import Derived.Lib.SmallJoins
import Derived.Deep.Slices
import Derived.Deep.Fields
import Derived.ChangeSame
namespace Go.Proofs.Ytjnikgliecgbdaa.crowdRow
open Go.ChangeShapes Go.WideShapes Go.ChangeAt Go.RowKit Go.Joins Go.Deep
set_option linter.unusedVariables false

section
variable {H : Type} {enc : TypeId × Value → H} {P : Program} {w : World} {base : Nat} {spare : Nat → Bool} {held : Bool}
theorem open_slice_fields {t e : TypeId} {fs : Array Field} {fuel : Nat} {cs : List Value} {x : DataW H × List MemPlace} (ht : P.underlying t = some (.slice e)) (he : P.underlying e = some (.struct fs))
    (hone : oneCellFields P fs = true) (hC : P.cellsOf e = fs.size) (h : DataW.trod enc P w base spare held fuel t cs = some x) :
    (cs = [.slice none 0 0] ∧ x = (.nil, [])) ∨
    ∃ (a : Addr) (len cap m : Nat) (D : Nat → DataW H) (Pl : Nat → List MemPlace), cs = [.slice (some a) len cap] ∧ base ≤ a.block ∧ len ≤ cap ∧ cap ≤ maxLen ∧ m = (if spare a.block then cap else len) ∧
      x = (.slice ((List.range len).map D) ((List.range (m - len)).map fun j => D (len + j)), MemPlace.row a (m * fs.size) ++ (List.range m).flatMap Pl) ∧
      ∀ i, i < m → ∃ (ys : List (DataW H × List MemPlace)) (n : Nat), D i = .agg (ys.map (·.1)) ∧ Pl i = ys.flatMap (·.2) ∧ ys.length = fs.size ∧
        ∀ (j : Nat) (f : Field), fs[j]? = some f → ∃ (v : Value) (y : DataW H × List MemPlace), w.cell? (a.add (i * fs.size + j)) = some v ∧ ys[j]? = some y ∧ DataW.trod enc P w base spare held n f.type [v] = some y := by
  rcases open_slice ht h with h0 | ⟨a, len, cap, m, n, D, Pl, hcs, hb, hl, hm, hmm, hx, hi⟩
  · exact .inl h0
  · refine .inr ⟨a, len, cap, m, D, Pl, hcs, hb, hl, hm, hmm, by rw [hC] at hx; exact hx, fun i him => ?_⟩
    obtain ⟨cs', hc, ht'⟩ := hi i him
    rw [hC] at hc
    obtain ⟨ys, n', hn', hy, hlen, hyl, hf⟩ := DataW.trod_struct he ht'
    obtain ⟨_, hcl, hat⟩ := World.cells?_some hc
    simp only [Prod.mk.injEq] at hy
    refine ⟨ys, n', hy.1, hy.2, hyl, fun j f hj => ?_⟩
    obtain ⟨ho, hk⟩ := hone_of hone j f hj
    have hjl : j < fs.size := (Array.getElem?_eq_some_iff.1 hj).1
    have hcell := hat j hjl
    have hv : cs'[j]? = some (cs'[j]'(by omega)) := List.getElem?_eq_getElem (by omega)
    have h1 := hf j f hj
    rw [ho, hk] at h1
    have hone' : (cs'.drop j).take 1 = [cs'[j]'(by omega)] := by
      rw [List.drop_eq_getElem_cons (by omega)]
      rfl
    rw [hone'] at h1
    have hys : ys[j]? = some (ys[j]'(by omega)) := List.getElem?_eq_getElem (by omega)
    refine ⟨_, _, ?_, hys, h1.trans hys⟩
    rw [← Go.Deep.add_add, hcell, hv]
end

theorem own : ownKnob Try.prog.godebug = none := by kernel_rfl
theorem laidOut : laidOutB Try.prog = true := by kernel_rfl
theorem cellsConf : Try.prog.cellsOf 24 = 3 := by kernel_rfl
theorem cellsDeed : Try.prog.cellsOf 35 = 2 := by kernel_rfl

/-- What the walk is told of the deeds. -/
def IsDeeds (w : World) (a : Option Addr) (n : Nat) : Prop :=
  ∃ (lb lo : Nat) (th wh : Nat → Int), (0 < n → a = some ⟨lb, lo, none⟩ ∧ lb < w.heap.size) ∧ (∀ i, i < n → w.cell? ⟨lb, lo + i * 2, none⟩ = some (.int .i64 (th i))) ∧ ∀ i, i < n → w.cell? ⟨lb, lo + i * 2 + 1, none⟩ = some (.int .i64 (wh i))

def numAt (w : World) (a : Addr) : Int := match w.cell? a with
  | some (.int _ n) => n
  | _ => 0
theorem numAt_eq {w : World} {a : Addr} {n : Int} (h : w.cell? a = some (.int .i64 n)) : w.cell? a = some (.int .i64 (numAt w a)) := by
  unfold numAt
  rw [h]
theorem cell_block {w : World} {a : Addr} {v : Value} (h : w.cell? a = some v) : a.block < w.heap.size := by
  unfold World.cell? at h
  rcases Nat.lt_or_ge a.block w.heap.size with hlt | hge
  · exact hlt
  · rw [Array.getElem?_eq_none hge] at h
    simp at h

theorem isDeeds {w : World} {a : Addr} {n : Nat} (h : ∀ i, i < n → ∃ x y : Int, w.cell? (a.add (i * 2 + 0)) = some (.int .i64 x) ∧ w.cell? (a.add (i * 2 + 1)) = some (.int .i64 y)) : IsDeeds w (some a) n := by
  obtain ⟨b, off, spot⟩ := a
  by_cases h0 : n = 0
  · subst h0
    exact ⟨0, 0, fun _ => 0, fun _ => 0, fun q => absurd q (by omega), fun i q => absurd q (by omega), fun i q => absurd q (by omega)⟩
  · obtain ⟨x, y, hx, hy⟩ := h 0 (by omega)
    have hspot : spot = none := by simpa [Addr.add] using World.cell?_spot hx
    subst hspot
    have hadd : ∀ k, (⟨b, off, none⟩ : Addr).add k = ⟨b, off + k, none⟩ := fun k => by unfold Addr.add; split <;> simp_all
    refine ⟨b, off, fun i => numAt w ⟨b, off + i * 2, none⟩, fun i => numAt w ⟨b, off + i * 2 + 1, none⟩, fun _ => ⟨rfl, ?_⟩, fun i hi => ?_, fun i hi => ?_⟩
    · have := cell_block hx
      rw [hadd] at this
      exact this
    · obtain ⟨x, y, hx, hy⟩ := h i hi
      rw [hadd, Nat.add_zero] at hx
      exact numAt_eq hx
    · obtain ⟨x, y, hx, hy⟩ := h i hi
      rw [hadd, ← Nat.add_assoc] at hy
      exact numAt_eq hy

theorem walk (T N st : Int) (a : Option Addr) (n c : Nat) (w : World) (h : IsDeeds w a n) :
    Calls Try.prog 3 #[.agg #[.int .i64 T, .int .i64 N, .int .u64 st], .slice a n c] w fun e w' => e = .returned (.bool true) ∧ Below w.heap.size w w' := by
  by_cases hn : 600 < n
  · exact crowd_no T N st a n c w (.inr hn)
  · cases hm : mayB T N st with
    | false => exact crowd_no T N st a n c w (.inl hm)
    | true =>
      simp only [mayB, Bool.and_eq_true, decide_eq_true_eq] at hm
      obtain ⟨T, rfl⟩ := Int.eq_ofNat_of_zero_le (show 0 ≤ T by omega)
      obtain ⟨N, rfl⟩ := Int.eq_ofNat_of_zero_le (show 0 ≤ N by omega)
      obtain ⟨lb, lo, th, wh, hp, hth, hwh⟩ := h
      by_cases h0 : 0 < n
      · exact crowd_yes T N st a n c w (by omega) (by omega) (by omega) (by omega) (by omega) (by omega) (by omega) lb lo (fun q => (hp q).1) (fun q => (hp q).2) th wh hth hwh
      · have hn0 : n = 0 := by omega
        subst hn0
        exact crowd_yes T N st a 0 c w (by omega) (by omega) (by omega) (by omega) (by omega) (by omega) (by omega) 0 0 (fun q => absurd q (by omega)) (fun q => absurd q (by omega)) (fun _ => 0) (fun _ => 0) (fun i q => absurd q (by omega)) (fun i q => absurd q (by omega))

set_option maxRecDepth 100000 in
theorem lifted (os : Os) (started : os.Started) (H : Type) (enc : TypeId × Value → H) :
    ReturnsInHanded {} Try.checked os 3 .any (Rows.slotsCrowdSpec.pre6 enc Try.prog Try.f3 Rows.slotsCrowdRow.domain false) (Rows.slotsCrowdSpec.post enc Try.prog Try.f3 false true false false) := by
  refine returnsInHanded_of_change (C := Try.checked) own started (by kernel_rfl) Try.func3
    (ChangeSpec.witness6 (enc := enc) (C := Try.checked) false ⟨#[], #[.agg #[.int .i64 0, .int .i64 0, .int .u64 0], .slice none 0 0], []⟩ 8 (by kernel_rfl) (by kernel_rfl) (by kernel_rfl) (by kernel_rfl)) ?_
  intro W base args ds gs before hval0 hW hcnd _
  have hval : ∀ (j : Nat) t v, Try.f3.params[j]? = some t → args[j]? = some v → Value.okWide Try.prog W .any base t v := hval0
  have hW' := hW
  obtain ⟨p, q, hA0, hV, rfl, hfz, hnd⟩ := hW
  have hA : DataW.TrodAll enc Try.prog W 0 (fun _ => true) true Try.f3.params.toList args.toList ds p := hA0
  rw [Try.params3] at hA hval
  obtain ⟨v0, vs0, d0, ds0, p0, q0, hargs, rfl, rfl, h0, r0⟩ := trodAll_cons hA
  obtain ⟨v1, vs1, d1, ds1, p1, q1, rfl, rfl, rfl, h1, r1⟩ := trodAll_cons r0
  obtain ⟨rfl, rfl, rfl⟩ := trodAll_nil r1
  obtain rfl : args = #[v0, v1] := by cases args; simp_all
  obtain ⟨rfl, rfl⟩ := trodVars_none hV
  have k0 := h0
  have lt0 : ∀ x ∈ p0, x.block < W.heap.size := by obtain ⟨m, hm⟩ := k0; exact DataW.trod_lt m _ _ _ hm
  have k1 := h1
  have lt1 : ∀ x ∈ p1, x.block < W.heap.size := by obtain ⟨m, hm⟩ := k1; exact DataW.trod_lt m _ _ _ hm
  obtain ⟨c0, c1, c2, y0, y1, y2, m, rfl, _, _, hy0, hy1, hy2⟩ := open_agg3 Try.underlying24 (by kernel_rfl) cellsConf (hval 0 24 v0 rfl rfl) h0
  obtain ⟨T, e0, rfl, _⟩ := DataW.trod_int Try.underlying3 hy0
  obtain ⟨N, e1, rfl, _⟩ := DataW.trod_int Try.underlying3 hy1
  obtain ⟨st, e2, rfl, _⟩ := DataW.trod_int Try.underlying22 hy2
  simp only [List.cons.injEq, and_true] at e0 e1 e2
  subst e0 e1 e2
  obtain ⟨a0, len0, cap0, rfl⟩ := okWide_slice Try.underlying25 (hval 1 25 v1 rfl rfl)
  have hD : IsDeeds W a0 len0 := by
    obtain ⟨fuel, hf⟩ := h1
    rcases open_slice_fields Try.underlying25 Try.underlying35 (by kernel_rfl) cellsDeed hf with ⟨hcs, _⟩ | ⟨x, l, c, mm, D, Pl, hcs, _, hl, _, hmm, _, hi⟩
    · simp [Value.cells] at hcs
      obtain ⟨rfl, rfl, rfl⟩ := hcs
      exact ⟨0, 0, fun _ => 0, fun _ => 0, fun q => absurd q (by omega), fun i q => absurd q (by omega), fun i q => absurd q (by omega)⟩
    · simp [Value.cells] at hcs
      obtain ⟨rfl, rfl, rfl⟩ := hcs
      refine isDeeds fun i hi2 => ?_
      obtain ⟨ys, n, _, _, _, hfs⟩ := hi i (by rw [hmm]; split <;> omega)
      obtain ⟨u, y, hc1, _, ht1⟩ := hfs 0 _ rfl
      obtain ⟨u', y', hc2, _, ht2⟩ := hfs 1 _ rfl
      obtain ⟨k1, g1, _, _⟩ := DataW.trod_int Try.underlying3 ht1
      obtain ⟨k2, g2, _, _⟩ := DataW.trod_int Try.underlying3 ht2
      simp only [List.cons.injEq, and_true] at g1 g2
      subst g1 g2
      exact ⟨k1, k2, hc1, hc2⟩
  clear hA0 hval0
  refine (walk T N st a0 len0 cap0 W hD).mono fun e W' ⟨he, bel⟩ => ?_
  subst he
  exact ⟨_, rfl, _, _, _, [], _, [], hW', trodAll_mk1 (shut_bool Try.underlying4 _), (trodAll_cons_mk (Below.trod laidOut (by kernel_rfl) (of_decide_eq_true (by kernel_rfl)) k0 bel lt0) (trodAll_cons_mk (Below.trod laidOut (by kernel_rfl) (of_decide_eq_true (by kernel_rfl)) k1 bel lt1) trodAll_mk0)), rfl, bel.frame _, fun h => by cases h⟩

theorem over : Rows.slotsCrowdRow.holds Try.pinned (OpenSpec.ofChange Rows.slotsCrowdSpec) :=
  OpenClaim.holds_of_wide 3 Try.f3 rfl rfl rfl rfl rfl rfl rfl ⟨rfl, rfl, rfl, rfl, rfl⟩ rfl rfl rfl rfl rfl (by kernel_rfl) Try.func3 (by kernel_rfl)
    (of_decide_eq_true (by kernel_rfl)) (by unfold Func.isWrapper; first | (rw [if_pos (by decide +kernel)]; kernel_rfl) | (rw [if_neg (by decide +kernel)]; exact ⟨rfl, rfl⟩))
    (fun os started H enc _ => lifted os started H enc)

theorem slotsCrowd_holds : Rows.SlotsCrowdSaid := over
#print axioms slotsCrowd_holds
end Go.Proofs.Ytjnikgliecgbdaa.crowdRow
