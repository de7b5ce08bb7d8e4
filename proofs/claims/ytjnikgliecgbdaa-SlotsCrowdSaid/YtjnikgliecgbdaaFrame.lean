/- Contracts of package frame: Depth, Call, Back. -/
import Derived.Test.YtjnikgliecgbdaaMoves
import Derived.Laws.CopyOwn
namespace Go.Proofs.Ytjnikgliecgbdaa
open Go.RowKit

/-- A call told v; the world holds the machine in another state, whose layout may have moved. -/
def Goes (L : Lay) (S : MS) (v : Value) (w : World) (e : Ending) (w' : World) : Prop := ∃ L', e = .returned v ∧ Rep L' S w' ∧ Moves L L' w w'

theorem frame_Depth {L : Lay} {w : World} {t : Nat} {x : TS} (h : ThrIs L w t x) :
    Calls Try.prog 8 #[.pointer (some ⟨L.s.th t, 0, none⟩)] w fun e w' => e = .returned (.int .i64 x.frames.length) ∧ w = w' := by
  have c := h.cells.cell 24 (by decide)
  simp only [thrCell] at c
  obtain ⟨a, cap, hv⟩ : ∃ a cap, L.fv t = .slice a x.frames.length cap := by
    rcases h.frames.1.2 with ⟨hv, h0⟩ | ⟨g, cap, _, hv, _⟩
    · exact ⟨none, 0, by rw [hv, h0]⟩
    · exact ⟨_, _, hv⟩
  rw [hv] at c
  clear h hv
  go_enter Try.func8, Try.ntmps8
  go_wp2
  go_ret
  exact ⟨rfl, rfl⟩

theorem info_frp : (Try.prog.info? 42).map (fun i => (i.zero, i.size, i.bytes)) = some (some (.pointer none), 1, 8) := by kernel_rfl
theorem info_u64 : (Try.prog.info? 22).map (·.size) = some 1 := by kernel_rfl

def frInit (fn : Int) : List Value := [.int .i64 fn, .int .i64 0] ++ List.replicate 24 (.int .u64 0)

theorem frame_cells (fn : Int) (rs : List Int) (hl : rs.length ≤ 24) (i : Nat) (hi : i < 26) : (splice (frInit fn) 2 (rs.map (Value.int .u64)))[i]? = some (frCell ⟨fn, 0, regs rs⟩ i) := by
  unfold splice frInit
  match i, hi with
  | 0, _ => rfl
  | 1, _ => rfl
  | k + 2, hi =>
    show ([Value.int .i64 fn, .int .i64 0] ++ (rs.map (Value.int .u64) ++ List.drop (2 + (rs.map (Value.int .u64)).length) ([Value.int .i64 fn, .int .i64 0] ++ List.replicate 24 (Value.int .u64 0))))[k + 2]? = some (.int .u64 (regs rs k))
    rw [List.getElem?_append_right (by simp)]
    simp only [List.length_cons, List.length_nil, Nat.add_sub_cancel, List.length_map]
    by_cases h : k < rs.length
    · rw [List.getElem?_append_left (by simpa using h)]
      simp [regs, List.getD, h]
    · rw [List.getElem?_append_right (by simp; omega)]
      simp only [List.length_map, List.getElem?_drop]
      rw [List.getElem?_append_right (by simp; omega)]
      simp only [List.length_cons, List.length_nil]
      rw [List.getElem?_replicate, if_pos (by omega)]
      simp [regs, List.getD, h]

set_option maxRecDepth 100000 in
set_option maxHeartbeats 800000 in
theorem frame_Call {L : Lay} {S : MS} {w : World} (h : Rep L S w) {t : Nat} (ht : t < S.T) (hd : (S.th t).frames.length ≤ 5000) (fn : Int) (rs : List Int) (hl : rs.length ≤ 24) (sp : Option Addr) (sc : Nat)
    (hsrc : 0 < rs.length → ∃ ad, sp = some ad ∧ ad.block < w.heap.size ∧ ∀ (j : Nat) (x : Int), rs[j]? = some x → w.cell? (ad.add j) = some (.int .u64 x)) :
    Calls Try.prog 9 #[.pointer (some ⟨L.s.th t, 0, none⟩), .int .i64 fn, .slice sp rs.length sc] w fun e w' => Goes L (S.call t fn rs) (.tuple #[]) w e w' := by
  have hx := h.cth t ht
  have hx0 := Lib.hid hx
  have c24 := hx.cells.cell 24 (by decide)
  have f24 := hx.cells.frozen 24
  have hthz := hx.cells.lt
  simp only [thrCell] at c24
  have hrow := Lib.hid hx.frames
  obtain ⟨i0, hi, hz0, hz1, hz2⟩ := info_parts info_frp
  have H := Lib.hid h
  clear h hx
  go_enter Try.func9, Try.ntmps9
  go_wp2_with (with_reducible refine wpList_copy_splice rfl (.tmp 15) (.tmp 16) 56 56 rfl 22 Try.underlying56 info_u64 (some ⟨w.heap.size, 2, none⟩) sp 24 24 rs.length sc rfl rfl w.heap.size 2 (frInit fn) 46 ?hg (rs.map (Value.int .u64)) ?hn ?hpos ?hfit ?h1 w.heap.size w ?hb (Nat.le_refl _) ?hk)
  case hg => show (w.heap.push _)[w.heap.size]? = _; simp; rfl
  case hn => simp only [List.length_map]; exact (Nat.min_eq_left hl).symm
  case hpos =>
    intro hp
    obtain ⟨ad, e, hb, hc⟩ := hsrc (by simpa using hp)
    refine ⟨ad, e, fun j v hj => ?_⟩
    rw [← hc j v hj]
    refine World.cell?_of_block ?_
    have e1 : (ad.add j).block = ad.block := by unfold Addr.add; split <;> rfl
    rw [e1]
    exact Below.heap_alloc _ _ _ hb
  case hfit => simp [frInit]; omega
  case h1 => intro v hv; simp at hv; obtain ⟨a, _, rfl⟩ := hv; rfl
  case hb => exact (Below.refl _ _).alloc (Nat.le_refl _) _
  case hk =>
  intro w1 hg1 hb1
  have d24 := (hb1.cell (p := ⟨L.s.th t, 24, none⟩) hthz).trans c24
  have g24 := (hb1.frozen (p := ⟨L.s.th t, 24, none⟩) hthz).trans f24
  have hz1' : w.heap.size < w1.heap.size := (Array.getElem?_eq_some_iff.1 hg1.out).1
  have hown := Lib.hid (hrow.out.congr (w' := w1) fun b _ hb => hb1.block b hb).1
  have HB1 := Lib.hid hb1
  clear c24 f24 hb1 hsrc
  go_wp2_with (at_builtin; refine wpList_append_lies _ rfl (.tmp 22) (.tmp 24) 54 rfl 0 42 i0 (.pointer none) 1 8 Try.underlying54 hi hz0 hz1 hz2 rfl (by decide) (L.fv t) (S.th t).frames.length ((L.fr t).reverse.map ptr) rfl (hown.out.alloc _) ⟨w1.heap.size, 0, none⟩ 1 1 [ptr w.heap.size] rfl rfl ?c1 ?c2 (by decide) ?c3 ?c4 (Nat.zero_le _) _ rfl ?ck)
  case c1 => intro j u hj; match j, hj with | 0, hj => simp at hj; subst hj; simp [Addr.add, ptr]
  case c2 => intro u hu; simp at hu; subst hu; rfl
  case c3 => unfold maxLen; omega
  case c4 => omega
  case ck =>
  intro g cap w2 hown2 hgrow2 hat hlt
  have hrole : ∀ b, (L.fv t).ownBlock = some b → L.own b = .frames t := hrow.out.2
  have hW : ∀ b, b < w.heap.size → L.own b ≠ .frames t → w2.heap[b]? = w.heap[b]? := fun b hb hn => by
    rw [hgrow2.block b (by simp; omega) (fun e => hn (hrole b e.symm)), Below.heap_alloc _ _ _ (by omega), HB1.out.block b hb]
  have hb0 : w2.heap[w.heap.size]? = w1.heap[w.heap.size]? := by
    rw [hgrow2.block w.heap.size (by simp; omega) (fun e => ?_), Below.heap_alloc _ _ _ hz1']
    have := hrole _ e.symm
    rw [H.out.fresh _ (Nat.le_refl _)] at this
    cases this
  have hth : w2.heap[L.s.th t]? = w.heap[L.s.th t]? := hW _ hthz (by rw [hx0.out.own]; simp)
  have k24 : w2.cell? ⟨L.s.th t, 24, none⟩ = some (L.fv t) := (World.cell?_of_block (w := w) hth).trans (hx0.out.cells.cell 24 (by decide))
  have m24 : w2.frozen? ⟨L.s.th t, 24, none⟩ = false := (World.frozen?_of_block (w := w) hth).trans (hx0.out.cells.frozen 24)
  have HG := Lib.hid hgrow2
  have HO := Lib.hid hown2
  have HA := Lib.hid hat
  have HW := Lib.hid hW
  have HB0 := Lib.hid hb0
  have HT := Lib.hid hth
  have HR := Lib.hid hrole
  have hz2' : w1.heap.size + 1 ≤ w2.heap.size := by have := hgrow2.size; simpa using this
  clear hgrow2 hown2 hat hW hb0 hth hrole d24 g24
  go_wp2
  go_end0
  have hne : w.heap.size ≠ L.s.th t := by omega
  have hgne : g ≠ w.heap.size := by
    rcases HA.out with e | e
    · intro e'
      have := HR.out g e
      rw [e', H.out.fresh _ (Nat.le_refl _)] at this
      cases this
    · omega
  have hsz : (w2.setCell ⟨L.s.th t, 24, none⟩ (.slice (some ⟨g, 0, none⟩) ((S.th t).frames.length + 1) cap)).heap.size = w2.heap.size := by simp [World.setCell]
  have hset : ∀ b, b ≠ L.s.th t → (w2.setCell ⟨L.s.th t, 24, none⟩ (.slice (some ⟨g, 0, none⟩) ((S.th t).frames.length + 1) cap)).heap[b]? = w2.heap[b]? := fun b hb => Below.heap_setCell _ _ _ _ hb
  have hgth : g ≠ L.s.th t := by
    rcases HA.out with e | e
    · exact role_ne (HR.out g e) hx0.out.own (by simp)
    · omega
  refine ⟨L.push t w.heap.size g (S.th t).frames.length cap, rfl, H.out.push ht ⟨fn, 0, regs rs⟩ w.heap.size g cap (by omega) (Nat.le_refl _) (by omega) ?_ ?_ (by omega) hgne ?_ ?_ ?_, ⟨rfl, ?_, ?_⟩⟩
  · refine ⟨(splice (frInit fn) 2 (rs.map (Value.int .u64))).toArray, ?_, ?_, fun i hi => ?_⟩
    · rw [hset _ hne, HB0.out]; exact hg1.out
    · rw [List.size_toArray, length_splice _ _ _ (by simp [frInit]; omega)]; simp [frInit]
    · rw [List.getElem?_toArray]; exact frame_cells fn rs hl i hi
  · rcases HA.out with e | e
    · exact .inl e
    · exact .inr (by omega)
  · have := HO.out
    rw [← List.map_reverse] at this
    obtain ⟨l1, l2⟩ := this
    refine ⟨l1, ?_⟩
    rcases l2 with ⟨e, _⟩ | ⟨g', cap', cur, hv, hb, hh, r⟩
    · cases e
    · cases hv
      exact .inr ⟨g, cap, cur, rfl, hb, by rw [hset g hgth]; exact hh, r⟩
  · have := (hx0.out.cells.congr HT.out).set 24 (.slice (some ⟨g, 0, none⟩) ((S.th t).frames.length + 1) cap)
    exact this.ext (upd_eta rfl fun j h1 h2 => by
      match j, h1, h2 with
      | 0, _, _ | 1, _, _ | 2, _, _ | 3, _, _ | 4, _, _ | 5, _, _ | 6, _, _ | 7, _, _ | 8, _, _ | 9, _, _ | 10, _, _ | 11, _, _ | 12, _, _ | 13, _, _ | 14, _, _ | 15, _, _ | 16, _, _ | 17, _, _ | 18, _, _ | 19, _, _ | 20, _, _ | 21, _, _ | 22, _, _ | 23, _, _ | 25, _, _ | 26, _, _ => rfl
      | k + 27, _, h2 => exact absurd h2 (by omega))
  · intro b hb _ hn hf
    rw [hset b hn]; exact HW.out b hb hf
  · intro b hb
    show (if b = w.heap.size then _ else if b = g then _ else _) = _
    rw [if_neg (by omega)]
    by_cases e : b = g
    · rw [if_pos e]
      rcases HA.out with e' | e'
      · rw [e]; exact (HR.out g e').symm
      · omega
    · rw [if_neg e]
  · refine ⟨HG.out.os.trans HB1.out.os, HG.out.tape.trans HB1.out.tape, HG.out.output.trans HB1.out.output, by omega, fun b hb ho => ?_⟩
    rw [hset b (fun e => by rw [e, hx0.out.own] at ho; cases ho)]
    exact HW.out b hb (by rw [ho]; simp)
end Go.Proofs.Ytjnikgliecgbdaa
