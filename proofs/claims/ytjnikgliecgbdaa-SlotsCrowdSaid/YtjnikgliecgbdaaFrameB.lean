/- Contracts of package frame: Back; a law for a copy into a row of the machine's own. -/
import Derived.Test.YtjnikgliecgbdaaFrame
namespace Go.Proofs.Ytjnikgliecgbdaa
open Go.RowKit

/-- One block has turned, nothing else. -/
structure Turned (g : Nat) (w w' : World) : Prop where
  os : w'.os = w.os
  tape : w'.tape = w.tape
  output : w'.output = w.output
  size : w'.heap.size = w.heap.size
  block : ∀ b, b ≠ g → w'.heap[b]? = w.heap[b]?

theorem Turned.refl (g : Nat) (w : World) : Turned g w w := ⟨rfl, rfl, rfl, rfl, fun _ _ => rfl⟩
theorem Turned.trans {g : Nat} {a b c : World} (h : Turned g a b) (k : Turned g b c) : Turned g a c :=
  ⟨k.os.trans h.os, k.tape.trans h.tape, k.output.trans h.output, k.size.trans h.size, fun i hi => (k.block i hi).trans (h.block i hi)⟩
theorem Turned.drew {g : Nat} {a b : World} (h : Turned g a b) : Turned g a b.drew := ⟨h.os, h.tape, h.output, h.size, h.block⟩
theorem Turned.setCell {g : Nat} {a b : World} (h : Turned g a b) (i : Nat) (v : Value) : Turned g a (b.setCell ⟨g, i, none⟩ v) :=
  h.trans ⟨rfl, rfl, rfl, by simp [World.setCell], fun _ hb => Below.heap_setCell _ _ _ _ hb⟩

def pasted (f : Nat → Value) (off : Nat) (cs : List Value) : Nat → Value := fun i => if off ≤ i ∧ i < off + cs.length then cs.getD (i - off) undef else f i

theorem wpList_copy_cells {P : Program} {w : World} {ops : Array Oper} {rest : List Oper} {o : Oper} {a : Act} {Q : Exit → Act → World → Prop} (hgd : o.guard = none) (d s : Operand) (dT sT : TypeId)
    (ho : o.op = .call { callee := .builtin .copy, args := #[d, s], argTypes := #[dT, sT] }) (elem : TypeId) (hu : P.underlying dT = some (.slice elem)) (hsz : (P.info? elem).map (·.size) = some 1)
    (g off dLen dCap : Nat) (sp : Option Addr) (sLen sCap : Nat) (hd : a.eval d = .slice (some ⟨g, off, none⟩) dLen dCap) (hs : a.eval s = .slice sp sLen sCap)
    (ty : TypeId) (n : Nat) (f : Nat → Value) (hc : Cells w g ty n f) (cs : List Value) (hn : cs.length = Nat.min sLen dLen)
    (hsrc : 0 < cs.length → ∃ ad, sp = some ad ∧ ∀ j v, cs[j]? = some v → w.cell? (ad.add j) = some v) (hfit : off + cs.length ≤ n) (h1 : ∀ v ∈ cs, v.oneCell' = true)
    (h : ∀ w', Cells w' g ty n (pasted f off cs) → Turned g w w' → wpList P ops Q rest (a.put o.dst (goInt cs.length)) w') : wpList P ops Q (o :: rest) a w := by
  by_cases h0 : cs.length = 0
  · obtain rfl : cs = [] := List.eq_nil_of_length_eq_zero h0
    refine wpList_copy_nothing hgd d s dT sT ho elem hu hsz (some ⟨g, off, none⟩) sp dLen dCap sLen sCap hd hs (by simpa using hn.symm) ?_
    exact h w (hc.ext fun i _ => by simp [pasted]; omega) (Turned.refl _ _)
  · obtain ⟨ad, rfl, hsrc'⟩ := hsrc (by omega)
    obtain ⟨cur, hg, hsize, hf⟩ := hc
    refine wpList_copy_own hgd d s dT sT ho elem hu hsz g off dLen dCap ad sLen sCap hd hs cur ty hg cs hn hsrc' (by omega) h1 ?_
    refine h _ ⟨_, setRow_heap w g _ _ ty _ hg, by simp; omega, fun i hi => ?_⟩ ⟨rfl, rfl, rfl, by simp [World.setRow], fun b hb => ?_⟩
    · rw [List.getElem?_toArray]
      unfold pasted
      by_cases c1 : off ≤ i
      · rw [List.getElem?_append_right (by simp; omega)]
        have e1 : (cur.toList.take off).length = off := by simp; omega
        rw [e1]
        by_cases c2 : i < off + cs.length
        · rw [List.getElem?_append_left (by omega), if_pos ⟨c1, c2⟩]
          simp [List.getD, show i - off < cs.length by omega]
        · rw [List.getElem?_append_right (by omega), if_neg (by omega), List.getElem?_drop, show off + cs.length + (i - off - cs.length) = i by omega, Array.getElem?_toList]
          exact hf i hi
      · rw [List.getElem?_append_left (by simp; omega), if_neg (by omega), List.getElem?_take, if_pos (by omega), Array.getElem?_toList]
        exact hf i hi
    · simp only [World.setRow]
      rw [Array.getElem?_modify, if_neg (Ne.symm hb)]

theorem Cells.drew {w : World} {b : Nat} {ty : TypeId} {n : Nat} {f : Nat → Value} (h : Cells w b ty n f) : Cells w.drew b ty n f := h.congr rfl

/-- The top frame taken away; what is told. -/
def MS.back (S : MS) (t : Nat) (rs : List Int) : MS := { S with th := upd S.th t { S.th t with frames := (S.th t).frames.tail, ret := regs rs } }
def Lay.pop (L : Lay) (t g n cap : Nat) : Lay := { L with fr := upd L.fr t (L.fr t).tail, fv := upd L.fv t (.slice (some ⟨g, 0, none⟩) n cap) }

set_option maxRecDepth 100000 in
set_option maxHeartbeats 800000 in
theorem frame_Back {L : Lay} {S : MS} {w : World} (h : Rep L S w) {t : Nat} (ht : t < S.T) {f : FS} {fs : List FS} (hf : (S.th t).frames = f :: fs) (hd : fs.length ≤ 5000) (rs : List Int) (hl : rs.length ≤ 12) (sp : Option Addr) (sc : Nat)
    (hsrc : 0 < rs.length → ∃ ad, sp = some ad ∧ ad.block < w.heap.size ∧ ad.block ≠ L.s.th t ∧ ∀ (j : Nat) (x : Int), rs[j]? = some x → w.cell? (ad.add j) = some (.int .u64 x)) :
    Calls Try.prog 58 #[.pointer (some ⟨L.s.th t, 0, none⟩), .slice sp rs.length sc] w fun e w' => Goes L (S.back t rs) (.tuple #[]) w e w' := by
  have hx := h.cth t ht
  obtain ⟨b, bs, hb⟩ : ∃ b bs, L.fr t = b :: bs := by
    have := hx.frs.length
    rw [hf] at this
    cases e : L.fr t with
    | nil => rw [e] at this; simp at this
    | cons b bs => exact ⟨b, bs, rfl⟩
  obtain ⟨g, cap, f', fs', hf', hv, _, hc1, hc2, hgo, _, hbl⟩ := thr_frames hx hb
  rw [hf] at hf'
  obtain ⟨rfl, rfl⟩ : f = f' ∧ fs = fs' := by simpa using hf'
  have c24 := hx.cells.cell 24 (by decide)
  simp only [thrCell] at c24
  rw [hv] at c24
  have f24 := hx.cells.frozen 24
  have cc := fun i (hi : i < 27) => hx.cells.cell i hi
  have k0 := cc 0 (by decide)
  have k1 := cc 1 (by decide)
  have k2 := cc 2 (by decide)
  have k3 := cc 3 (by decide)
  have k4 := cc 4 (by decide)
  have k5 := cc 5 (by decide)
  have k6 := cc 6 (by decide)
  have k7 := cc 7 (by decide)
  have k8 := cc 8 (by decide)
  have k9 := cc 9 (by decide)
  have k10 := cc 10 (by decide)
  have k11 := cc 11 (by decide)
  have z := fun i => hx.cells.frozen i
  have z0 := z 0
  have z1 := z 1
  have z2 := z 2
  have z3 := z 3
  have z4 := z 4
  have z5 := z 5
  have z6 := z 6
  have z7 := z 7
  have z8 := z 8
  have z9 := z 9
  have z10 := z 10
  have z11 := z 11
  have hx0 := Lib.hid hx
  have H := Lib.hid h
  have HF := Lib.hid hf
  have HV := Lib.hid hv
  have HB := Lib.hid hb
  clear h hx hf hf' hv hb cc z
  unfold maxLen at hc2
  generalize hn : fs.length = n at *
  have HN := Lib.hid hn
  clear hn
  have w1 : IntKind.i64.wrap (n : Int) = n := IntWalk.i64_in _ (by omega)
  have w2 : (n : Int) + 1 - 1 = n := by omega
  have w4 : (n : Int).toNat = n := by omega
  have w0 : (n : Int) ≤ cap := by omega
  have w3 : n ≤ cap := by omega
  go_enter Try.func58, Try.ntmps58
  go_wp2_with fail
  go_still_tail 14, (by kernel_rfl)
  go_wp2_with (with_reducible refine wpList_copy_cells rfl (.tmp 33) (.tmp 34) 56 56 rfl 22 Try.underlying56 info_u64 (L.s.th t) 0 12 12 sp rs.length sc rfl rfl 58 27 (fun i => if i < 12 then .int .u64 0 else thrCell (S.th t) (.slice (some ⟨g, 0, none⟩) n cap) (L.rv t) (L.sv t) i) ?hc (rs.map (Value.int .u64)) ?hn ?hsrc ?hfit ?h1 ?hk)
  case hc =>
    exact (Cells.drew (Cells.set (Cells.set (Cells.set (Cells.set (Cells.set (Cells.set (Cells.set (Cells.set (Cells.set (Cells.set (Cells.set (Cells.set (Cells.set hx0.out.cells 24 _) 0 _) 1 _) 2 _) 3 _) 4 _) 5 _) 6 _) 7 _) 8 _) 9 _) 10 _) 11 _)).ext fun i hi => by
      match i, hi with
      | 0, _ | 1, _ | 2, _ | 3, _ | 4, _ | 5, _ | 6, _ | 7, _ | 8, _ | 9, _ | 10, _ | 11, _ | 12, _ | 13, _ | 14, _ | 15, _ | 16, _ | 17, _ | 18, _ | 19, _ | 20, _ | 21, _ | 22, _ | 23, _ | 24, _ | 25, _ | 26, _ => rfl
      | k + 27, hi => exact absurd hi (by omega)
  case hn => simp only [List.length_map]; exact (Nat.min_eq_left hl).symm
  case hsrc =>
    intro hp
    obtain ⟨ad, e, hb, hne, hc⟩ := hsrc (by simpa using hp)
    refine ⟨ad, e, fun j v hj => ?_⟩
    rw [List.getElem?_map] at hj
    cases hq : rs[j]? with
    | none => rw [hq] at hj; cases hj
    | some x =>
      rw [hq] at hj
      cases hj
      rw [← hc j x hq]
      refine World.cell?_of_block ?_
      have e1 : (ad.add j).block = ad.block := by unfold Addr.add; split <;> rfl
      rw [e1]
      refine Turned.block (g := L.s.th t) (Turned.drew ?_) _ hne
      repeat (refine Turned.setCell ?_ _ _)
      exact Turned.refl _ _
  case hfit => simp; omega
  case h1 => intro v hv; simp at hv; obtain ⟨a, _, rfl⟩ := hv; rfl
  case hk =>
  intro w2 hc2' ht2
  have hT : Turned (L.s.th t) w w2 := by
    refine Turned.trans (Turned.drew ?_) ht2
    repeat (refine Turned.setCell ?_ _ _)
    exact Turned.refl _ _
  have HT := Lib.hid hT
  have HC := Lib.hid hc2'
  clear hT hc2' ht2 k0 k1 k2 k3 k4 k5 k6 k7 k8 k9 k10 k11 z0 z1 z2 z3 z4 z5 z6 z7 z8 z9 z10 z11 c24 f24
  go_wp2
  go_end0
  have hl' : L.fr t = b :: bs := HB.out
  refine ⟨L.pop t g n cap, rfl, ?_, ⟨rfl, fun _ _ => rfl, ⟨HT.out.os, HT.out.tape, HT.out.output, by rw [HT.out.size]; exact Nat.le_refl _, fun b' _ ho => HT.out.block b' fun e => by rw [e, hx0.out.own] at ho; cases ho⟩⟩⟩
  have hne : ∀ k, L.own k ≠ .thr t → k ≠ L.s.th t := fun k hk e => hk (e ▸ hx0.out.own)
  refine H.out.moved (t := t) rfl (fun _ _ => rfl) (fun b' hb' => H.out.fresh b' (by rw [← HT.out.size]; exact hb')) (fun b' hb' h1 h2 => HT.out.block b' (hne b' fun e => h2 (e ▸ .inl rfl))) (fun t' e => ⟨upd_ne _ _ _ e, upd_ne _ _ _ e, rfl, rfl⟩) ?_
  have hfr : (S.th t).frames.tail = fs := by rw [HF.out]; rfl
  have hrow := hx0.out.frames
  rw [HV.out, HF.out, hl'] at hrow
  refine ⟨hx0.out.own, ?_, ?_, ?_, ?_, ?_⟩
  · show Cells w2 (L.s.th t) _ 27 (thrCell _ (upd L.fv t _ t) _ _)
    rw [upd_same]
    refine HC.out.ext fun i hi => ?_
    unfold pasted
    dsimp only
    by_cases c12 : i < 12
    · have e1 : thrCell { S.th t with frames := (S.th t).frames.tail, ret := regs rs } (.slice (some ⟨g, 0, none⟩) n cap) (L.rv t) (L.sv t) i = .int .u64 (regs rs i) := by
        match i, c12 with
        | 0, _ | 1, _ | 2, _ | 3, _ | 4, _ | 5, _ | 6, _ | 7, _ | 8, _ | 9, _ | 10, _ | 11, _ => rfl
        | k + 12, c => exact absurd c (by omega)
      refine Eq.trans ?_ e1.symm
      by_cases cr : i < rs.length
      · rw [if_pos (by simp; omega)]
        simp [regs, List.getD, cr]
      · rw [if_neg (by simp; omega), if_pos c12]
        simp [regs, List.getD, cr]
    · rw [if_neg (by simp; omega), if_neg c12]
      match i, hi, c12 with
      | 12, _, _ | 13, _, _ | 14, _, _ | 15, _, _ | 16, _, _ | 17, _, _ | 18, _, _ | 19, _, _ | 20, _, _ | 21, _, _ | 22, _, _ | 23, _, _ | 24, _, _ | 25, _, _ | 26, _, _ => rfl
      | k + 27, h, _ => exact absurd h (by omega)
      | 0, _, c | 1, _, c | 2, _, c | 3, _, c | 4, _, c | 5, _, c | 6, _, c | 7, _, c | 8, _, c | 9, _, c | 10, _, c | 11, _, c => exact absurd c (by omega)
  · show RowIs L.own _ w2 _ 1 (upd L.fv t _ t) (S.th t).frames.tail.length ((upd L.fr t _ t).reverse.map ptr)
    rw [upd_same, upd_same, hfr, hl', HN.out]
    refine RowIs.congr (w := w) ⟨?_, fun k hk => ?_⟩ fun k hk _ => HT.out.block k (hne k (by rw [hk]; simp))
    · obtain ⟨l1, l2⟩ := hrow.1
      rcases l2 with ⟨e, _⟩ | ⟨g', cap', cur, hv, hb', hh, r1, r2, r3, r4⟩
      · cases e
      · simp only [Value.slice.injEq, Option.some.injEq, Addr.mk.injEq, and_true] at hv
        obtain ⟨rfl, _, rfl⟩ := hv
        have hbl' : bs.length = n := hbl
        refine ⟨by simp [hbl'], .inr ⟨g, cap, cur, rfl, hb', hh, w3, r2, r3, ?_⟩⟩
        rw [List.reverse_cons, List.map_append] at r4
        have := congrArg (List.take n) r4
        rw [List.take_take] at this
        simp only [List.tail_cons, Nat.mul_one]
        rw [Nat.mul_one, List.take_append_of_le_length (by simp [hbl'])] at this
        rw [List.take_of_length_le (i := n) (by simp [hbl'])] at this
        rw [← this]
        congr 1
        simp [HN.out]
    · have : g = k := by simpa [Value.ownBlock] using hk
      subst this
      exact hgo
  · show Frs L.own w2 t (upd L.fr t _ t) (S.th t).frames.tail
    rw [upd_same, hfr, hl']
    have hq := hx0.out.frs
    rw [HF.out, hl'] at hq
    exact hq.2.2.congr fun k i hk _ => HT.out.block k (hne k (by rw [hk]; simp))
  · exact hx0.out.row.congr fun k hk _ => HT.out.block k (hne k (by rw [hk]; simp))
  · exact hx0.out.stack.congr fun k hk _ => HT.out.block k (hne k (by rw [hk]; simp))
end Go.Proofs.Ytjnikgliecgbdaa
