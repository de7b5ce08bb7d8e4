/- The machine's calls, over what the law keeps; what a step of a routine tells. -/
import Derived.Test.YtjnikgliecgbdaaGo
namespace Go.Proofs.Ytjnikgliecgbdaa
open Go.RowKit

/-- An append onto a row of the call's own, of any number of cells, as a step of a region that draws its order. -/
theorem step_append_at {P : Program} {ops : Array Oper} {o : Oper} {a : Act} {w : World} {K : Act → World → Prop} {Q : Exit → Act → World → Prop} {E : Prop} (hgd : o.guard = none) (s x : Operand) (t : TypeId)
    (ho : o.op = .call { callee := .builtin .append, args := #[s, x], argTypes := #[t, t] })
    (base : Nat) (e : TypeId) (i : TypeInfo) (z : Value) (size bytes : Nat) (ht : P.underlying t = some (.slice e)) (hi : P.info? e = some i) (hz : i.zero = some z)
    (hsize : i.size = size) (hby : i.bytes = bytes) (hzs : z.cells.size = size) (hsz : 0 < size)
    (v : Value) (n : Nat) (xs : List Value) (hs : a.eval s = v) (hown : w.ownsRow base e size v n xs)
    (ad : Addr) (m c : Nat) (news : List Value) (hx : a.eval x = .slice (some ad) m c) (hl : news.length = m * size) (hnews : ∀ j u, news[j]? = some u → w.cell? (ad.add j) = some u) (h1 : ∀ u ∈ news, u.oneCell' = true)
    (h63 : n + m ≤ maxLen) (hbytes : (n + m) * bytes ≤ 140737488355328) (hbase : base ≤ w.heap.size)
    (h : ∀ p c w', w'.ownsRow base e size (.slice p (n + m) c) (n + m) (xs ++ news) → w.grownBy w' v.ownBlock → ((Value.slice p (n + m) c).ownBlock = v.ownBlock ∨ (Value.slice p (n + m) c).ownBlock = some w.heap.size) → K (a.put o.dst (.slice p (n + m) c)) w') :
    if Region.wanted o (yielded ops a.tmps) = true then Oper.wp P o a w K Q else E := by
  have hw : Region.wanted o (yielded ops a.tmps) = true := by simp [Region.wanted, hgd]
  rw [if_pos hw]
  obtain ⟨v', w', hr, h2, h3, _, h5⟩ := run_append_own_at (P := P) w base t o.type e i z size bytes ht hi hz hsize hby hzs hsz v n xs hown ad m c news hl hnews h1 h63 hbytes hbase
  obtain ⟨p, c', rfl⟩ : ∃ p c', v' = .slice p (n + m) c' := by
    rcases h2.2 with ⟨e1, e2⟩ | ⟨g, cap, cur, e1, _⟩
    · exact ⟨none, 0, by rw [e1, e2]⟩
    · exact ⟨_, _, e1⟩
  unfold Oper.wp execOp
  simp only [ho, resolve, invoke, builtin, Sem.run_bind, Sem.run_pure, Result.andThen_ok, List.map_toArray, List.map_cons, List.map_nil, hs, hx, hr]
  exact h p c' w' h2 h3 h5

section
variable {E : Env} {L : Lay} {S : MS} {had : Nat → List Int} {emp : Nat → Bool} {hv : Nat → Value} {W : World} {b : Int} {F : List Nat}

def CrowdGoes (E : Env) (S' : MS) (had : Nat → List Int) (emp : Nat → Bool) (hv : Nat → Value) (v : Value) (e : Ending) (w' : World) : Prop := ∃ L', e = .returned v ∧ Crowd E L' S' had emp hv w'

theorem Crowd.call (h : Crowd E L S had emp hv W) {t : Nat} (ht : t < E.T) (hf : (S.th t).frames = []) (fn : Int) (rs : List Int) (hl : rs.length ≤ 24) (sp : Option Addr) (sc : Nat)
    (hsrc : 0 < rs.length → ∃ ad, sp = some ad ∧ ad.block < W.heap.size ∧ ∀ (j : Nat) (x : Int), rs[j]? = some x → W.cell? (ad.add j) = some (.int .u64 x)) :
    Calls Try.prog 9 #[.pointer (some ⟨E.s.th t, 0, none⟩), .int .i64 fn, .slice sp rs.length sc] W fun e w' => CrowdGoes E (S.call t fn rs) had emp hv (.tuple #[]) e w' := by
  have := frame_Call h.rep (t := t) (by rw [h.T]; exact ht) (by rw [hf]; simp) fn rs hl sp sc hsrc
  rw [h.s] at this
  refine this.mono ?_
  rintro e w' ⟨L', rfl, hr, hm⟩
  exact ⟨L', rfl, h.goes hr hm rfl⟩

theorem Crowd.top (h : Crowd E L S had emp hv W) {t : Nat} (ht : t < E.T) {f : FS} (hf : (S.th t).frames = [f]) :
    ∃ b, L.fr t = [b] ∧ Calls Try.prog 10 #[.pointer (some ⟨E.s.th t, 0, none⟩)] W (fun e w' => Quiets (.pointer (some ⟨b, 0, none⟩)) W e w') ∧ W.cell? ⟨b, 0, none⟩ = some (.int .i64 f.fn) := by
  have htS : t < S.T := by rw [h.T]; exact ht
  have hlen := (h.rep.cth t htS).frs.length
  rw [hf] at hlen
  match hq : L.fr t, hlen with
  | [b], _ =>
    refine ⟨b, rfl, ?_, ?_⟩
    · have := frame_Top (h.rep.cth t htS) (by rw [hf]; simp)
      rw [h.s, show topPtr L t = .pointer (some ⟨b, 0, none⟩) by simp [topPtr, hq]] at this
      exact this
    · exact (h.rep.topCells htS hq hf).1.cell 0 (by decide)

theorem Crowd.chain (h : Crowd E L S had emp hv W) {had' : Nat → List Int} (hi : InvL b S F had') : Calls Try.prog 11 #[.pointer (some ⟨E.s.m, 0, none⟩)] W fun e w' => ∃ a k, e = .returned (.slice a F.length k) ∧ Crowd E L S had emp hv w' := by
  have := law_chain h.rep hi.nonneg
  rw [h.s, hi.chain] at this
  refine this.mono ?_
  rintro e w' ⟨a, k, rfl, _, hb⟩
  exact ⟨a, k, rfl, h.thru hb⟩

theorem Crowd.step (h : Crowd E L S had emp hv W) {had' : Nat → List Int} (hi : InvL b S F had') {t : Nat} (ht : t < E.T) {f : FS} (hf : (S.th t).frames = [f]) :
    Calls Try.prog 12 #[.pointer (some ⟨E.s.m, 0, none⟩), .int .i64 t, .func (.func 13) #[] #[]] W fun e w' => CrowdGoes E (S.slotsStep t) had emp hv (.bool ((S.slotsStep t).busy t)) e w' := by
  have htS : t < S.T := by rw [h.T]; exact ht
  have := law_Step h.rep htS hf (by simp) (by have := hi.cntLe; omega)
  rw [h.s] at this
  refine this.mono ?_
  rintro e w' ⟨L', rfl, hr, hm⟩
  refine ⟨L', ?_, h.goes hr hm (slotsStep_T S t)⟩
  have : (S.slotsStep t).busy t = (S.slotsBit t f).busy t := by
    unfold MS.slotsStep
    rw [hf]
    rfl
  rw [this]

theorem InvL.faultless {had' : Nat → List Int} (h : InvL b S F had') : S.faulty = false := by
  unfold MS.faulty
  rw [h.fault, h.mfault, h.slips]
  rfl
theorem Crowd.fault (h : Crowd E L S had emp hv W) {had' : Nat → List Int} (hi : InvL b S F had') : Calls Try.prog 14 #[.pointer (some ⟨E.s.m, 0, none⟩)] W fun e w' => e = .returned (.bool false) ∧ W = w' := by
  have := core_Fault h.rep
  rw [h.s, hi.faultless] at this
  exact this
theorem Crowd.guard (h : Crowd E L S had emp hv W) : Calls Try.prog 15 #[.pointer (some ⟨E.s.m, 0, none⟩)] W fun e w' => e = .returned (.pointer (some ⟨E.s.g, 0, none⟩)) ∧ W = w' := by
  have := core_Guard h.rep
  rw [h.s] at this
  exact this
theorem Crowd.leads (h : Crowd E L S had emp hv W) (x : Int) (hx : S.leads x = true) : Calls Try.prog 16 #[.pointer (some ⟨E.s.g, 0, none⟩), .int .u64 x] W fun e w' => Quiets (.bool true) W e w' := by
  have := guard_Leads h.rep x
  rw [h.s, hx] at this
  exact this
theorem Crowd.ret (h : Crowd E L S had emp hv W) {t : Nat} (ht : t < E.T) : W.cell? ⟨E.s.th t, 0, none⟩ = some (.int .u64 ((S.th t).ret 0)) := by
  have := (h.rep.cth t (by rw [h.T]; exact ht)).cells.cell 0 (by decide)
  rw [h.s] at this
  exact this
end

/-- An empty row that was just made. -/
theorem own_empty (w : World) (base : Nat) (ty : TypeId) (hb : base ≤ w.heap.size) : (w.alloc (.cells #[] ty)).drew.ownsRow base ty 1 (.slice (some ⟨w.heap.size, 0, none⟩) 0 0) 0 [] :=
  ⟨rfl, .inr ⟨w.heap.size, 0, #[], rfl, hb, by show (w.heap.push _)[w.heap.size]? = _; simp, Nat.le_refl _, Nat.zero_le _, rfl, rfl⟩⟩

/-- Cells of a row, wherever it is as it was. -/
theorem row_cells {w : World} {base : Nat} {ty : TypeId} {gb n c k : Nat} {l xs : List Value} (h : w.ownsRow base ty 1 (.slice (some ⟨gb, 0, none⟩) n c) n xs) (hl : ∀ j u, l[j]? = some u → xs[k + j]? = some u) {W' : World} (hw : W'.heap[gb]? = w.heap[gb]?) :
    ∀ j u, l[j]? = some u → W'.cell? ((⟨gb, k, none⟩ : Addr).add j) = some u := by
  intro j u hj
  have := h.cells (g := gb) rfl (k + j) u (hl j u hj)
  have e1 : (⟨gb, k, none⟩ : Addr).add j = ⟨gb, k + j, none⟩ := by unfold Addr.add; split <;> simp_all
  have e2 : (⟨gb, 0, none⟩ : Addr).add (k + j) = ⟨gb, k + j, none⟩ := by unfold Addr.add; split <;> simp_all
  rw [e2] at this
  rw [e1]
  unfold World.cell? at *
  rw [hw]
  exact this

theorem grown_below {w w' : World} {row : Option Nat} {B : Nat} (h : w.grownBy w' row) (hB : B ≤ w.heap.size) (hr : ∀ g, row = some g → B ≤ g) : Below B w w' :=
  ⟨h.os, h.tape, h.output, h.size, fun k hk => h.block k (by omega) fun q => by have := hr k q.symm; omega⟩

theorem Crowd.erased {E : Env} {L : Lay} {S : MS} {had : Nat → List Int} {emp : Nat → Bool} {hv : Nat → Value} {W W1 w6 w9 : World} (h : Crowd E L S had emp hv W) {t x : Nat} (ht : t < E.T) (hx : x < (had t).length) {v1 : Value} {p9 : Option Addr} {n9 c9 : Nat}
    (b1 : Below W.heap.size W W1) (g6 : W1.grownBy w6 (some W.heap.size)) (a1 : v1.ownBlock = some W.heap.size ∨ v1.ownBlock = some W1.heap.size) (g9 : w6.grownBy w9 v1.ownBlock)
    (a9 : (Value.slice p9 n9 c9).ownBlock = v1.ownBlock ∨ (Value.slice p9 n9 c9).ownBlock = some w6.heap.size)
    (o9 : w9.ownsRow E.w0.heap.size 41 1 (.slice p9 n9 c9) n9 (([] ++ ((had t).map (Value.int .u64)).take x) ++ ((had t).map (Value.int .u64)).drop (x + 1))) :
    Crowd E L S (upd had t ((had t).eraseIdx x)) emp (upd hv t (.slice p9 n9 c9)) (w9.setCell ⟨E.hb, t, none⟩ (.slice p9 n9 c9)) := by
  have s1 := b1.size
  have s6 := g6.size
  have b6 : Below W.heap.size W1 w6 := grown_below g6 s1 fun g q => by
    have : W.heap.size = g := by simpa using q
    omega
  have hv1 : ∀ g, v1.ownBlock = some g → W.heap.size ≤ g := fun g q => by
    rcases a1 with e | e
    · rw [e] at q
      have : W.heap.size = g := by simpa using q
      omega
    · rw [e] at q
      have : W1.heap.size = g := by simpa using q
      omega
  have b9 : Below W.heap.size w6 w9 := grown_below g9 (by omega) hv1
  have bb : Below W.heap.size W w9 := (b1.trans b6).trans b9
  refine h.newRow ht ⟨bb.os, bb.tape, bb.output, bb.size, fun k hk _ => bb.block k hk⟩ ?_ (.inr fun g hg => ?_)
  · have hl : ([] ++ ((had t).map (Value.int .u64)).take x) ++ ((had t).map (Value.int .u64)).drop (x + 1) = ((had t).eraseIdx x).map (Value.int .u64) := by
      rw [List.nil_append, List.eraseIdx_eq_take_drop_succ, List.map_append, List.map_take, List.map_drop]
    have hn : n9 = ((had t).eraseIdx x).length := by
      have := o9.1
      rw [hl, List.length_map] at this
      omega
    rw [hl, hn] at o9
    rw [hn]
    exact o9
  · rcases a9 with e | e
    · exact hv1 g (e ▸ hg)
    · rw [e] at hg
      have : w6.heap.size = g := by simpa using hg
      omega

/-- Take's marks go on. -/
theorem emp_step {b : Int} {S : MS} {F F' : List Nat} {had had' : Nat → List Int} {T : Nat} {emp emp' : Nat → Bool} (h : InvL b S F had) {t : Nat} (ht : t < S.T) {f : FS} (hf : (S.th t).frames = [f]) (hT : S.T = T)
    (h' : InvL (b + 1) (S.slotsStep t) F' had') (he : EmpOk T S emp) (hm : ∀ u, u < T → emp u = true → emp' u = true) (hF : F' = [] → ∀ u, u < T → emp' u = true) : EmpOk T (S.slotsStep t) emp' := by
  intro u hu g hg g1 g2 g3
  by_cases e : u = t
  · subst e
    obtain ⟨hk, hp⟩ := h.fok ht hf
    have l2 := load_two h.fit
    rcases hk with h1 | h1
    · rcases hp with hp | hp | hp | hp
      · have heq : S.slotsStep u = S.stepped ((S.at1 2).top u { f with r := upd f.r 1 (S.load 2), pc := 1 }) := by
          simp [MS.slotsStep, hf, MS.slotsBit, h1, MS.takeBit, hp]
        have hg' : g = { f with r := upd f.r 1 (S.load 2), pc := 1 } := by
          rw [heq, turn_frames hf (S1 := S.at1 _) rfl] at hg
          simpa using hg
        rw [hg'] at g3
        have g3' : Bt.slot (S.load 2) = 0 := by
          have : (upd f.r 1 (S.load 2)) 1 = S.load 2 := upd_same _ _ _
          rw [← this]
          exact g3
        have hw : (S.slotsStep u).words 2 = S.words 2 := by rw [heq]; rfl
        obtain ⟨c, _, _, hw2, _⟩ := h'.head
        have hd := h'.hd
        refine hF ?_ u hu
        cases F' with
        | nil => rfl
        | cons x l =>
          have hx := h'.mem (s := x) (by simp)
          simp only [List.headD_cons] at hw2 hd
          rw [l2] at g3'
          rw [hw] at hw2
          rw [hw2] at g3'
          unfold Bt.slot at g3'
          omega
      · have := he u hu f (by rw [hf]; simp) h1 hp
        by_cases hz : Bt.slot (f.r 1) = 0
        · exact hm u hu (this hz)
        · have heq : S.slotsStep u = S.stepped ((S.at1 (S.nodeAt (Bt.slot (f.r 1)) 0)).top u { f with r := upd f.r 2 (S.load (S.nodeAt (Bt.slot (f.r 1)) 0)), pc := 2 }) := by
            simp [MS.slotsStep, hf, MS.slotsBit, h1, MS.takeBit, hp, hz]
          rw [heq, turn_frames hf (S1 := S.at1 _) rfl] at hg
          have hg' := List.mem_singleton.1 hg
          rw [hg'] at g2
          exact absurd g2 (by show ¬ ((2 : Int) = 1); decide)
      · exfalso
        rcases rank_step h ht hf with e | ⟨g', e, _⟩
        · rw [e] at hg; exact absurd hg (by simp)
        · cases hc : S.casOk 2 (f.r 1) with
          | true =>
            have he2 : S.slotsStep u = S.stepped ((((S.top u { f with pc := 0 }).cas 2 (f.r 1) (Bt.head (IntKind.i64.wrap (f.r 2)) (Bt.chg (f.r 1) + 1))).take (Bt.slot (f.r 1))).top u { f with pc := 3 }) := by
              simp [MS.slotsStep, hf, MS.slotsBit, h1, MS.takeBit, hp, hc]
            rw [he2] at hg
            have hq : (MS.th (S.stepped ((((S.top u { f with pc := 0 }).cas 2 (f.r 1) (Bt.head (IntKind.i64.wrap (f.r 2)) (Bt.chg (f.r 1) + 1))).take (Bt.slot (f.r 1))).top u { f with pc := 3 })) u).frames = [{ f with pc := 3 }] := by
              show (upd (upd S.th u { S.th u with frames := _ :: (S.th u).frames.tail }) u { (upd S.th u { S.th u with frames := _ :: (S.th u).frames.tail }) u with frames := { f with pc := 3 } :: ((upd S.th u { S.th u with frames := _ :: (S.th u).frames.tail }) u).frames.tail } u).frames = [_]
              rw [upd_same, upd_same, hf]
              rfl
            rw [hq] at hg
            have hg' := List.mem_singleton.1 hg
            rw [hg'] at g2
            exact absurd g2 (by show ¬ ((3 : Int) = 1); decide)
          | false =>
            have he2 : S.slotsStep u = S.stepped ((S.top u { f with pc := 0 }).cas 2 (f.r 1) (Bt.head (IntKind.i64.wrap (f.r 2)) (Bt.chg (f.r 1) + 1))) := by
              simp [MS.slotsStep, hf, MS.slotsBit, h1, MS.takeBit, hp, hc]
            rw [he2] at hg
            have hq : (MS.th (S.stepped ((S.top u { f with pc := 0 }).cas 2 (f.r 1) (Bt.head (IntKind.i64.wrap (f.r 2)) (Bt.chg (f.r 1) + 1)))) u).frames = [{ f with pc := 0 }] := by
              show (upd S.th u { S.th u with frames := _ :: (S.th u).frames.tail } u).frames = [_]
              rw [upd_same, hf]
              rfl
            rw [hq] at hg
            have hg' := List.mem_singleton.1 hg
            rw [hg'] at g2
            exact absurd g2 (by show ¬ ((0 : Int) = 1); decide)
      · exfalso
        rw [take3_eq hf h1 hp] at hg
        have hq : (upd S.th u { S.th u with frames := [], ret := regs [Bt.slot (f.r 1) + 4096 * (S.load (S.nodeAt (Bt.slot (f.r 1)) 1) % Bt.p50)] } u).frames = [] := by rw [upd_same]
        have hg : g ∈ (upd S.th u { S.th u with frames := [], ret := regs [Bt.slot (f.r 1) + 4096 * (S.load (S.nodeAt (Bt.slot (f.r 1)) 1) % Bt.p50)] } u).frames := hg
        rw [hq] at hg
        exact absurd hg (by simp)
    · exfalso
      have key : ∀ g, g ∈ ((S.slotsStep u).th u).frames → g.fn = 2 := by
        intro g hg
        have hs : S.slotsStep u = S.stepped (S.giveBit u f) := by simp [MS.slotsStep, hf, MS.slotsBit, h1]
        rw [hs] at hg
        have hg : g ∈ ((S.giveBit u f).th u).frames := hg
        unfold MS.giveBit at hg
        (repeat' split at hg) <;> simp [MS.at1, MS.top, MS.back, MS.cas, MS.store, MS.drop, upd_same, hf] at hg <;> (try (rw [hg]; exact h1))
      have := key g hg
      omega
  · rw [slots_other S t u e] at hg
    exact hm u hu (he u hu g hg g1 g2 g3)

/-- What Take tells, at its end. -/
theorem take_ends {b : Int} {S : MS} {F : List Nat} {had : Nat → List Int} (h : InvL b S F had) {t : Nat} (ht : t < S.T) {f : FS} (hf : (S.th t).frames = [f]) (h1 : f.fn = 1) (he : ((S.slotsStep t).th t).frames = []) :
    (f.pc = 1 ∧ Bt.slot (f.r 1) = 0 ∧ ((S.slotsStep t).th t).ret 0 = 0) ∨ (f.pc = 3 ∧ ((S.slotsStep t).th t).ret 0 = S.edge (Bt.slot (f.r 1))) := by
  obtain ⟨_, hp⟩ := h.fok ht hf
  rcases hp with hp | hp | hp | hp
  · exfalso
    have heq : S.slotsStep t = S.stepped ((S.at1 2).top t { f with r := upd f.r 1 (S.load 2), pc := 1 }) := by
      simp [MS.slotsStep, hf, MS.slotsBit, h1, MS.takeBit, hp]
    rw [heq, turn_frames hf (S1 := S.at1 _) rfl] at he
    exact absurd he (by simp)
  · by_cases hz : Bt.slot (f.r 1) = 0
    · refine .inl ⟨hp, hz, ?_⟩
      have heq : S.slotsStep t = S.stepped (S.back t [0]) := by
        simp [MS.slotsStep, hf, MS.slotsBit, h1, MS.takeBit, hp, hz]
      rw [heq]
      show (upd S.th t { S.th t with frames := (S.th t).frames.tail, ret := regs [0] } t).ret 0 = 0
      rw [upd_same]
      rfl
    · exfalso
      have heq : S.slotsStep t = S.stepped ((S.at1 (S.nodeAt (Bt.slot (f.r 1)) 0)).top t { f with r := upd f.r 2 (S.load (S.nodeAt (Bt.slot (f.r 1)) 0)), pc := 2 }) := by
        simp [MS.slotsStep, hf, MS.slotsBit, h1, MS.takeBit, hp, hz]
      rw [heq, turn_frames hf (S1 := S.at1 _) rfl] at he
      exact absurd he (by simp)
  · exfalso
    cases hc : S.casOk 2 (f.r 1) with
    | true =>
      have he2 : S.slotsStep t = S.stepped ((((S.top t { f with pc := 0 }).cas 2 (f.r 1) (Bt.head (IntKind.i64.wrap (f.r 2)) (Bt.chg (f.r 1) + 1))).take (Bt.slot (f.r 1))).top t { f with pc := 3 }) := by
        simp [MS.slotsStep, hf, MS.slotsBit, h1, MS.takeBit, hp, hc]
      rw [he2] at he
      have hq : (MS.th (S.stepped ((((S.top t { f with pc := 0 }).cas 2 (f.r 1) (Bt.head (IntKind.i64.wrap (f.r 2)) (Bt.chg (f.r 1) + 1))).take (Bt.slot (f.r 1))).top t { f with pc := 3 })) t).frames = [{ f with pc := 3 }] := by
        show (upd (upd S.th t { S.th t with frames := _ :: (S.th t).frames.tail }) t { (upd S.th t { S.th t with frames := _ :: (S.th t).frames.tail }) t with frames := { f with pc := 3 } :: ((upd S.th t { S.th t with frames := _ :: (S.th t).frames.tail }) t).frames.tail } t).frames = [_]
        rw [upd_same, upd_same, hf]
        rfl
      rw [hq] at he
      exact absurd he (by simp)
    | false =>
      have he2 : S.slotsStep t = S.stepped ((S.top t { f with pc := 0 }).cas 2 (f.r 1) (Bt.head (IntKind.i64.wrap (f.r 2)) (Bt.chg (f.r 1) + 1))) := by
        simp [MS.slotsStep, hf, MS.slotsBit, h1, MS.takeBit, hp, hc]
      rw [he2] at he
      have hq : (MS.th (S.stepped ((S.top t { f with pc := 0 }).cas 2 (f.r 1) (Bt.head (IntKind.i64.wrap (f.r 2)) (Bt.chg (f.r 1) + 1)))) t).frames = [{ f with pc := 0 }] := by
        show (upd S.th t { S.th t with frames := _ :: (S.th t).frames.tail } t).frames = [_]
        rw [upd_same, hf]
        rfl
      rw [hq] at he
      exact absurd he (by simp)
  · refine .inr ⟨hp, ?_⟩
    rw [take3_eq hf h1 hp, (h.told ht hf h1 hp).1]
    show (upd S.th t { S.th t with frames := [], ret := regs [S.edge (Bt.slot (f.r 1))] } t).ret 0 = _
    rw [upd_same]
    rfl

/-- What was told is held by its caller alone. -/
theorem told_alone {b : Int} {S : MS} {F : List Nat} {had : Nat → List Int} {t : Nat} {e : Int} (h : InvL b S F (upd had t (had t ++ [e]))) (ht : t < S.T) :
    e ≠ 0 ∧ S.leads e = true ∧ e = Bt.node e ∧ ∀ u, u < S.T → ∀ x, x ∈ had u → Bt.slot x ≠ Bt.slot e := by
  have hin : e ∈ upd had t (had t ++ [e]) t := by rw [upd_same]; simp
  have hl := h.leads t ht e hin
  have hm : sl e ∈ ownM (upd had t (had t ++ [e])) S t := List.mem_append_left _ (List.mem_map_of_mem hin)
  have hr := h.ownIn ht hm
  have hN := h.fit.N250
  have hg := h.genw (sl e) (by omega) hr.2
  have hedge : e = (sl e : Int) + 4096 * (S.gens (sl e) % Bt.p50) := by
    have h2 := hl.2
    rw [sl_cast, edge_at (by omega) hr.2] at h2
    exact h2
  refine ⟨?_, hl.1, ?_, ?_⟩
  · intro h0
    have : sl e = 0 := by rw [h0]; rfl
    omega
  · unfold Bt.node Bt.p62
    unfold Bt.p50 at hedge
    omega
  · intro u hu x hx q
    have q' : sl x = sl e := by unfold sl; rw [q]
    by_cases e1 : u = t
    · subst e1
      have hnd := h.ownNodup ht
      unfold ownM at hnd
      rw [upd_same, List.map_append] at hnd
      have := (List.nodup_append.1 (List.nodup_append.1 hnd).1).2.2 (sl x) (List.mem_map_of_mem hx) (sl e) (by simp)
      exact this q'
    · have hm2 : sl x ∈ ownM (upd had t (had t ++ [e])) S u := List.mem_append_left _ (List.mem_map_of_mem (by rw [upd_ne _ _ _ e1]; exact hx))
      rw [q'] at hm2
      exact h.apart ht hu e1 hm hm2

theorem flatMap_len_mem {F : Nat → List Nat} {t n : Nat} (ht : t < n) : (F t).length ≤ ((List.range n).flatMap F).length := by
  have := (flatMap_split F t n ht).length_eq
  rw [this, List.length_append]
  omega
theorem InvL.hadLen {b : Int} {S : MS} {F : List Nat} {had : Nat → List Int} (h : InvL b S F had) {t : Nat} (ht : t < S.T) : (had t).length ≤ 245 := by
  have h3 : (F ++ (List.range S.T).flatMap (ownM had S)).Perm ((List.range (S.N - 5)).map (· + 6)) := h.each
  have h4 := h3.length_eq
  have h5 := flatMap_len_mem (F := ownM had S) ht
  have := h.fit.N250
  unfold ownM at h5
  rw [List.length_append, List.length_map, List.length_range] at h4
  rw [List.length_append, List.length_map] at h5
  unfold ownM at h4
  omega
theorem Crowd.elems {E : Env} {L : Lay} {S : MS} {had : Nat → List Int} {emp : Nat → Bool} {hv : Nat → Value} {W : World} {ev : Int} {T : Nat} (h : Crowd E L S had emp hv W) (hal : ∀ u, u < S.T → ∀ x, x ∈ had u → Bt.slot x ≠ Bt.slot ev) (hlen : ∀ u, u < S.T → (had u).length ≤ 245) (hT : E.T = T) {k : Nat} (hk : k < T) :
    ∃ p pc ln, ln ≤ 245 ∧ W.cell? ⟨E.hb, k, none⟩ = some (.slice p ln pc) ∧ ∀ j, j < ln → ∃ gb x, p = some ⟨gb, 0, none⟩ ∧ W.cell? ⟨gb, j, none⟩ = some (.int .u64 x) ∧ (Bt.slot x == Bt.slot ev) = false := by
  subst hT
  obtain ⟨p, pc, hvf, _, hcells, _⟩ := h.form hk
  have chv := h.chb.cell k hk
  refine ⟨p, pc, (had k).length, hlen k (by rw [h.T]; exact hk), by rw [← hvf]; exact chv, fun j hj => ?_⟩
  obtain ⟨gb, hgb, hc⟩ := hcells (Nat.lt_of_le_of_lt (Nat.zero_le j) hj)
  refine ⟨gb, _, hgb, hc j hj, ?_⟩
  have := hal k (by rw [h.T]; exact hk) _ (List.getElem_mem hj)
  simpa using this

theorem InvL.hadLens {b : Int} {S : MS} {F : List Nat} {had : Nat → List Int} {t : Nat} {ev : Int} (h : InvL b S F (upd had t (had t ++ [ev]))) : ∀ u, u < S.T → (had u).length ≤ 245 := by
  intro u hu
  have := h.hadLen hu
  by_cases e : u = t
  · subst e
    rw [upd_same] at this
    simp at this
    omega
  · rw [upd_ne _ _ _ e] at this
    exact this
theorem info_edge : (Try.prog.info? 41).map (fun i => (i.zero, i.size, i.bytes)) = some (some (.int .u64 0), 1, 8) := by kernel_rfl

/-- At rest each slot is held, or free. -/
theorem InvL.atRest {b : Int} {S : MS} {F : List Nat} {had : Nat → List Int} (h : InvL b S F had) (hid : ∀ t, t < S.T → (S.th t).frames = []) :
    (∀ s, s ∈ F → S.leads (S.edge (s : Int)) = false) ∧ (∀ (i k x : Nat), k < i → F[i]? = some x → F[k]? ≠ some x) ∧ F.length + S.cnt = S.N := by
  refine ⟨fun s hs => ?_, fun i k x hki hi hk => ?_, ?_⟩
  · have hm := h.mem hs
    have hn := h.heldNot hs
    have he := edge_slot (S := S) (s := s) (by omega) hm.2 h.fit.N250
    unfold MS.leads
    rw [he]
    simp [hn]
  · have hnd := h.freeNodup
    obtain ⟨hi1, hi2⟩ := List.getElem?_eq_some_iff.1 hi
    obtain ⟨hk1, hk2⟩ := List.getElem?_eq_some_iff.1 hk
    have := (List.pairwise_iff_getElem.1 hnd) k i hk1 hi1 hki
    exact this (hk2.trans hi2.symm)
  · have h1 : S.cnt = 5 + ((List.range S.T).flatMap (ownH had S)).length := h.cnt
    have h3 : (F ++ (List.range S.T).flatMap (ownM had S)).Perm ((List.range (S.N - 5)).map (· + 6)) := h.each
    have h4 := h3.length_eq
    have h5 : (List.range S.T).flatMap (ownH had S) = (List.range S.T).flatMap (ownM had S) := flatMap_same fun u hu => by
      have hu := List.mem_range.1 hu
      unfold ownH ownM TS.mine
      rw [hid u hu]
      rfl
    rw [List.length_append, List.length_map, List.length_range] at h4
    have := h.fit.N7
    rw [h5] at h1
    omega
end Go.Proofs.Ytjnikgliecgbdaa
