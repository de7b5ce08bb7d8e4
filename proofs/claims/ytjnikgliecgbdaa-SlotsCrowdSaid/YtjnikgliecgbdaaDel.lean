/- An edge struck out of a row: the law's one statement that may be done in any order. -/
import Derived.Test.YtjnikgliecgbdaaCalls
namespace Go.Proofs.Ytjnikgliecgbdaa
open Go.RowKit

def findRegion (n : Nat) : Code → Option Code
  | .region k ops d => if k = n then some (.region k ops d) else none
  | .loop c => findRegion n c
  | .seq a b => match findRegion n a with
    | some c => some c
    | none => findRegion n b
  | .block _ c => findRegion n c
  | .scope c => findRegion n c
  | .cond _ a b => match findRegion n a with
    | some c => some c
    | none => findRegion n b
  | _ => none
noncomputable def reg20 : Code := ((Try.f3.body.bind (findRegion 20)).getD .skip)

set_option maxRecDepth 1000000 in
set_option maxHeartbeats 8000000 in
theorem region20 {K K1 K2 K3 : Act → World → Prop} {Pq : Ending → World → Prop} (w w2 : World) (T N : Nat) (st : Int) (s : Stat) (cb hb eb : Nat) (L2 : Lay) (S2 : MS) (had : Nat → List Int) (emp : Nat → Bool) (hv : Nat → Value) (t x : Nat)
    (htT : t < T) (hlen245 : (had t).length ≤ 245) (hxl : x < (had t).length) (h2 : Crowd ⟨w, T, N, st, s, cb, hb, eb⟩ L2 S2 had emp hv w2) (s0 s1 s2 s3 s4 s5 s6 s8 s9 s12 s13 s14 s15 s16 s17 s18 s19 s20 s21 s22 s23 s24 s25 s26 s27 s28 s29 s30 s31 s32 s33 s34 s35 s36 s37 s38 s39 s40 s41 s42 s43 s44 s45 s46 s47 s48 s49 s50 s51 s52 s53 s54 s55 s56 s57 s58 s59 s60 s61 s62 s63 s64 s65 s66 s67 s68 s69 s70 s71 s72 s73 s74 s75 s76 s77 s78 s79 s80 s81 s82 s83 s84 s85 s86 s87 s88 s89 s90 s91 s92 s93 s94 s95 s96 s97 s98 s99 s100 s101 s102 s103 s104 s105 s106 s107 s108 s109 s110 s111 s112 s113 s114 s115 s116 s117 s118 s119 s120 s121 s122 s123 s124 s125 s126 s127 s128 s129 s130 s131 s132 s133 s134 s135 s136 s137 s138 s139 s140 s141 s142 s143 s144 s145 s146 s147 s148 s149 s150 s151 s152 s153 s154 s155 s156 s157 s158 s159 s160 s161 s162 s163 s164 s165 s166 s167 s168 s169 s170 s171 s172 s173 s174 s175 s176 s177 s178 s179 s180 s181 s182 s183 s184 s185 s186 s187 s188 s189 s190 s191 s192 s193 s194 s195 s196 s197 s198 s199 s200 s201 s202 s203 s204 s205 s206 s207 s208 s209 s210 s211 s212 s213 s214 s215 s216 s217 s218 s219 s220 s221 s222 s223 s224 s225 s226 s227 s228 s229 s230 s231 s232 s233 s234 s235 s236 s237 s238 s239 s240 s241 s242 s243 s244 s245 s246 : Value)
    (hK : ∀ (u90 u91 u92 u93 u94 u95 u96 u97 u98 u99 u100 u101 u102 u103 u104 u105 u106 u107 u108 : Value) (v : Value) (w9 : World), Crowd ⟨w, T, N, st, s, cb, hb, eb⟩ L2 S2 (upd had t ((had t).eraseIdx x)) emp (upd hv t v) w9 → K ⟨#[s0, s1, s2, s3, s4, s5, s6, .slice (some ⟨hb, 0, none⟩) T T, s8, s9, .int .i64 t, .int .i64 x, s12, s13, s14, s15, s16, s17, s18, s19, s20, s21, s22, s23, s24, s25, s26, s27, s28, s29, s30, s31, s32, s33, s34, s35, s36, s37, s38, s39, s40, s41, s42, s43, s44, s45, s46, s47, s48, s49, s50, s51, s52, s53, s54, s55, s56, s57, s58, s59, s60, s61, s62, s63, s64, s65, s66, s67, s68, s69, s70, s71, s72, s73, s74, s75, s76, s77, s78, s79, s80, s81, s82, s83, s84, s85, s86, s87, s88, s89, u90, u91, u92, u93, u94, u95, u96, u97, u98, u99, u100, u101, u102, u103, u104, u105, u106, u107, u108, s109, s110, s111, s112, s113, s114, s115, s116, s117, s118, s119, s120, s121, s122, s123, s124, s125, s126, s127, s128, s129, s130, s131, s132, s133, s134, s135, s136, s137, s138, s139, s140, s141, s142, s143, s144, s145, s146, s147, s148, s149, s150, s151, s152, s153, s154, s155, s156, s157, s158, s159, s160, s161, s162, s163, s164, s165, s166, s167, s168, s169, s170, s171, s172, s173, s174, s175, s176, s177, s178, s179, s180, s181, s182, s183, s184, s185, s186, s187, s188, s189, s190, s191, s192, s193, s194, s195, s196, s197, s198, s199, s200, s201, s202, s203, s204, s205, s206, s207, s208, s209, s210, s211, s212, s213, s214, s215, s216, s217, s218, s219, s220, s221, s222, s223, s224, s225, s226, s227, s228, s229, s230, s231, s232, s233, s234, s235, s236, s237, s238, s239, s240, s241, s242, s243, s244, s245, s246], []⟩ w9) :
    Code.wp Try.prog reg20 (Exit.then K (Exit.inBlock 1 (Exit.then K1 (Exit.then K2 (Exit.inBlock 0 (Exit.then K3 (bodyPost Try.prog Try.f3 Pq))))))) ⟨#[s0, s1, s2, s3, s4, s5, s6, .slice (some ⟨hb, 0, none⟩) T T, s8, s9, .int .i64 t, .int .i64 x, s12, s13, s14, s15, s16, s17, s18, s19, s20, s21, s22, s23, s24, s25, s26, s27, s28, s29, s30, s31, s32, s33, s34, s35, s36, s37, s38, s39, s40, s41, s42, s43, s44, s45, s46, s47, s48, s49, s50, s51, s52, s53, s54, s55, s56, s57, s58, s59, s60, s61, s62, s63, s64, s65, s66, s67, s68, s69, s70, s71, s72, s73, s74, s75, s76, s77, s78, s79, s80, s81, s82, s83, s84, s85, s86, s87, s88, s89, s90, s91, s92, s93, s94, s95, s96, s97, s98, s99, s100, s101, s102, s103, s104, s105, s106, s107, s108, s109, s110, s111, s112, s113, s114, s115, s116, s117, s118, s119, s120, s121, s122, s123, s124, s125, s126, s127, s128, s129, s130, s131, s132, s133, s134, s135, s136, s137, s138, s139, s140, s141, s142, s143, s144, s145, s146, s147, s148, s149, s150, s151, s152, s153, s154, s155, s156, s157, s158, s159, s160, s161, s162, s163, s164, s165, s166, s167, s168, s169, s170, s171, s172, s173, s174, s175, s176, s177, s178, s179, s180, s181, s182, s183, s184, s185, s186, s187, s188, s189, s190, s191, s192, s193, s194, s195, s196, s197, s198, s199, s200, s201, s202, s203, s204, s205, s206, s207, s208, s209, s210, s211, s212, s213, s214, s215, s216, s217, s218, s219, s220, s221, s222, s223, s224, s225, s226, s227, s228, s229, s230, s231, s232, s233, s234, s235, s236, s237, s238, s239, s240, s241, s242, s243, s244, s245, s246], []⟩ w2 := by
  obtain ⟨p, pc, hvf, hlc, hcells, hpf⟩ := h2.form htT
  obtain ⟨gb, rfl, hc⟩ := hcells (by omega)
  obtain ⟨ln, hln⟩ : ∃ ln, ln = (had t).length := ⟨_, rfl⟩
  have hxl2 : (x : Int) < ln := by omega
  have hxl3 : x < ln := by omega
  have hlc2 : ln ≤ pc := by omega
  have HX : Hid (hv t = .slice (some ⟨gb, 0, none⟩) (had t).length pc ∧ ln = (had t).length ∧ ∃ h : x < (had t).length, True) := Lib.hid ⟨hvf, hln, hxl, trivial⟩
  clear hvf hlc hcells hpf hln hc hxl
  have H2 := Lib.hid h2
  have ch := h2.chb.cell t htT
  have fh := h2.chb.frozen t
  have zh := h2.chb.lt
  have hro := h2.rows t htT
  have hbase := h2.below.size
  dsimp only at ch fh zh hro hbase
  rw [HX.out.1] at ch hro
  have HRO := Lib.hid hro
  clear h2 hro
  rw [← HX.out.2.1] at ch HRO
  have hgz : gb < w2.heap.size := ((H2.out.rows t htT).lt gb (by rw [HX.out.1]; rfl)).2
  have hl250 : ln ≤ 250 := by have := hlen245; have := HX.out.2.1; omega
  have hmap : ((had t).map (Value.int .u64)).length = ln := by rw [List.length_map, HX.out.2.1]
  obtain ⟨A, hA⟩ : ∃ A, A = ((had t).map (Value.int .u64)).take x := ⟨_, rfl⟩
  obtain ⟨B, hB⟩ : ∃ B, B = ((had t).map (Value.int .u64)).drop (x + 1) := ⟨_, rfl⟩
  have hone : ∀ u, u ∈ (had t).map (Value.int .u64) → u.oneCell' = true := fun u hu => by
    obtain ⟨y, _, rfl⟩ := List.mem_map.1 hu
    rfl
  have HA : Hid (A.length = x * 1 ∧ (∀ (W' : World), W'.heap[gb]? = w2.heap[gb]? → ∀ j u, A[j]? = some u → W'.cell? ((⟨gb, 0, none⟩ : Addr).add j) = some u) ∧ ∀ u ∈ A, u.oneCell' = true) := Lib.hid ⟨by
      rw [hA, List.length_take, hmap]; omega, fun W' hW' => row_cells HRO.out (k := 0) (fun j u hj => by
      rw [hA, List.getElem?_take] at hj
      rw [Nat.zero_add]
      split at hj
      · exact hj
      · cases hj) hW', fun u hu => hone u (List.mem_of_mem_take (hA ▸ hu))⟩
  have HB : Hid (B.length = (ln - (x + 1)) * 1 ∧ (∀ (W' : World), W'.heap[gb]? = w2.heap[gb]? → ∀ j u, B[j]? = some u → W'.cell? ((⟨gb, x + 1, none⟩ : Addr).add j) = some u) ∧ ∀ u ∈ B, u.oneCell' = true) := Lib.hid ⟨by
      rw [hB, List.length_drop, hmap]; omega, fun W' hW' => row_cells HRO.out (k := x + 1) (fun j u hj => by
      rw [hB, List.getElem?_drop] at hj
      exact hj) hW', fun u hu => hone u (List.mem_of_mem_drop (hB ▸ hu))⟩
  have HBL : Hid ((w2.alloc (.cells #[] 41)).drew.heap[gb]? = w2.heap[gb]?) := Lib.hid (Below.heap_alloc _ _ _ hgz)
  have HG : Hid (∀ w6 : World, (w2.alloc (.cells #[] 41)).drew.grownBy w6 (Value.slice (some ⟨w2.heap.size, 0, none⟩) 0 0).ownBlock →
      w6.cell? ⟨hb, t, none⟩ = some (.slice (some ⟨gb, 0, none⟩) ln pc) ∧ w6.frozen? ⟨hb, t, none⟩ = false ∧ w6.heap[gb]? = w2.heap[gb]? ∧ w.heap.size ≤ w6.heap.size) := Lib.hid fun w6 hg => by
    have hb6 : Below w2.heap.size w2 w6 := by
      have b1 : Below w2.heap.size w2 (w2.alloc (.cells #[] 41)).drew := below_drew ((Below.refl _ _).alloc (Nat.le_refl _) _)
      refine b1.trans (grown_below hg (by simp) fun g q => ?_)
      have : w2.heap.size = g := by simpa [Value.ownBlock] using q
      omega
    exact ⟨(World.cell?_of_block (a := ⟨hb, t, none⟩) (hb6.block hb zh)).trans ch, (World.frozen?_of_block (a := ⟨hb, t, none⟩) (hb6.block hb zh)).trans fh, hb6.block gb hgz, Nat.le_trans hbase hb6.size⟩
  have HE : Hid (∀ (p1 : Option Addr) (c1 : Nat) (w6 : World), w6.ownsRow w.heap.size 41 1 (.slice p1 x c1) x ([] ++ A) → (w2.alloc (.cells #[] 41)).drew.grownBy w6 (Value.slice (some ⟨w2.heap.size, 0, none⟩) 0 0).ownBlock →
      ((Value.slice p1 x c1).ownBlock = (Value.slice (some ⟨w2.heap.size, 0, none⟩) 0 0).ownBlock ∨ (Value.slice p1 x c1).ownBlock = some (w2.alloc (.cells #[] 41)).drew.heap.size) →
      ∀ (p9 : Option Addr) (c9 : Nat) (w9 : World), w9.ownsRow w.heap.size 41 1 (.slice p9 (x + (ln - (x + 1))) c9) (x + (ln - (x + 1))) (([] ++ A) ++ B) → w6.grownBy w9 (Value.slice p1 x c1).ownBlock →
      ((Value.slice p9 (x + (ln - (x + 1))) c9).ownBlock = (Value.slice p1 x c1).ownBlock ∨ (Value.slice p9 (x + (ln - (x + 1))) c9).ownBlock = some w6.heap.size) →
      Hid (Crowd ⟨w, T, N, st, s, cb, hb, eb⟩ L2 (S2) (upd had t ((had t).eraseIdx x)) emp (upd hv t (.slice p9 (x + (ln - (x + 1))) c9)) (w9.setCell ⟨hb, t, none⟩ (.slice p9 (x + (ln - (x + 1))) c9))) ∧
        w9.cell? ⟨hb, t, none⟩ = some (.slice (some ⟨gb, 0, none⟩) ln pc) ∧ w9.frozen? ⟨hb, t, none⟩ = false ∧ hb < w9.heap.size) := Lib.hid fun p1 c1 w6 ho6 hg6 ha6 p9 c9 w9 ho9 hg9 ha9 => by
    have b1 : Below w2.heap.size w2 (w2.alloc (.cells #[] 41)).drew := below_drew ((Below.refl _ _).alloc (Nat.le_refl _) _)
    have z1 : w2.heap.size ≤ (w2.alloc (.cells #[] 41)).drew.heap.size := b1.size
    have b6 : Below w2.heap.size (w2.alloc (.cells #[] 41)).drew w6 := grown_below hg6 z1 fun g q => by
      have : w2.heap.size = g := by simpa [Value.ownBlock] using q
      omega
    have z6 := b6.size
    have b9 : Below w2.heap.size w6 w9 := grown_below hg9 (by omega) fun g q => by
      rcases ha6 with e | e
      · rw [e] at q
        have : w2.heap.size = g := by simpa [Value.ownBlock] using q
        omega
      · rw [e] at q
        have : (w2.alloc (.cells #[] 41)).drew.heap.size = g := by simpa using q
        omega
    have bb := (b1.trans b6).trans b9
    have z9 := bb.size
    refine ⟨Lib.hid (H2.out.erased htT (by have := HX.out.2.2; obtain ⟨q, _⟩ := this; exact q) b1 hg6 ?_ hg9 ha9 ?_), (World.cell?_of_block (a := ⟨hb, t, none⟩) (bb.block hb zh)).trans ch, (World.frozen?_of_block (a := ⟨hb, t, none⟩) (bb.block hb zh)).trans fh, by omega⟩
    · rcases ha6 with e | e
      · exact .inl e
      · exact .inr e
    · rw [← hA, ← hB]
      exact ho9
  obtain ⟨i0, hi0, hz0, hz1, hz2⟩ := info_parts info_edge
  clear hA hB hone hmap H2 HRO hlen245
  have M : Hid (0 + x ≤ maxLen ∧ (0 + x) * 8 ≤ 140737488355328 ∧ w.heap.size ≤ (w2.alloc (.cells #[] 41)).drew.heap.size ∧ x + (ln - (x + 1)) ≤ maxLen ∧ (x + (ln - (x + 1))) * 8 ≤ 140737488355328) := Lib.hid ⟨by unfold maxLen; omega, by omega, by simp; omega, by unfold maxLen; omega, by omega⟩
  have hx1 : x ≤ pc := by omega
  have hx2 : x + 1 ≤ ln := by omega
  have hx3 : x + 1 ≤ pc := by omega
  have hx4 : (0 : Int) ≤ (x : Int) + 1 := by omega
  have hx5 : (x : Int) + 1 ≤ ln := by omega
  have hx6 : ((x : Int) + 1).toNat = x + 1 := by omega
  have hx7 : IntKind.i64.wrap ((x : Int) + 1) = x + 1 := IntWalk.i64_in _ (by omega)
  unfold reg20
  conv => arg 2; whnf
  by_cases hpc : x + 1 = pc
  · obtain rfl : pc = x + 1 := hpc.symm
    have hx8 : (x : Int) ≤ (x : Int) + 1 := by omega
    have HB0 : Hid (∀ (W' : World) j u, B[j]? = some u → W'.cell? ((⟨gb, 0, none⟩ : Addr).add j) = some u) := Lib.hid fun W' j u hj => by
      have hl0 := HB.out.1
      have : B = [] := List.eq_nil_of_length_eq_zero (by omega)
      rw [this] at hj
      cases hj
    have hm0 : ln - (x + 1) = 0 := by omega
    rw [hm0] at HB M
    simp only [hm0, Nat.add_zero] at HE M
    clear hm0
    go_wp2_with fail
    go_region_law (first | (refine step_append_at rfl (.tmp 92) (.tmp 98) 39 rfl w.heap.size 41 i0 (.int .u64 0) 1 8 Try.underlying39 hi0 hz0 hz1 hz2 rfl (by decide) (.slice (some ⟨w2.heap.size, 0, none⟩) 0 0) 0 [] rfl (own_empty _ _ _ hbase) ⟨gb, 0, none⟩ x (x + 1) A rfl HA.out.1 (HA.out.2.1 _ HBL.out) HA.out.2.2 M.out.1 M.out.2.1 M.out.2.2.1 ?_; intro p1 c1 w6 hown6 hgrow6 hat6; rw [Nat.zero_add] at hown6 hat6; have H6 := Lib.hid (And.intro hown6 (And.intro hgrow6 hat6)); have d6 := (HG.out w6 hgrow6).1; have e6 := (HG.out w6 hgrow6).2.1; clear hown6 hgrow6 hat6) | (refine step_append_at rfl (.tmp 99) (.tmp 106) 39 rfl w.heap.size 41 i0 (.int .u64 0) 1 8 Try.underlying39 hi0 hz0 hz1 hz2 rfl (by decide) (.slice p1 x c1) x ([] ++ A) rfl H6.out.1 ⟨gb, 0, none⟩ 0 _ B rfl HB.out.1 (HB0.out _) HB.out.2.2 M.out.2.2.2.1 M.out.2.2.2.2 ((HG.out w6 H6.out.2.1).2.2.2) ?_; intro p9 c9 w9 hown9 hgrow9 hat9; rw [Nat.add_zero] at hown9 hat9; have H9 := Lib.hid (HE.out p1 c1 w6 H6.out.1 H6.out.2.1 H6.out.2.2 p9 c9 w9 hown9 hgrow9 hat9); have d9 := H9.out.2.1; have e9 := H9.out.2.2.1; have z9 := H9.out.2.2.2; clear hown9 hgrow9 hat9))
    all_goals exact hK _ _ _ _ _ _ _ _ _ _ _ _ _ _ _ _ _ _ _ _ _ H9.out.1.out
  · have hpc' : ¬ pc = x + 1 := fun q => hpc q.symm
    go_wp2_with fail
    go_region_law (first | (refine step_append_at rfl (.tmp 92) (.tmp 98) 39 rfl w.heap.size 41 i0 (.int .u64 0) 1 8 Try.underlying39 hi0 hz0 hz1 hz2 rfl (by decide) (.slice (some ⟨w2.heap.size, 0, none⟩) 0 0) 0 [] rfl (own_empty _ _ _ hbase) ⟨gb, 0, none⟩ x pc A rfl HA.out.1 (HA.out.2.1 _ HBL.out) HA.out.2.2 M.out.1 M.out.2.1 M.out.2.2.1 ?_; intro p1 c1 w6 hown6 hgrow6 hat6; rw [Nat.zero_add] at hown6 hat6; have H6 := Lib.hid (And.intro hown6 (And.intro hgrow6 hat6)); have d6 := (HG.out w6 hgrow6).1; have e6 := (HG.out w6 hgrow6).2.1; clear hown6 hgrow6 hat6) | (refine step_append_at rfl (.tmp 99) (.tmp 106) 39 rfl w.heap.size 41 i0 (.int .u64 0) 1 8 Try.underlying39 hi0 hz0 hz1 hz2 rfl (by decide) (.slice p1 x c1) x ([] ++ A) rfl H6.out.1 ⟨gb, x + 1, none⟩ (ln - (x + 1)) (pc - (x + 1)) B rfl HB.out.1 (HB.out.2.1 _ (HG.out w6 H6.out.2.1).2.2.1) HB.out.2.2 M.out.2.2.2.1 M.out.2.2.2.2 ((HG.out w6 H6.out.2.1).2.2.2) ?_; intro p9 c9 w9 hown9 hgrow9 hat9; have H9 := Lib.hid (HE.out p1 c1 w6 H6.out.1 H6.out.2.1 H6.out.2.2 p9 c9 w9 hown9 hgrow9 hat9); have d9 := H9.out.2.1; have e9 := H9.out.2.2.1; have z9 := H9.out.2.2.2; clear hown9 hgrow9 hat9))
    all_goals exact hK _ _ _ _ _ _ _ _ _ _ _ _ _ _ _ _ _ _ _ _ _ H9.out.1.out
end Go.Proofs.Ytjnikgliecgbdaa
