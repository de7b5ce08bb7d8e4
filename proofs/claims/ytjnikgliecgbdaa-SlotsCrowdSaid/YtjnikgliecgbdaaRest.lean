/- A step of the law's loop, from where the thread is within a routine. -/
import Derived.Test.YtjnikgliecgbdaaCalls
import Derived.Deep.DeepCutAuto
import Derived.Deep.CutBlock
namespace Go.Proofs.Ytjnikgliecgbdaa
open Go.RowKit

def headIf (n : Nat) : Code → Bool
  | .seq (.region k _ _) (.cond _ _ _) => k == n
  | _ => false
def afterIf (n : Nat) : Code → Option Code
  | .loop c => afterIf n c
  | .seq a b => match headIf n a with
    | true => some b
    | false => match afterIf n a with
      | some c => some c
      | none => afterIf n b
  | .block _ c => afterIf n c
  | .scope c => afterIf n c
  | .cond _ a b => match afterIf n a with
    | some c => some c
    | none => afterIf n b
  | _ => none
noncomputable def rest14 : Code := ((Try.f3.body.bind (afterIf 14)).getD .skip)

set_option maxRecDepth 1000000 in
set_option maxHeartbeats 16000000 in
theorem restStep {K1 K2 K3 : Act → World → Prop} {Pq : Ending → World → Prop} (w wc : World) (T N i : Nat) (st : Int) (s : Stat) (cb hb eb : Nat) (L : Lay) (S : MS) (F : List Nat) (had : Nat → List Int) (emp : Nat → Bool) (hv : Nat → Value) (f : FS) (t : Nat)
    (h1 : 1 ≤ T) (h2 : T ≤ 6) (hi6 : i ≤ 600) (htT : t < T) (H1 : Hid (Crowd ⟨w, T, N, st, s, cb, hb, eb⟩ L S had emp hv wc)) (I1 : Hid (InvL (2 * (i : Int) + 1) S F had)) (P1 : Hid (EmpOk T S emp)) (F1 : Hid ((S.th t).frames = [f])) (s0 s1 s3 s4 s6 s9 s11 s13 s14 s15 s16 s17 s18 s19 s20 s21 s22 s23 s24 s25 s26 s27 s28 s29 s30 s31 s32 s33 s34 s35 s36 s37 s38 s39 s40 s41 s42 s43 s44 s45 s46 s47 s48 s49 s50 s51 s52 s53 s54 s55 s56 s57 s58 s59 s60 s61 s62 s63 s64 s65 s66 s67 s68 s69 s70 s71 s72 s73 s74 s75 s76 s77 s78 s79 s80 s81 s82 s83 s84 s85 s86 s87 s88 s89 s90 s91 s92 s93 s94 s95 s96 s97 s98 s99 s100 s101 s102 s103 s104 s105 s106 s107 s108 s109 s110 s111 s112 s113 s114 s115 s116 s117 s118 s119 s120 s121 s122 s123 s124 s125 s126 s127 s128 s129 s130 s131 s132 s133 s134 s135 s136 s137 s138 s139 s140 s141 s142 s143 s144 s145 s146 s147 s148 s149 s150 s151 s152 s153 s154 s155 s156 s157 s158 s159 s160 s161 s162 s163 s164 s165 s166 s167 s168 s169 s170 s171 s172 s173 s174 s175 s176 s177 s178 s179 s180 s181 s182 s183 s184 s185 s186 s187 s188 s189 s190 s191 s192 s193 s194 s195 s196 s197 s198 s199 s200 s201 s202 s203 s204 s205 s206 s207 s208 s209 s210 s211 s212 s213 s214 s215 s216 s217 s218 s219 s220 s221 s222 s223 s224 s225 s226 s227 s228 s229 s230 s231 s232 s233 s234 s235 s236 s237 s238 s239 s240 s241 s242 s243 s244 s245 s246 : Value)
    (hK : ∀ (u4 u13 u14 u15 u16 u17 u18 u19 u42 u43 u44 u45 u46 u47 u48 u49 u50 u51 u52 u53 u54 u55 u56 u57 u58 u59 u60 u61 u62 u63 u64 u65 u66 u67 u68 u69 u70 u71 u72 u73 u74 u75 u76 u77 u78 u79 u80 u81 u82 u83 u84 u85 u86 u87 u88 u89 u90 u91 u92 u93 u94 u95 u96 u97 u98 u99 u100 u101 u102 u103 u104 u105 u106 u107 u108 u109 u110 u111 u112 u113 u114 u115 u116 u117 u118 u119 u120 u121 u122 u123 u124 u125 u126 u127 u128 u129 u130 u131 u132 u133 u134 u135 u136 u137 u138 u139 u140 u141 u142 u143 u144 u145 u146 u147 u148 u149 u150 u151 u152 u153 u154 u155 u156 u157 u158 u159 u160 u161 u162 u163 u164 u165 u166 u167 u168 u169 u170 u171 u172 u173 u174 u175 u176 u177 u178 u179 u180 u181 u182 u183 u184 u185 u186 u187 u188 u189 u190 u191 u192 u193 u194 u195 u196 u197 u198 u199 u200 u201 u202 u203 u204 u205 u206 u207 u208 u209 u210 u211 u212 u213 u214 u215 u216 u217 u218 u219 u220 u221 u222 u223 u224 u225 u226 u227 u228 u229 u230 u231 u232 : Value) (L5 : Lay) (S5 : MS) (F' : List Nat) (had' : Nat → List Int) (em : Nat → Bool) (hv' : Nat → Value) (w9 : World), Crowd ⟨w, T, N, st, s, cb, hb, eb⟩ L5 S5 had' em hv' w9 → InvL (2 * ((i + 1 : Nat) : Int)) S5 F' had' → EmpOk T S5 em → K1 ⟨#[s0, s1, .pointer (some ⟨cb, 0, none⟩), s3, u4, .pointer (some ⟨s.m, 0, none⟩), s6, .slice (some ⟨hb, 0, none⟩) T T, .slice (some ⟨eb, 0, none⟩) T T, s9, .int .i64 t, s11, .pointer (some ⟨s.th t, 0, none⟩), u13, u14, u15, u16, u17, u18, u19, s20, s21, s22, s23, s24, s25, s26, s27, s28, s29, s30, s31, s32, s33, s34, s35, s36, s37, s38, s39, s40, s41, u42, u43, u44, u45, u46, u47, u48, u49, u50, u51, u52, u53, u54, u55, u56, u57, u58, u59, u60, u61, u62, u63, u64, u65, u66, u67, u68, u69, u70, u71, u72, u73, u74, u75, u76, u77, u78, u79, u80, u81, u82, u83, u84, u85, u86, u87, u88, u89, u90, u91, u92, u93, u94, u95, u96, u97, u98, u99, u100, u101, u102, u103, u104, u105, u106, u107, u108, u109, u110, u111, u112, u113, u114, u115, u116, u117, u118, u119, u120, u121, u122, u123, u124, u125, u126, u127, u128, u129, u130, u131, u132, u133, u134, u135, u136, u137, u138, u139, u140, u141, u142, u143, u144, u145, u146, u147, u148, u149, u150, u151, u152, u153, u154, u155, u156, u157, u158, u159, u160, u161, u162, u163, u164, u165, u166, u167, u168, u169, u170, u171, u172, u173, u174, u175, u176, u177, u178, u179, u180, u181, u182, u183, u184, u185, u186, u187, u188, u189, u190, u191, u192, u193, u194, u195, u196, u197, u198, u199, u200, u201, u202, u203, u204, u205, u206, u207, u208, u209, u210, u211, u212, u213, u214, u215, u216, u217, u218, u219, u220, u221, u222, u223, u224, u225, u226, u227, u228, u229, u230, u231, u232, s233, s234, s235, s236, s237, s238, s239, s240, s241, s242, s243, s244, s245, s246], []⟩ w9) :
    Code.wp Try.prog rest14 (Exit.inBlock 1 (Exit.then K1 (Exit.then K2 (Exit.inBlock 0 (Exit.then K3 (bodyPost Try.prog Try.f3 Pq)))))) ⟨#[s0, s1, .pointer (some ⟨cb, 0, none⟩), s3, s4, .pointer (some ⟨s.m, 0, none⟩), s6, .slice (some ⟨hb, 0, none⟩) T T, .slice (some ⟨eb, 0, none⟩) T T, s9, .int .i64 t, s11, .pointer (some ⟨s.th t, 0, none⟩), s13, s14, s15, s16, s17, s18, s19, s20, s21, s22, s23, s24, s25, s26, s27, s28, s29, s30, s31, s32, s33, s34, s35, s36, s37, s38, s39, s40, s41, s42, s43, s44, s45, s46, s47, s48, s49, s50, s51, s52, s53, s54, s55, s56, s57, s58, s59, s60, s61, s62, s63, s64, s65, s66, s67, s68, s69, s70, s71, s72, s73, s74, s75, s76, s77, s78, s79, s80, s81, s82, s83, s84, s85, s86, s87, s88, s89, s90, s91, s92, s93, s94, s95, s96, s97, s98, s99, s100, s101, s102, s103, s104, s105, s106, s107, s108, s109, s110, s111, s112, s113, s114, s115, s116, s117, s118, s119, s120, s121, s122, s123, s124, s125, s126, s127, s128, s129, s130, s131, s132, s133, s134, s135, s136, s137, s138, s139, s140, s141, s142, s143, s144, s145, s146, s147, s148, s149, s150, s151, s152, s153, s154, s155, s156, s157, s158, s159, s160, s161, s162, s163, s164, s165, s166, s167, s168, s169, s170, s171, s172, s173, s174, s175, s176, s177, s178, s179, s180, s181, s182, s183, s184, s185, s186, s187, s188, s189, s190, s191, s192, s193, s194, s195, s196, s197, s198, s199, s200, s201, s202, s203, s204, s205, s206, s207, s208, s209, s210, s211, s212, s213, s214, s215, s216, s217, s218, s219, s220, s221, s222, s223, s224, s225, s226, s227, s228, s229, s230, s231, s232, s233, s234, s235, s236, s237, s238, s239, s240, s241, s242, s243, s244, s245, s246], []⟩ wc := by
  have HK := Lib.hid hK
  clear hK
  unfold rest14
  conv => arg 2; whnf
  have htS : t < S.T := by rw [H1.out.T]; exact htT
  obtain ⟨bk, hLb, htop, _⟩ := H1.out.top htT F1.out
  have HTop := Lib.hid htop
  clear htop
  go_wp2_with fail
  refine HTop.out.mono ?_
  rintro e w2 ⟨rfl, n2, hn2⟩
  have H2 : Hid (Crowd ⟨w, T, N, st, s, cb, hb, eb⟩ L S had emp hv w2) := Lib.hid (by rw [hn2]; exact H1.out.drewN n2)
  obtain ⟨b2, hb2, htop, _⟩ := H2.out.top htT F1.out
  obtain rfl : bk = b2 := by rw [hLb] at hb2; simpa using hb2
  have HTop2 := Lib.hid htop
  clear htop hn2 hb2 H1 HTop
  go_wp2_with fail
  refine HTop2.out.mono ?_
  rintro e w3 ⟨rfl, n3, hn3⟩
  have H3 : Hid (Crowd ⟨w, T, N, st, s, cb, hb, eb⟩ L S had emp hv w3) := Lib.hid (by rw [hn3]; exact H2.out.drewN n3)
  obtain ⟨b3, hb3, _, hfn⟩ := H3.out.top htT F1.out
  obtain rfl : bk = b3 := by rw [hLb] at hb3; simpa using hb3
  obtain ⟨fnv, hfv⟩ : ∃ fnv, fnv = f.fn := ⟨_, rfl⟩
  rw [← hfv] at hfn
  have HFV := Lib.hid hfv
  clear hn3 hb3 H2 HTop2 hfv
  go_upto_region 22 with fail
  obtain ⟨tk, htk⟩ : ∃ tk, tk = (fnv == 1) := ⟨_, rfl⟩
  rw [← htk]
  have HTK := Lib.hid htk
  clear htk hfn
  go_wp2_with fail
  refine (H3.out.chain I1.out).mono ?_
  rintro e w4 ⟨a4, k4, rfl, h4⟩
  have H4 := Lib.hid h4
  clear h4 H3
  go_wp2_with fail
  refine (H4.out.step I1.out htT F1.out).mono ?_
  rintro e w5 ⟨L5, rfl, h5⟩
  obtain ⟨F', hI'⟩ := step_any I1.out (by omega) htS F1.out
  obtain ⟨S5, hS5⟩ : ∃ S5, S5 = S.slotsStep t := ⟨_, rfl⟩
  have HS5 := Lib.hid hS5
  rw [← hS5] at h5 hI' ⊢
  obtain ⟨lf, hlf⟩ : ∃ lf, lf = S5.busy t := ⟨_, rfl⟩
  rw [← hlf]
  have HLF := Lib.hid hlf
  have H5 := Lib.hid h5
  have I5 := Lib.hid hI'
  clear h5 hI' hS5 hlf H4
  go_upto_region 24 with fail
  go_cut [14] (fun s14 wx => ∃ (bb : Bool), s14 = .bool bb ∧ Hid (F' = [] → bb = true) ∧ Hid (Crowd ⟨w, T, N, st, s, cb, hb, eb⟩ L5 S5 had emp hv wx))
  case first =>
    by_cases hF : F = []
    · have e0 : ((F.length : Int) == 0) = true := by rw [hF]; rfl
      clear hF
      go_wp2_with fail
      go_meet
      exact ⟨true, rfl, Lib.hid fun _ => rfl, H5⟩
    · have e0 : ((F.length : Int) == 0) = false := by
        have : F.length ≠ 0 := fun h => hF (List.eq_nil_of_length_eq_zero h)
        simp only [beq_eq_false_iff_ne]
        omega
      clear hF
      go_wp2_with fail
      refine (H5.out.chain I5.out).mono ?_
      rintro e w6 ⟨a6, k6, rfl, h6⟩
      have H6 := Lib.hid h6
      clear h6
      go_wp2_with fail
      go_meet
      exact ⟨_, rfl, Lib.hid fun h => by rw [h]; rfl, H6⟩
  case rest =>
    clear H5
    obtain ⟨bb, rfl, HB, H6⟩ := hcut
    go_wp2_with fail
    go_loopg [16] T (fun g vi W => ∃ (k : Nat) (em : Nat → Bool), k ≤ T ∧ g = T - k ∧ vi = .int .i64 k ∧ Hid (Crowd ⟨w, T, N, st, s, cb, hb, eb⟩ L5 S5 had em hv W) ∧ Hid (∀ u, u < T → emp u = true → em u = true) ∧ Hid (bb = true → ∀ u, u < k → em u = true))
    case atStart => exact ⟨0, emp, Nat.zero_le _, rfl, rfl, H6, Lib.hid fun _ _ h => h, Lib.hid fun _ u hu => absurd hu (by omega)⟩
    case round =>
      clear H6
      obtain ⟨k, em, hkT, hgk, rfl, H7, E7, B7⟩ := hrel
      have hconf := H7.out.ccb.cell 0 (by decide)
      simp only [crowdConf] at hconf
      by_cases hk : k < T
      · have hkI : (k : Int) < T := by omega
        have ce := H7.out.ceb.cell k hk
        have fe := H7.out.ceb.frozen k
        dsimp only at ce fe
        cases hem : em k with
        | true =>
          rw [hem] at ce
          have HEM := Lib.hid hem
          clear hem
          go_wp2_with fail
          go_roundg (T - (k + 1))
          case measure => omega
          case rel => exact ⟨k + 1, upd em k true, by omega, rfl, by go_num, Lib.hid (H7.out.setEmp k true), Lib.hid (fun u hu h => by
              by_cases q : u = k
              · subst q; rw [upd_same]
              · rw [upd_ne _ _ _ q]; exact E7.out u hu h), Lib.hid (fun hb u hu => by
              by_cases q : u = k
              · subst q; rw [upd_same]
              · rw [upd_ne _ _ _ q]; exact B7.out hb u (by omega))⟩
        | false =>
          rw [hem] at ce
          have HEM := Lib.hid hem
          clear hem
          go_wp2_with fail
          go_roundg (T - (k + 1))
          case measure => omega
          case rel => exact ⟨k + 1, upd em k bb, by omega, rfl, by go_num, Lib.hid (H7.out.setEmp k bb), Lib.hid (fun u hu h => by
              by_cases q : u = k
              · subst q; have := E7.out u hu h; rw [HEM.out] at this; cases this
              · rw [upd_ne _ _ _ q]; exact E7.out u hu h), Lib.hid (fun hb u hu => by
              by_cases q : u = k
              · subst q; rw [upd_same]; exact hb
              · rw [upd_ne _ _ _ q]; exact B7.out hb u (by omega))⟩
      · have hkI : ¬ (k : Int) < T := by omega
        obtain rfl : T = k := by omega
        have P5 : Hid (EmpOk T S5 em) := Lib.hid (by
          have hT : S.T = T := by
            have := H7.out.T
            rw [HS5.out, slotsStep_T] at this
            exact this
          rw [HS5.out]
          exact emp_step I1.out htS F1.out hT (by rw [← HS5.out]; exact I5.out) P1.out E7.out fun h => B7.out (HB.out h))
        have CF := Lib.hid (H7.out.fault I5.out)
        have hkind := (I1.out.fok htS F1.out).1
        have hhad : lf = true ∨ tk = false → hadNext S t f had = had := fun hq => by
          unfold hadNext
          rw [if_neg]
          rintro ⟨q1, q2⟩
          rcases hq with hq | hq
          · have e1 := HLF.out
            rw [hq, HS5.out, take3_eq F1.out q1 q2] at e1
            have : ((upd S.th t { S.th t with frames := [], ret := regs [Bt.slot (f.r 1) + 4096 * (S.load (S.nodeAt (Bt.slot (f.r 1)) 1) % Bt.p50)] }) t).frames.isEmpty = true := by rw [upd_same]; rfl
            have e1 : true = !((upd S.th t { S.th t with frames := [], ret := regs [Bt.slot (f.r 1) + 4096 * (S.load (S.nodeAt (Bt.slot (f.r 1)) 1) % Bt.p50)] }) t).frames.isEmpty := e1
            rw [this] at e1
            cases e1
          · have e1 := HTK.out
            rw [hq, HFV.out, q1] at e1
            cases e1
        have HHAD := Lib.hid hhad
        have HKIND := Lib.hid hkind
        have hidle : lf = false → ((S.slotsStep t).th t).frames = [] := fun hq => by
          have e1 := HLF.out
          rw [hq, HS5.out] at e1
          unfold MS.busy at e1
          cases hfr : ((S.slotsStep t).th t).frames with
          | nil => rfl
          | cons a l => rw [hfr] at e1; cases e1
        have HIDLE := Lib.hid hidle
        clear hkI hk hhad hkind hidle
        cases lf with
        | true =>
          have I6 : Hid (InvL (2 * ((i + 1 : Nat) : Int)) S5 F' had) := Lib.hid (by
            have := I5.out
            rw [HHAD.out (.inl rfl)] at this
            exact this.mono (by omega))
          go_wp2_with (go_at_call 14; refine CF.out.mono ?_; rintro e w' ⟨rfl, rfl⟩)
          exact HK.out _ _ _ _ _ _ _ _ _ _ _ _ _ _ _ _ _ _ _ _ _ _ _ _ _ _ _ _ _ _ _ _ _ _ _ _ _ _ _ _ _ _ _ _ _ _ _ _ _ _ _ _ _ _ _ _ _ _ _ _ _ _ _ _ _ _ _ _ _ _ _ _ _ _ _ _ _ _ _ _ _ _ _ _ _ _ _ _ _ _ _ _ _ _ _ _ _ _ _ _ _ _ _ _ _ _ _ _ _ _ _ _ _ _ _ _ _ _ _ _ _ _ _ _ _ _ _ _ _ _ _ _ _ _ _ _ _ _ _ _ _ _ _ _ _ _ _ _ _ _ _ _ _ _ _ _ _ _ _ _ _ _ _ _ _ _ _ _ _ _ _ _ _ _ _ _ _ _ _ _ _ _ _ _ _ _ _ _ _ _ _ _ _ _ _ _ _ _ _ L5 S5 F' had em hv _ H7.out I6.out P5.out
        | false =>
          cases tk with
          | false =>
            have I6 : Hid (InvL (2 * ((i + 1 : Nat) : Int)) S5 F' had) := Lib.hid (by
              have := I5.out
              rw [HHAD.out (.inr rfl)] at this
              exact this.mono (by omega))
            go_wp2_with (go_at_call 14; refine CF.out.mono ?_; rintro e w' ⟨rfl, rfl⟩)
            exact HK.out _ _ _ _ _ _ _ _ _ _ _ _ _ _ _ _ _ _ _ _ _ _ _ _ _ _ _ _ _ _ _ _ _ _ _ _ _ _ _ _ _ _ _ _ _ _ _ _ _ _ _ _ _ _ _ _ _ _ _ _ _ _ _ _ _ _ _ _ _ _ _ _ _ _ _ _ _ _ _ _ _ _ _ _ _ _ _ _ _ _ _ _ _ _ _ _ _ _ _ _ _ _ _ _ _ _ _ _ _ _ _ _ _ _ _ _ _ _ _ _ _ _ _ _ _ _ _ _ _ _ _ _ _ _ _ _ _ _ _ _ _ _ _ _ _ _ _ _ _ _ _ _ _ _ _ _ _ _ _ _ _ _ _ _ _ _ _ _ _ _ _ _ _ _ _ _ _ _ _ _ _ _ _ _ _ _ _ _ _ _ _ _ _ _ _ _ _ _ _ L5 S5 F' had em hv _ H7.out I6.out P5.out
          | true =>
            have hfn1 : f.fn = 1 := by
              have e1 := HTK.out
              rw [HFV.out] at e1
              have := e1.symm
              simpa using this
            have hret := H7.out.ret htT
            have ce := H7.out.ceb.cell t htT
            dsimp only at hret ce
            rcases take_ends I1.out htS F1.out hfn1 (HIDLE.out rfl) with ⟨q1, q2, q3⟩ | ⟨q1, q3⟩
            · have I6 : Hid (InvL (2 * ((i + 1 : Nat) : Int)) S5 F' had) := Lib.hid (by
                have := I5.out
                unfold hadNext at this
                rw [if_neg (by rintro ⟨_, q⟩; omega)] at this
                exact this.mono (by omega))
              have hem : em t = true := E7.out t htT (P1.out t htT f (by rw [F1.out]; simp) hfn1 q1 q2)
              rw [hem] at ce
              rw [HS5.out, q3] at hret
              clear q1 q2 q3 hem
              go_wp2_with (go_at_call 14; refine CF.out.mono ?_; rintro e w' ⟨rfl, rfl⟩)
              have hT0 : (0 : Int) < T := by omega
              refine wp_loop_rounds 1 ?_
              rw [rounds_succ]
              go_wp2_with fail
              exact HK.out _ _ _ _ _ _ _ _ _ _ _ _ _ _ _ _ _ _ _ _ _ _ _ _ _ _ _ _ _ _ _ _ _ _ _ _ _ _ _ _ _ _ _ _ _ _ _ _ _ _ _ _ _ _ _ _ _ _ _ _ _ _ _ _ _ _ _ _ _ _ _ _ _ _ _ _ _ _ _ _ _ _ _ _ _ _ _ _ _ _ _ _ _ _ _ _ _ _ _ _ _ _ _ _ _ _ _ _ _ _ _ _ _ _ _ _ _ _ _ _ _ _ _ _ _ _ _ _ _ _ _ _ _ _ _ _ _ _ _ _ _ _ _ _ _ _ _ _ _ _ _ _ _ _ _ _ _ _ _ _ _ _ _ _ _ _ _ _ _ _ _ _ _ _ _ _ _ _ _ _ _ _ _ _ _ _ _ _ _ _ _ _ _ _ _ _ _ _ _ L5 S5 F' had em hv _ H7.out I6.out P5.out
            · obtain ⟨ev, hev⟩ : ∃ ev, ev = S.edge (Bt.slot (f.r 1)) := ⟨_, rfl⟩
              have I6 : Hid (InvL (2 * ((i + 1 : Nat) : Int)) S5 F' (upd had t (had t ++ [ev]))) := Lib.hid (by
                have := I5.out
                unfold hadNext at this
                rw [if_pos ⟨hfn1, q1⟩, ← hev] at this
                exact this.mono (by omega))
              rw [HS5.out, q3, ← hev] at hret
              have hT5 : S5.T = T := H7.out.T
              obtain ⟨hne, hld, hpl, hal⟩ := told_alone I6.out (by rw [hT5]; exact htT)
              have HAL := Lib.hid hal
              have e1 : (ev == 0) = false := by simpa using hne
              have e2 : (ev != 0) = true := by simpa using hne
              have CP : Hid (∀ w : World, Calls Try.prog 17 #[.int .u64 ev] w fun e w' => e = .returned (.bool true) ∧ w = w') := Lib.hid fun w => by
                have := edge_Plain ev w
                rw [show (ev == Bt.node ev) = true by simpa using hpl] at this
                exact this
              have CG := Lib.hid H7.out.guard
              have CL := Lib.hid (H7.out.leads ev hld)
              have HT5 := Lib.hid hT5
              clear q1 q3 hev hne hld hpl hal hfn1 hT5
              go_wp2_with (first | (go_at_call 14; refine CF.out.mono ?_; rintro e w' ⟨rfl, rfl⟩) | (go_at_call 15; refine CG.out.mono ?_; rintro e w' ⟨rfl, rfl⟩))
              refine CL.out.mono ?_
              rintro e w8 ⟨rfl, n8, hn8⟩
              have H8 : Hid (Crowd ⟨w, T, N, st, s, cb, hb, eb⟩ L5 S5 had em hv w8) := Lib.hid (by rw [hn8]; exact H7.out.drewN n8)
              clear hn8 hret ce hconf CL CG CF H7
              have hconf := H8.out.ccb.cell 0 (by decide)
              simp only [crowdConf] at hconf
              go_wp2_with (go_at_call 17; refine (CP.out _).mono ?_; rintro e w' ⟨rfl, rfl⟩)
              go_loopg [18] T (fun g vi W => ∃ k : Nat, k ≤ T ∧ g = T - k ∧ vi = .int .i64 k ∧ w8 = W)
              case atStart => exact ⟨0, Nat.zero_le _, rfl, rfl, rfl⟩
              case round =>
                obtain ⟨k, hkT2, hgk2, rfl, rfl⟩ := hrel
                by_cases hk : k < T
                · have hkI : (k : Int) < T := by omega
                  obtain ⟨p, pc, ln, hl245, chv, hx⟩ := H8.out.elems HAL.out I6.out.hadLens rfl hk
                  dsimp only at chv
                  have HX := Lib.hid hx
                  clear hx
                  go_wp2_with fail
                  go_loopg [19] ln (fun g vi W => ∃ j : Nat, j ≤ ln ∧ g = ln - j ∧ vi = .int .i64 j ∧ w8 = W)
                  case atStart => exact ⟨0, Nat.zero_le _, rfl, rfl, rfl⟩
                  case round =>
                    obtain ⟨j, hjl, hgj, rfl, rfl⟩ := hrel
                    by_cases hj : j < ln
                    · have hjI : (j : Int) < ln := by omega
                      obtain ⟨gb, x, rfl, hcx, hxe⟩ := HX.out j hj
                      go_wp2_with (go_at_call 18; refine (edge_Slot _ _).mono ?_; rintro e w' ⟨rfl, rfl⟩)
                      go_roundg (ln - (j + 1))
                      case measure => omega
                      case rel => exact ⟨j + 1, by omega, rfl, by go_num, rfl⟩
                    · have hjI : ¬ (j : Int) < ln := by omega
                      go_wp2_with fail
                      go_roundg (T - (k + 1))
                      case measure => omega
                      case rel => exact ⟨k + 1, by omega, rfl, by go_num, rfl⟩
                · have hkI : ¬ (k : Int) < T := by omega
                  obtain rfl : T = k := by omega
                  obtain ⟨p, pc, hvf, hlc, _, _⟩ := H8.out.form htT
                  have hro := H8.out.rows t htT
                  have chv := H8.out.chb.cell t htT
                  have fhv := H8.out.chb.frozen t
                  have hbz := H8.out.chb.lt
                  have hbase := H8.out.below.size
                  have hadl : (had t).length ≤ 250 := by
                    have := I6.out.hadLen (by rw [HT5.out]; exact htT)
                    rw [upd_same] at this
                    simp at this
                    omega
                  dsimp only at chv fhv hro hbz hbase
                  rw [hvf] at chv hro
                  have HVF := Lib.hid hvf
                  have HRO := Lib.hid hro
                  have HPNE : Hid (∀ g, (Value.slice p (had t).length pc).ownBlock = some g → hb ≠ g) := Lib.hid fun g hq => ownsRow_ne H8.out.chb (H8.out.rows t htT) (by rw [hvf]; exact hq) (by decide)
                  obtain ⟨ln, hln⟩ : ∃ ln, ln = (had t).length := ⟨_, rfl⟩
                  obtain ⟨xs, hxs⟩ : ∃ xs, xs = (had t).map (Value.int .u64) := ⟨_, rfl⟩
                  rw [← hln] at chv hadl HVF HRO HPNE
                  rw [← hxs] at HRO
                  have HLN := Lib.hid (And.intro hln hxs)
                  obtain ⟨i0, hi0, hz0, hz1, hz2⟩ := info_parts info_edge
                  clear hvf hlc hro hln hxs
                  go_wp2_with (at_builtin; refine wpList_append_lies _ rfl _ _ 39 rfl w.heap.size 41 i0 (.int .u64 0) 1 8 Try.underlying39 hi0 hz0 hz1 hz2 rfl (by decide) (.slice p ln pc) ln xs rfl (HRO.out.alloc _) ⟨w8.heap.size, 0, none⟩ 1 1 [.int .u64 ev] rfl rfl (cell_one_new _ _ _) (by intro u hu; simp at hu; subst hu; rfl) (by decide) (by unfold maxLen; omega) (by omega) (by simp; omega) (w8.heap.size + 1) (by simp) ?hk)
                  case hk =>
                  intro g9 cap9 w9 hown9 hgrow9 hat9 _
                  have c9 : w9.cell? ⟨hb, t, none⟩ = some (.slice p ln pc) := by
                    rw [hgrow9.cell_far ⟨hb, t, none⟩ (by simp; omega) (fun q => HPNE.out hb q.symm rfl)]
                    rw [World.cell?_alloc_past _ _ _ hbz]
                    exact chv
                  have f9 : w9.frozen? ⟨hb, t, none⟩ = false := by
                    rw [hgrow9.frozen_far ⟨hb, t, none⟩ (by simp; omega) (fun q => HPNE.out hb q.symm rfl)]
                    rw [World.frozen?_alloc_past _ _ _ hbz]
                    exact fhv
                  have z9 : hb < w9.heap.size := by have := hgrow9.size; simp at this; omega
                  have H9 : Hid (Crowd ⟨w, T, N, st, s, cb, hb, eb⟩ L5 S5 (upd had t (had t ++ [ev])) em (upd hv t (.slice (some ⟨g9, 0, none⟩) (ln + 1) cap9)) (w9.setCell ⟨hb, t, none⟩ (.slice (some ⟨g9, 0, none⟩) (ln + 1) cap9))) := Lib.hid (by
                    refine H8.out.newRow htT (hg := ?_) ?_ ?_
                    · rw [HVF.out]
                      exact (World.grownBy_alloc w8 _ _).trans hgrow9
                    · have := hown9
                      rw [HLN.out.2] at this
                      rw [show (had t ++ [ev]).length = ln + 1 by rw [HLN.out.1]; simp, List.map_append]
                      exact this
                    · rw [HVF.out]
                      rcases hat9 with q | q
                      · exact .inl q.symm
                      · refine .inr fun g hg => ?_
                        have : g9 = g := by simpa [Value.ownBlock] using hg
                        omega)
                  clear hown9 hgrow9 hat9 chv fhv hbz
                  go_wp2_with fail
                  exact HK.out _ _ _ _ _ _ _ _ _ _ _ _ _ _ _ _ _ _ _ _ _ _ _ _ _ _ _ _ _ _ _ _ _ _ _ _ _ _ _ _ _ _ _ _ _ _ _ _ _ _ _ _ _ _ _ _ _ _ _ _ _ _ _ _ _ _ _ _ _ _ _ _ _ _ _ _ _ _ _ _ _ _ _ _ _ _ _ _ _ _ _ _ _ _ _ _ _ _ _ _ _ _ _ _ _ _ _ _ _ _ _ _ _ _ _ _ _ _ _ _ _ _ _ _ _ _ _ _ _ _ _ _ _ _ _ _ _ _ _ _ _ _ _ _ _ _ _ _ _ _ _ _ _ _ _ _ _ _ _ _ _ _ _ _ _ _ _ _ _ _ _ _ _ _ _ _ _ _ _ _ _ _ _ _ _ _ _ _ _ _ _ _ _ _ _ _ _ _ _ L5 S5 F' (upd had t (had t ++ [ev])) em _ _ H9.out I6.out P5.out
end Go.Proofs.Ytjnikgliecgbdaa
