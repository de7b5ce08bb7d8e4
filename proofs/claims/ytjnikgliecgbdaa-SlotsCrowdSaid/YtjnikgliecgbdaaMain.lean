/- The walk of the law. -/
import Derived.Test.YtjnikgliecgbdaaDel
import Derived.Test.YtjnikgliecgbdaaRest
import Derived.Deep.DeepCutAuto
import Derived.Deep.CutBlock
namespace Go.Proofs.Ytjnikgliecgbdaa
open Go.RowKit

set_option maxRecDepth 1000000 in
set_option maxHeartbeats 40000000 in
theorem crowd_yes (T N : Nat) (st : Int) (p : Option Addr) (n c : Nat) (w : World) (h1 : 1 ≤ T) (h2 : T ≤ 6) (h3 : 7 ≤ N) (h4 : N ≤ 250) (h5 : 1 ≤ st) (h6 : st ≤ 1099511627776) (hn : n ≤ 600)
    (lb lo : Nat) (hp : 0 < n → p = some ⟨lb, lo, none⟩) (hadb : 0 < n → lb < w.heap.size) (th wh : Nat → Int) (hth : ∀ i, i < n → w.cell? ⟨lb, lo + i * 2, none⟩ = some (.int .i64 (th i))) (hwh : ∀ i, i < n → w.cell? ⟨lb, lo + i * 2 + 1, none⟩ = some (.int .i64 (wh i))) :
    Calls Try.prog 3 #[.agg #[.int .i64 T, .int .i64 N, .int .u64 st], .slice p n c] w fun e w' => e = .returned (.bool true) ∧ Below w.heap.size w w' := by
  have HM : Hid (mayB T N st = true) := Lib.hid (by
    simp only [mayB, Bool.and_eq_true, decide_eq_true_eq]
    omega)
  have HN := fun w => Lib.hid (core_New w T N st h1 h2 h3 h4 h5 h6)
  have hnI : ¬ (600 : Int) < n := by omega
  go_enter Try.func3, Try.ntmps3
  go_wp2_with fail
  refine (law_May T N st _).mono ?_
  rintro e w1 ⟨rfl, hb1⟩
  rw [HM.out]
  have hc0 : Cells (w.alloc (Obj.cells #[Value.int IntKind.i64 T, Value.int IntKind.i64 N, Value.int IntKind.u64 st] 24)) w.heap.size 24 3 (crowdConf ⟨w, T, N, st, ⟨0, 0, 0, 0, 0, 0, 0, 0, 0, 0, fun _ => 0⟩, 0, 0, 0⟩) :=
    Cells.new w _ _ _ _ (by simp) (fun i hi => by match i, hi with | 0, _ | 1, _ | 2, _ => rfl)
  have hc1 := hc0.below hb1
  have q00 := hc1.cell 0 (by decide)
  have q1 := hc1.cell 1 (by decide)
  have q2 := hc1.cell 2 (by decide)
  simp only [crowdConf] at q00 q1 q2
  have HC1 := Lib.hid hc1
  have HB1 : Hid (Below w.heap.size w w1) := Lib.hid (((Below.refl _ _).alloc (Nat.le_refl _) _).trans (below_le hb1 (by simp)))
  clear hb1 hc0 hc1
  go_wp2_with fail
  refine (HN _).out.mono ?_
  rintro e w2 ⟨L, rfl, hk⟩
  dsimp only
  have hc2 := HC1.out.below (below_le hk.below (Nat.le_refl _))
  have q0 := hc2.cell 0 (by decide)
  simp only [crowdConf] at q0
  obtain ⟨w3, hr3, hm3⟩ := mk_rows w2 T h2
  obtain ⟨w4, hr4, hm4⟩ := mk_marks w3 T h2
  obtain ⟨s0, hs0⟩ : ∃ s0, s0 = L.s := ⟨_, rfl⟩
  have q11 := (hc2.below hm3.1).cell 0 (by decide)
  simp only [crowdConf] at q11
  have hCr : Crowd ⟨w, T, N, st, L.s, w.heap.size, w2.heap.size, w3.heap.size⟩ L (startMS T N st) (fun _ => []) (fun _ => false) (fun _ => .slice none 0 0) w4 := crowd_start h3 HB1.out HC1.out hk hm3 hm4
  have H0 := Lib.hid hCr
  have I0 : Hid (InvL (2 * ((0 : Nat) : Int)) (startMS T N st) ((List.range (N - 5)).map (· + 6)) (fun _ => [])) := Lib.hid (start_inv h1 h2 h3 h4 (by decide))
  have P0 : Hid (EmpOk T (startMS T N st) (fun _ => false)) := Lib.hid (fun t _ f hf => absurd hf (by rw [start_eq h3]; simp [bareMS, newTS]))
  have HL : Hid (∀ {L : Lay} {S : MS} {had : Nat → List Int} {emp : Nat → Bool} {hv : Nat → Value} {W : World}, Crowd ⟨w, T, N, st, s0, w.heap.size, w2.heap.size, w3.heap.size⟩ L S had emp hv W → ∀ i, i < n →
      W.cell? ⟨lb, lo + i * 2, none⟩ = some (.int .i64 (th i)) ∧ W.cell? ⟨lb, lo + i * 2 + 1, none⟩ = some (.int .i64 (wh i))) := Lib.hid fun h i hi =>
    ⟨(World.cell?_of_block (a := ⟨lb, lo + i * 2, none⟩) (h.below.block lb (hadb (by omega)))).trans (hth i hi), (World.cell?_of_block (a := ⟨lb, lo + i * 2 + 1, none⟩) (h.below.block lb (hadb (by omega)))).trans (hwh i hi)⟩
  rw [hs0] at HL
  clear hk hc2 HC1 HM HN q00 q1 q2 hm3 hm4 hCr HB1 hth hwh hadb
  have q1 := q11
  go_wp2_with fail
  clear q0 q1 q11 hr3 hr4
  generalize w.heap.size = cb at *
  generalize w2.heap.size = hb at *
  generalize w3.heap.size = eb at *
  generalize hs : L.s = s at *
  clear hs
  go_loopg [9] n (fun g vi W => ∃ (i : Nat) (L : Lay) (S : MS) (F : List Nat) (had : Nat → List Int) (emp : Nat → Bool) (hv : Nat → Value), i ≤ n ∧ g = n - i ∧ vi = .int .i64 i ∧ Hid (Crowd ⟨w, T, N, st, s, cb, hb, eb⟩ L S had emp hv W) ∧ Hid (InvL (2 * (i : Int)) S F had) ∧ Hid (EmpOk T S emp))
  case atStart => exact ⟨0, L, _, _, _, _, _, Nat.zero_le _, by omega, rfl, H0, I0, P0⟩
  case round =>
    clear H0 I0 P0
    obtain ⟨i, L, S, F, had, emp, hv, hin, hg, rfl, HC, HI, HP⟩ := hrel
    by_cases hi : i < n
    · obtain rfl := hp (by omega)
      have hiI : (i : Int) < n := by omega
      obtain ⟨t1, t2⟩ := HL.out HC.out i hi
      have hconf := HC.out.ccb.cell 0 (by decide)
      simp only [crowdConf] at hconf
      go_wp2_with fail
      go_quiet (fail)
      rename_i nq
      go_wp2_with fail
      obtain ⟨wx, hwx⟩ : ∃ wx, wx = wr.drewN nq := ⟨_, rfl⟩
      rw [← hwx]
      have H1 : Hid (Crowd ⟨w, T, N, st, s, cb, hb, eb⟩ L S had emp hv wx) := Lib.hid (by rw [hwx]; exact HC.out.drewN nq)
      clear hwx t1 t2 HC hconf
      have hconf := H1.out.ccb.cell 0 (by decide)
      simp only [crowdConf] at hconf
      by_cases hr : 0 ≤ th i ∧ th i < T
      · obtain ⟨t, ht⟩ := Int.eq_ofNat_of_zero_le hr.1
        have htT : t < T := by omega
        rw [ht]
        refine (H1.out.thr t).mono ?_
        rw [if_pos (show 0 ≤ (t : Int) ∧ (t : Int) < ((T : Nat) : Int) by omega)]
        rintro e w' ⟨rfl, rfl⟩
        rw [Int.toNat_natCast]
        have CD := Lib.hid (H1.out.depth htT)
        have hfr : (S.th t).frames = [] ∨ ∃ f, (S.th t).frames = [f] := by
          have hl := HI.out.len t (by rw [H1.out.T]; exact htT)
          match hq : (S.th t).frames, hl with
          | [], _ => exact .inl rfl
          | [f], _ => exact .inr ⟨f, rfl⟩
        obtain ⟨dn, hdn⟩ : ∃ dn, dn = ((S.th t).frames.length : Int) := ⟨_, rfl⟩
        rw [← hdn] at CD
        have HDN := Lib.hid hdn
        have HTH := Lib.hid (And.intro ht hr)
        clear hdn ht hr
        go_upto_if 65 with (go_at_call 8; refine CD.out.mono ?_; rintro e w' ⟨rfl, rfl⟩)
        go_cut [11] (fun _ wx => ∃ (L : Lay) (S : MS) (F : List Nat) (had : Nat → List Int) (emp : Nat → Bool) (hv : Nat → Value) (f : FS), Hid (Crowd ⟨w, T, N, st, s, cb, hb, eb⟩ L S had emp hv wx) ∧ Hid (InvL (2 * (i : Int) + 1) S F had) ∧ Hid (EmpOk T S emp) ∧ Hid ((S.th t).frames = [f]))
        case first =>
          rcases hfr with hf0 | ⟨f, hf1⟩
          · have hd0 : dn = 0 := by rw [HDN.out, hf0]; rfl
            subst hd0
            have HF := Lib.hid hf0
            clear hf0 HDN CD
            have hbz := H1.out.chb.lt
            have hez := H1.out.ceb.lt
            dsimp only at hbz hez
            obtain ⟨p, pc, hvf, hlc, hcells, hpf⟩ := H1.out.form htT
            have chv := H1.out.chb.cell t htT
            dsimp only at chv
            rw [hvf] at chv
            have HS : t < S.T := by rw [H1.out.T]; exact htT
            by_cases hw0 : wh i < 0
            · have hw1 : ¬ (((had t).length : Nat) : Int) ≤ wh i := by omega
              have CC := Lib.hid (H1.out.call htT HF.out 1 [] (by simp) none 0 (fun hq => absurd hq (by simp)))
              have HI1 : Hid (InvL (2 * (i : Int) + 1) (S.call t 1 []) F had) := Lib.hid (call_take HI.out HS HF.out)
              simp only [List.length_nil] at CC
              obtain ⟨ln, hln⟩ : ∃ ln, ln = (had t).length := ⟨_, rfl⟩
              rw [← hln] at chv hw1
              clear hvf hlc hcells hpf hln
              go_wp2_with fail
              refine CC.out.mono ?_
              rintro e w2 ⟨L2, rfl, h2⟩
              have H2 := Lib.hid h2
              have ce := h2.ceb.cell t htT
              have fe := h2.ceb.frozen t
              have ze := h2.ceb.lt
              dsimp only at ce fe ze
              clear h2 chv
              go_wp2_with fail
              go_meet
              exact ⟨L2, _, F, had, upd emp t false, hv, ⟨1, 0, regs []⟩, Lib.hid (H2.out.setEmp t false), HI1, Lib.hid (fun u hu g hg g1 g2 g3 => by
                by_cases q : u = t
                · subst q
                  have hq : ((S.call u 1 []).th u).frames = [⟨1, 0, regs []⟩] := by
                    show (upd S.th u { S.th u with frames := ⟨1, 0, regs []⟩ :: (S.th u).frames } u).frames = _
                    rw [upd_same, HF.out]
                  rw [hq] at hg
                  rw [List.mem_singleton.1 hg] at g2
                  exact absurd g2 (by show ¬ ((0 : Int) = 1); decide)
                · rw [upd_ne _ _ _ q]
                  have hq : ((S.call t 1 []).th u) = S.th u := by
                    show upd S.th t _ u = _
                    rw [upd_ne _ _ _ q]
                  rw [hq] at hg
                  exact HP.out u hu g hg g1 g2 g3), Lib.hid (by
                show (upd S.th t { S.th t with frames := ⟨1, 0, regs []⟩ :: (S.th t).frames } t).frames = _
                rw [upd_same, HF.out])⟩
            · by_cases hw1 : (((had t).length : Nat) : Int) ≤ wh i
              · obtain ⟨ln, hln⟩ : ∃ ln, ln = (had t).length := ⟨_, rfl⟩
                rw [← hln] at chv hw1
                clear hvf hlc hcells hpf hln
                go_wp2_with fail
                go_roundg (n - (i + 1))
                case measure => omega
                case rel => exact ⟨i + 1, L, S, F, had, emp, hv, by omega, rfl, by go_num, H1, Lib.hid (HI.out.mono (by omega)), HP⟩
              · obtain ⟨x, hx⟩ := Int.eq_ofNat_of_zero_le (Int.not_lt.1 hw0)
                have hxl : x < (had t).length := by omega
                obtain ⟨gb, rfl, hc⟩ := hcells (by omega)
                have cx := hc x hxl
                have HI1 : Hid (InvL (2 * (i : Int) + 1) (S.call t 2 [(had t)[x]]) F (upd had t ((had t).eraseIdx x))) := Lib.hid (call_give HI.out HS HF.out hxl)
                obtain ⟨ev, hev⟩ : ∃ ev, ev = (had t)[x] := ⟨_, rfl⟩
                rw [← hev] at cx HI1
                obtain ⟨ln, hln⟩ : ∃ ln, ln = (had t).length := ⟨_, rfl⟩
                have hxl2 : (x : Int) < ln := by omega
                have hxl3 : x < ln := by omega
                have hlc2 : ln ≤ pc := by omega
                rw [← hln] at chv hw1
                rw [hx] at hw0 hw1 ⊢
                have HX : Hid (hv t = .slice (some ⟨gb, 0, none⟩) (had t).length pc ∧ ln = (had t).length ∧ ∃ h : x < (had t).length, ev = (had t)[x]) := Lib.hid ⟨hvf, hln, hxl, hev⟩
                have hgb : gb < wx.heap.size := ((H1.out.rows t htT).lt gb (by rw [hvf]; rfl)).2
                have HNE : Hid (hb ≠ gb) := Lib.hid (ownsRow_ne H1.out.chb (H1.out.rows t htT) (by rw [hvf]; rfl) (by decide))
                clear hvf hlc hcells hpf hln hc hev hx hxl
                go_wp2_with fail
                refine ((H1.out.alloc _).call htT HF.out 2 [ev] (by simp) (some ⟨wx.heap.size, 0, none⟩) 1 (fun _ => ⟨_, rfl, by simp, fun j y hj => by
                  match j, hj with
                  | 0, hj =>
                    simp at hj
                    subst hj
                    simp [Addr.add]⟩)).mono ?_
                rintro e w2 ⟨L2, rfl, h2⟩
                have H2 := Lib.hid h2
                clear h2 chv
                have HP1 : Hid (EmpOk T (S.call t 2 [ev]) emp) := Lib.hid (fun u hu g hg g1 g2 g3 => by
                  by_cases q : u = t
                  · subst q
                    have hq : ((S.call u 2 [ev]).th u).frames = [⟨2, 0, regs [ev]⟩] := by
                      show (upd S.th u { S.th u with frames := ⟨2, 0, regs [ev]⟩ :: (S.th u).frames } u).frames = _
                      rw [upd_same, HF.out]
                    rw [hq] at hg
                    rw [List.mem_singleton.1 hg] at g2
                    exact absurd g2 (by show ¬ ((0 : Int) = 1); decide)
                  · have hq : ((S.call t 2 [ev]).th u) = S.th u := by
                      show upd S.th t _ u = _
                      rw [upd_ne _ _ _ q]
                    rw [hq] at hg
                    exact HP.out u hu g hg g1 g2 g3)
                have HF1 : Hid (((S.call t 2 [ev]).th t).frames = [⟨2, 0, regs [ev]⟩]) := Lib.hid (by
                  show (upd S.th t { S.th t with frames := ⟨2, 0, regs [ev]⟩ :: (S.th t).frames } t).frames = _
                  rw [upd_same, HF.out])
                have HLEN : Hid ((had t).length ≤ 245 ∧ x < (had t).length) := Lib.hid ⟨HI.out.hadLen HS, by have := HX.out.2.2; obtain ⟨q, _⟩ := this; exact q⟩
                go_wp2_with fail
                refine region20 w w2 T N st s cb hb eb L2 _ had emp hv t x htT HLEN.out.1 HLEN.out.2 H2.out _ _ _ _ _ _ _ _ _ _ _ _ _ _ _ _ _ _ _ _ _ _ _ _ _ _ _ _ _ _ _ _ _ _ _ _ _ _ _ _ _ _ _ _ _ _ _ _ _ _ _ _ _ _ _ _ _ _ _ _ _ _ _ _ _ _ _ _ _ _ _ _ _ _ _ _ _ _ _ _ _ _ _ _ _ _ _ _ _ _ _ _ _ _ _ _ _ _ _ _ _ _ _ _ _ _ _ _ _ _ _ _ _ _ _ _ _ _ _ _ _ _ _ _ _ _ _ _ _ _ _ _ _ _ _ _ _ _ _ _ _ _ _ _ _ _ _ _ _ _ _ _ _ _ _ _ _ _ _ _ _ _ _ _ _ _ _ _ _ _ _ _ _ _ _ _ _ _ _ _ _ _ _ _ _ _ _ _ _ _ _ _ _ _ _ _ _ _ _ _ _ _ _ _ _ _ _ _ _ _ _ _ _ _ _ _ _ _ _ _ _ _ _ _ _ _ _ _ _ _ _ _ _ _ _ _ _ _ _ _ _ _ _ _ ?_
                intro v90 v91 v92 v93 v94 v95 v96 v97 v98 v99 v100 v101 v102 v103 v104 v105 v106 v107 v108 v w9 h9
                have H9 := Lib.hid h9
                clear h9
                go_wp2_with fail
                go_meet
                exact ⟨L2, _, F, upd had t ((had t).eraseIdx x), emp, _, ⟨2, 0, regs [ev]⟩, H9, HI1, HP1, HF1⟩
          · have hd0 : dn = 1 := by rw [HDN.out, hf1]; rfl
            subst hd0
            have HF := Lib.hid hf1
            clear hf1 HDN CD
            go_wp2_with fail
            go_meet
            exact ⟨L, S, F, had, emp, hv, f, H1, Lib.hid (HI.out.mono (by omega)), HP, HF⟩
        case rest =>
          clear H1 HI HP hfr hconf HDN CD
          obtain ⟨L, S, F, had, emp, hv, f, H1, I1, P1, F1⟩ := hcut
          go_step
          refine restStep w wc T N i st s cb hb eb L S F had emp hv f t h1 h2 (by omega) htT H1 I1 P1 F1 _ _ _ _ _ _ _ _ _ _ _ _ _ _ _ _ _ _ _ _ _ _ _ _ _ _ _ _ _ _ _ _ _ _ _ _ _ _ _ _ _ _ _ _ _ _ _ _ _ _ _ _ _ _ _ _ _ _ _ _ _ _ _ _ _ _ _ _ _ _ _ _ _ _ _ _ _ _ _ _ _ _ _ _ _ _ _ _ _ _ _ _ _ _ _ _ _ _ _ _ _ _ _ _ _ _ _ _ _ _ _ _ _ _ _ _ _ _ _ _ _ _ _ _ _ _ _ _ _ _ _ _ _ _ _ _ _ _ _ _ _ _ _ _ _ _ _ _ _ _ _ _ _ _ _ _ _ _ _ _ _ _ _ _ _ _ _ _ _ _ _ _ _ _ _ _ _ _ _ _ _ _ _ _ _ _ _ _ _ _ _ _ _ _ _ _ _ _ _ _ _ _ _ _ _ _ _ _ _ _ _ _ _ _ _ _ _ _ _ _ _ _ _ _ _ _ _ _ _ _ _ _ _ _ _ _ _ _ _ _ _ ?_
          intro v4 v13 v14 v15 v16 v17 v18 v19 v42 v43 v44 v45 v46 v47 v48 v49 v50 v51 v52 v53 v54 v55 v56 v57 v58 v59 v60 v61 v62 v63 v64 v65 v66 v67 v68 v69 v70 v71 v72 v73 v74 v75 v76 v77 v78 v79 v80 v81 v82 v83 v84 v85 v86 v87 v88 v89 v90 v91 v92 v93 v94 v95 v96 v97 v98 v99 v100 v101 v102 v103 v104 v105 v106 v107 v108 v109 v110 v111 v112 v113 v114 v115 v116 v117 v118 v119 v120 v121 v122 v123 v124 v125 v126 v127 v128 v129 v130 v131 v132 v133 v134 v135 v136 v137 v138 v139 v140 v141 v142 v143 v144 v145 v146 v147 v148 v149 v150 v151 v152 v153 v154 v155 v156 v157 v158 v159 v160 v161 v162 v163 v164 v165 v166 v167 v168 v169 v170 v171 v172 v173 v174 v175 v176 v177 v178 v179 v180 v181 v182 v183 v184 v185 v186 v187 v188 v189 v190 v191 v192 v193 v194 v195 v196 v197 v198 v199 v200 v201 v202 v203 v204 v205 v206 v207 v208 v209 v210 v211 v212 v213 v214 v215 v216 v217 v218 v219 v220 v221 v222 v223 v224 v225 v226 v227 v228 v229 v230 v231 v232 L5 S5 F' had' em hv' w9 hC hI hP
          have HC9 := Lib.hid hC
          have HI9 := Lib.hid hI
          have HP9 := Lib.hid hP
          clear hC hI hP
          go_wp2_with fail
          go_roundg (n - (i + 1))
          case measure => omega
          case rel => exact ⟨i + 1, L5, S5, F', had', em, hv', by omega, rfl, by go_num, HC9, HI9, HP9⟩
      · refine (H1.out.thr (th i)).mono ?_
        rw [if_neg hr]
        rintro e w' ⟨rfl, rfl⟩
        clear hr
        go_wp2_with fail
        go_roundg (n - (i + 1))
        case measure => omega
        case rel => exact ⟨i + 1, L, S, F, had, emp, hv, by omega, rfl, by go_num, H1, Lib.hid (HI.out.mono (by omega)), HP⟩
    · clear hp
      have hiI : ¬ (i : Int) < n := by omega
      have hle : (2 * (i : Int)) ≤ 100000 - 60 := by omega
      have hx : ∀ (L' : Lay) (S' : MS) (W' : World), Way InvA L S.T wr 0 L' S' W' → (∀ t, t < S.T → (S'.th t).frames = []) → ∃ F' had', InvL 100000 S' F' had' := fun _ _ _ h _ => by
        obtain ⟨F', had', h'⟩ := h.inv
        exact ⟨F', had', h'.mono (by omega)⟩
      have HX := Lib.hid hx
      have CE : Hid (Calls Try.prog 19 #[.pointer (some ⟨s.m, 0, none⟩), .func (.func 13) #[] #[], .int .i64 10] wr fun e w' => ∃ L' S', e = .returned (.bool true) ∧ Way InvA L S.T wr 0 L' S' w' ∧ ∀ t, t < S.T → (S'.th t).frames = []) := Lib.hid (by
        have := law_Ends goods HC.out.rep ⟨F, had, HI.out.mono hle⟩
        rw [HC.out.s] at this
        exact this)
      clear hx hle
      go_wp2_with fail
      refine CE.out.mono ?_
      rintro e w5 ⟨L5, S5, rfl, hway, hidle⟩
      have H5 : Hid (Crowd ⟨w, T, N, st, s, cb, hb, eb⟩ L5 S5 had emp hv w5) := Lib.hid (HC.out.goes hway.rep hway.moves hway.T)
      obtain ⟨F5, had5, hI5⟩ := HX.out _ _ _ hway hidle
      have CF := Lib.hid (H5.out.fault hI5)
      have HID : Hid (∀ t, t < S5.T → (S5.th t).frames = []) := Lib.hid fun t ht => hidle t (by rw [← hway.T]; exact ht)
      have I5 := Lib.hid hI5
      have CW : Hid (Calls Try.prog 20 #[.pointer (some ⟨s.m, 0, none⟩)] w5 fun e w' => e = .returned (.bool true) ∧ Below w5.heap.size w5 w') := Lib.hid (by
        have hr := I5.out.atRest HID.out
        have hch := I5.out.chain
        have hlen : F5.length ≤ 5000 := by have := I5.out.fit.N250; omega
        have := law_Whole H5.out.rep I5.out.nonneg (by rw [hch]; exact hlen) (by have := I5.out.cntLe; omega) (by rw [hch]) (by rw [hch]; exact hr.1) (by rw [hch]; exact hr.2.1) (by rw [hch]; exact hr.2.2)
        rw [H5.out.s] at this
        exact this)
      clear hway hidle hI5 CE HX HC HI HP
      go_wp2_with (go_at_call 14; refine CF.out.mono ?_; rintro e w' ⟨rfl, rfl⟩)
      refine CW.out.mono ?_
      rintro e w6 ⟨rfl, hb6⟩
      have HB6 := Lib.hid hb6
      clear hb6
      go_wp2_with fail
      refine (lives_true _).mono ?_
      rintro e w7 ⟨rfl, hb7⟩
      have HB7 := Lib.hid hb7
      clear hb7
      go_wp2_with fail
      go_ret
      exact ⟨rfl, H5.out.below.trans (below_le (HB6.out.trans (below_le HB7.out HB6.out.size)) H5.out.below.size)⟩
end Go.Proofs.Ytjnikgliecgbdaa
