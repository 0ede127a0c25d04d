/- Sorting points stably: the end of symMerge. -/
import Derived.Test.YtgidpknckbgmbaaGreatDoorSt3
import Derived.Deep.CutBlock
set_option linter.unusedSimpArgs false
set_option linter.unusedVariables false
namespace Go.Proofs.YtgidpknckbgmbaaGreatDoor
open Go.RowKit Go.Sort

def tail41 : Code → Option Code
  | .seq (.seq (.region 41 o d) b) c => some (.seq (.seq (.region 41 o d) b) c)
  | .seq a b => (tail41 a).orElse fun _ => tail41 b
  | .block _ c => tail41 c
  | .scope c => tail41 c
  | .loop c => tail41 c
  | .cond _ a b => (tail41 a).orElse fun _ => tail41 b
  | _ => none
def tail43 : Code → Option Code
  | .seq (.region 43 o d) c => some (.seq (.region 43 o d) c)
  | .seq a b => (tail43 a).orElse fun _ => tail43 b
  | .block _ c => tail43 c
  | .scope c => tail43 c
  | .loop c => tail43 c
  | .cond _ a b => (tail43 a).orElse fun _ => tail43 b
  | _ => none
def tail39 : Code → Option Code
  | .seq (.seq (.region 39 o d) b) c => some (.seq (.seq (.region 39 o d) b) c)
  | .seq a b => (tail39 a).orElse fun _ => tail39 b
  | .block _ c => tail39 c
  | .scope c => tail39 c
  | .loop c => tail39 c
  | .cond _ a b => (tail39 a).orElse fun _ => tail39 b
  | _ => none
noncomputable def symTail1 : Code := (Tryz.f109.body.bind tail39).getD .skip
noncomputable def symTail : Code := (Tryz.f109.body.bind tail41).getD .skip
noncomputable def symTail3 : Code := (Tryz.f109.body.bind tail43).getD .skip

/-- What symMerge is shown to do, at ranges of at most N numbers. -/
def SymOK (W0 : World) (k : Int → Int) (pb blk S off n cap N : Nat) : Prop := ∀ (a m b : Nat) (A X1 X2 B : List Int) (w : World), W0.grownBy w (some blk) → RW blk S (A ++ (X1 ++ (X2 ++ B))).toArray w → Srt k X1 → Srt k X2 →
  A.length = off + a → a + X1.length = m → m + X2.length = b → 0 < X1.length → 0 < X2.length → b ≤ n → b ≤ a + N →
  Calls Tryz.prog 109 #[.slice (some ⟨blk, off, none⟩) n cap, .int .i64 a, .int .i64 m, .int .i64 b, cmpV pb] w (StPost W0 blk S (A ++ (ssort k (X1 ++ X2) ++ B)))

set_option maxHeartbeats 2000000 in
set_option maxRecDepth 100000 in
theorem sym_tail3 (W0 : World) (k : Int → Int) (pb blk S off n cap N : Nat) (hbig : off + n ≤ 2305843009213693951) (IH : SymOK W0 k pb blk S off n cap N)
    (a m b d s e : Nat) (A L1 R1 L2 R2 B L : List Int) (wr : World) (hg : W0.grownBy wr (some blk)) (hR : RW blk S (A ++ (ssort k (L1 ++ L2) ++ (R1 ++ (R2 ++ B)))).toArray wr)
    (s1 : Srt k L1 ∧ Srt k R1) (s2 : Srt k L2 ∧ Srt k R2) (hA : A.length = off + a) (n1 : a + L1.length = s) (n3 : s + L2.length = d) (n2 : d + R1.length = e) (n4 : e + R2.length = b) (hb : b ≤ n) (hN : b ≤ a + N + 1) (hd : a < d ∧ d < b)
    (hL : A ++ (ssort k (L1 ++ L2) ++ (ssort k (R1 ++ R2) ++ B)) = L) (v5 v6 v7 v8 v9 v10 v11 v12 v13 v14 v15 v16 v17 v19 v21 v22 v23 v25 v26 v27 v28 v29 v30 v31 v32 v33 v34 v35 v36 v37 v38 v39 v40 v41 v42 v43 v44 v45 v46 v47 v48 v49 v50 v51 v52 v53 v54 v55 v56 v57 v58 v59 v60 v61 v62 v63 v64 v65 v66 v67 v68 v69 v70 v71 v72 v73 v74 v75 v76 v77 v78 v79 v80 v81 v82 v83 v84 v85 v86 v87 v88 v89 v90 v91 v92 v93 v94 v95 v96 v97 v98 v99 v100 v101 v102 v103 v104 v105 v106 v107 v108 v109 v110 v111 v112 v113 v114 v115 v116 v117 v118 v119 v120 v121 v122 v123 v124 v125 v126 v127 v128 v129 v130 v131 v132 v133 v134 v135 v136 v137 v138 v139 v140 v141 v142 v143 v144 v145 v146 v147 v148 v149 v150 v151 v152 v153 v154 v155 v156 v157 v158 v159 v160 v161 v162 v163 v164 v165 v166 v167 v168 v169 v170 v171 v172 v173 v174 v175 v176 v177 v178 v179 v180 v181 v182 v183 v184 v185 v186 v187 v188 v189 v190 v191 v192 v193 v194 v195 v196 v197 v198 v199 v200 v201 v202 v203 v204 v205 v206 v207 v208 v209 v210 v211 v212 v213 v214 v215 v216 v217 v218 v219 : Value) :
    symTail3.wp Tryz.prog (bodyPost Tryz.prog Tryz.f109 (StPost W0 blk S L)) { tmps := #[.slice (some ⟨blk, off, none⟩) n cap, .int .i64 a, .int .i64 m, .int .i64 b, .func (.func 58) #[] #[.pointer (some ⟨pb, 0, none⟩)], v5, v6, v7, v8, v9, v10, v11, v12, v13, v14, v15, v16, v17, .int .i64 d, v19, .int .i64 s, v21, v22, v23, .int .i64 e, v25, v26, v27, v28, v29, v30, v31, v32, v33, v34, v35, v36, v37, v38, v39, v40, v41, v42, v43, v44, v45, v46, v47, v48, v49, v50, v51, v52, v53, v54, v55, v56, v57, v58, v59, v60, v61, v62, v63, v64, v65, v66, v67, v68, v69, v70, v71, v72, v73, v74, v75, v76, v77, v78, v79, v80, v81, v82, v83, v84, v85, v86, v87, v88, v89, v90, v91, v92, v93, v94, v95, v96, v97, v98, v99, v100, v101, v102, v103, v104, v105, v106, v107, v108, v109, v110, v111, v112, v113, v114, v115, v116, v117, v118, v119, v120, v121, v122, v123, v124, v125, v126, v127, v128, v129, v130, v131, v132, v133, v134, v135, v136, v137, v138, v139, v140, v141, v142, v143, v144, v145, v146, v147, v148, v149, v150, v151, v152, v153, v154, v155, v156, v157, v158, v159, v160, v161, v162, v163, v164, v165, v166, v167, v168, v169, v170, v171, v172, v173, v174, v175, v176, v177, v178, v179, v180, v181, v182, v183, v184, v185, v186, v187, v188, v189, v190, v191, v192, v193, v194, v195, v196, v197, v198, v199, v200, v201, v202, v203, v204, v205, v206, v207, v208, v209, v210, v211, v212, v213, v214, v215, v216, v217, v218, v219], defers := [] } wr := by
  dsimp only [symTail3, tail41, tail43, Tryz.f109, Option.bind, Option.getD, Option.orElse]
  have HN := Lib.hid (And.intro hA (And.intro n1 (And.intro n3 (And.intro n2 n4))))
  have hen : e ≤ n ∧ s ≤ d ∧ d ≤ e ∧ d ≤ n ∧ a ≤ s ∧ e ≤ b := by omega
  have HSS := Lib.hid (And.intro s1 s2)
  have HI := Lib.hid IH
  have HL := Lib.hid hL
  have HR := Lib.hid hR
  have HG := Lib.hid hg
  clear IH hL hA n1 n2 n3 n4 s1 s2 hR hg
  apply wp_seq_k
  intro K1 hK1
  go_upto_region 43 with fail
  go_cut [213] from 25 (fun v wx => v = .bool (decide (d < e) && decide (e < b)) ∧ wx = wr)
  case first =>
    by_cases t1 : d < e
    · by_cases t2 : e < b
      all_goals
        go_wp2
        go_meet
        exact ⟨by simp [t1, t2], rfl⟩
    · go_wp2
      go_meet
      exact ⟨by simp [t1], rfl⟩
  case rest =>
  obtain ⟨rfl, hwc⟩ := hcut
  rw [← hwc] at HR HG
  clear hwc
  obtain ⟨hA, n1, n3, n2, n4⟩ := HN.out
  by_cases t1 : d < e
  · by_cases t2 : e < b
    · have hsy := HI.out d e b (A ++ ssort k (L1 ++ L2)) R1 R2 B _ HG.out (by simpa using HR.out) HSS.out.1.2 HSS.out.2.2 (by simp [ssort_len]; omega) (by omega) n4 (by omega) (by omega) (by omega) (by omega)
      unfold cmpV at hsy
      have hsy2 := Lib.hid hsy
      clear hsy hA n1 n2 n3 n4
      go_wp2_with (go_at_call 109; refine hsy2.out.mono ?_; rintro e w1 ⟨rfl, hR3, hg3⟩)
      go_end0
      exact ⟨rfl, by rw [← HL.out]; simpa using hR3, hg3⟩
    · have hL2 : R2 = [] := List.length_eq_zero_iff.1 (by omega)
      subst hL2
      clear hA n1 n2 n3 n4
      go_wp2
      go_end0
      exact ⟨rfl, by rw [← HL.out, List.append_nil R1, ssort_self HSS.out.1.2]; simpa using HR.out, HG.out⟩
  · have hR1 : R1 = [] := List.length_eq_zero_iff.1 (by omega)
    subst hR1
    clear hA n1 n2 n3 n4
    go_wp2
    go_end0
    exact ⟨rfl, by rw [← HL.out, List.nil_append, ssort_self HSS.out.2.2]; simpa using HR.out, HG.out⟩

set_option maxHeartbeats 2000000 in
set_option maxRecDepth 100000 in
theorem sym_tail (W0 : World) (k : Int → Int) (pb blk S off n cap N : Nat) (hbig : off + n ≤ 2305843009213693951) (IH : SymOK W0 k pb blk S off n cap N)
    (a m b d s e : Nat) (A L1 R1 L2 R2 B L : List Int) (wr : World) (hg : W0.grownBy wr (some blk)) (hR : RW blk S (A ++ ((L1 ++ L2) ++ (R1 ++ (R2 ++ B)))).toArray wr)
    (s1 : Srt k L1 ∧ Srt k R1) (s2 : Srt k L2 ∧ Srt k R2) (hA : A.length = off + a) (n1 : a + L1.length = s) (n3 : s + L2.length = d) (n2 : d + R1.length = e) (n4 : e + R2.length = b) (hb : b ≤ n) (hN : b ≤ a + N + 1) (hd : a < d ∧ d < b)
    (hL : A ++ (ssort k (L1 ++ L2) ++ (ssort k (R1 ++ R2) ++ B)) = L) (v5 v6 v7 v8 v9 v10 v11 v12 v13 v14 v15 v16 v17 v19 v21 v22 v23 v25 v26 v27 v28 v29 v30 v31 v32 v33 v34 v35 v36 v37 v38 v39 v40 v41 v42 v43 v44 v45 v46 v47 v48 v49 v50 v51 v52 v53 v54 v55 v56 v57 v58 v59 v60 v61 v62 v63 v64 v65 v66 v67 v68 v69 v70 v71 v72 v73 v74 v75 v76 v77 v78 v79 v80 v81 v82 v83 v84 v85 v86 v87 v88 v89 v90 v91 v92 v93 v94 v95 v96 v97 v98 v99 v100 v101 v102 v103 v104 v105 v106 v107 v108 v109 v110 v111 v112 v113 v114 v115 v116 v117 v118 v119 v120 v121 v122 v123 v124 v125 v126 v127 v128 v129 v130 v131 v132 v133 v134 v135 v136 v137 v138 v139 v140 v141 v142 v143 v144 v145 v146 v147 v148 v149 v150 v151 v152 v153 v154 v155 v156 v157 v158 v159 v160 v161 v162 v163 v164 v165 v166 v167 v168 v169 v170 v171 v172 v173 v174 v175 v176 v177 v178 v179 v180 v181 v182 v183 v184 v185 v186 v187 v188 v189 v190 v191 v192 v193 v194 v195 v196 v197 v198 v199 v200 v201 v202 v203 v204 v205 v206 v207 v208 v209 v210 v211 v212 v213 v214 v215 v216 v217 v218 v219 : Value) :
    symTail.wp Tryz.prog (bodyPost Tryz.prog Tryz.f109 (StPost W0 blk S L)) { tmps := #[.slice (some ⟨blk, off, none⟩) n cap, .int .i64 a, .int .i64 m, .int .i64 b, .func (.func 58) #[] #[.pointer (some ⟨pb, 0, none⟩)], v5, v6, v7, v8, v9, v10, v11, v12, v13, v14, v15, v16, v17, .int .i64 d, v19, .int .i64 s, v21, v22, v23, .int .i64 e, v25, v26, v27, v28, v29, v30, v31, v32, v33, v34, v35, v36, v37, v38, v39, v40, v41, v42, v43, v44, v45, v46, v47, v48, v49, v50, v51, v52, v53, v54, v55, v56, v57, v58, v59, v60, v61, v62, v63, v64, v65, v66, v67, v68, v69, v70, v71, v72, v73, v74, v75, v76, v77, v78, v79, v80, v81, v82, v83, v84, v85, v86, v87, v88, v89, v90, v91, v92, v93, v94, v95, v96, v97, v98, v99, v100, v101, v102, v103, v104, v105, v106, v107, v108, v109, v110, v111, v112, v113, v114, v115, v116, v117, v118, v119, v120, v121, v122, v123, v124, v125, v126, v127, v128, v129, v130, v131, v132, v133, v134, v135, v136, v137, v138, v139, v140, v141, v142, v143, v144, v145, v146, v147, v148, v149, v150, v151, v152, v153, v154, v155, v156, v157, v158, v159, v160, v161, v162, v163, v164, v165, v166, v167, v168, v169, v170, v171, v172, v173, v174, v175, v176, v177, v178, v179, v180, v181, v182, v183, v184, v185, v186, v187, v188, v189, v190, v191, v192, v193, v194, v195, v196, v197, v198, v199, v200, v201, v202, v203, v204, v205, v206, v207, v208, v209, v210, v211, v212, v213, v214, v215, v216, v217, v218, v219], defers := [] } wr := by
  dsimp only [symTail, tail41, tail43, Tryz.f109, Option.bind, Option.getD, Option.orElse]
  have HN := Lib.hid (And.intro hA (And.intro n1 (And.intro n3 (And.intro n2 n4))))
  have hen : e ≤ n ∧ s ≤ d ∧ d ≤ e ∧ d ≤ n ∧ a ≤ s ∧ e ≤ b := by omega
  have HSS := Lib.hid (And.intro s1 s2)
  have HI := Lib.hid IH
  have HL := Lib.hid hL
  have HR := Lib.hid hR
  have HG := Lib.hid hg
  clear IH hL hA n1 n2 n3 n4 s1 s2 hR hg
  apply wp_seq_k
  intro K1 hK1
  apply wp_seq_k
  intro K2 hK2
  go_upto_region 41 with fail
  go_cut [199] from 25 (fun v wx => v = .bool (decide (a < s) && decide (s < d)) ∧ wx = wr)
  case first =>
    by_cases t1 : a < s
    · by_cases t2 : s < d
      all_goals
        go_wp2
        go_meet
        exact ⟨by simp [t1, t2], rfl⟩
    · go_wp2
      go_meet
      exact ⟨by simp [t1], rfl⟩
  case rest =>
  obtain ⟨rfl, hwc⟩ := hcut
  rw [← hwc] at HR HG
  clear hwc
  go_upto_if 199 with fail
  go_cut [] from 25 (fun wx => Hid (RW blk S (A ++ (ssort k (L1 ++ L2) ++ (R1 ++ (R2 ++ B)))).toArray wx) ∧ Hid (W0.grownBy wx (some blk)))
  case first =>
    obtain ⟨hA, n1, n3, n2, n4⟩ := HN.out
    by_cases t1 : a < s
    · by_cases t2 : s < d
      · have hsy := HI.out a s d A L1 L2 (R1 ++ (R2 ++ B)) wc HG.out (by simpa using HR.out) HSS.out.1.1 HSS.out.2.1 hA n1 n3 (by omega) (by omega) (by omega) (by omega)
        unfold cmpV at hsy
        have hsy2 := Lib.hid hsy
        clear hsy hA n1 n2 n3 n4
        go_wp2_with (go_at_call 109; refine hsy2.out.mono ?_; rintro e w1 ⟨rfl, hR2, hg2⟩)
        go_meet
        exact ⟨hR2, hg2⟩
      · have hL2 : L2 = [] := List.length_eq_zero_iff.1 (by omega)
        subst hL2
        clear hA n1 n2 n3 n4
        go_wp2
        go_meet
        exact ⟨by show RW _ _ _ _; rw [List.append_nil, ssort_self HSS.out.1.1]; simpa using HR.out, HG⟩
    · have hL1 : L1 = [] := List.length_eq_zero_iff.1 (by omega)
      subst hL1
      clear hA n1 n2 n3 n4
      go_wp2
      go_meet
      exact ⟨by show RW _ _ _ _; rw [List.nil_append, ssort_self HSS.out.2.1]; simpa using HR.out, HG⟩
  case rest =>
  obtain ⟨hR2, hg2⟩ := hcut
  clear HR HG
  try simp only [Exit.then]
  refine hK1 _ _ ?_
  exact sym_tail3 W0 k pb blk S off n cap N hbig HI.out a m b d s e A L1 R1 L2 R2 B L _ hg2.out hR2.out HSS.out.1 HSS.out.2 HN.out.1 HN.out.2.1 HN.out.2.2.1 HN.out.2.2.2.1 HN.out.2.2.2.2 hb hN hd HL.out _ _ _ _ _ _ _ _ _ _ _ _ _ _ _ _ _ _ _ _ _ _ _ _ _ _ _ _ _ _ _ _ _ _ _ _ _ _ _ _ _ _ _ _ _ _ _ _ _ _ _ _ _ _ _ _ _ _ _ _ _ _ _ _ _ _ _ _ _ _ _ _ _ _ _ _ _ _ _ _ _ _ _ _ _ _ _ _ _ _ _ _ _ _ _ _ _ _ _ _ _ _ _ _ _ _ _ _ _ _ _ _ _ _ _ _ _ _ _ _ _ _ _ _ _ _ _ _ _ _ _ _ _ _ _ _ _ _ _ _ _ _ _ _ _ _ _ _ _ _ _ _ _ _ _ _ _ _ _ _ _ _ _ _ _ _ _ _ _ _ _ _ _ _ _ _ _ _ _ _ _ _ _ _ _ _ _ _ _ _ _ _ _ _ _ _ _ _ _ _ _ _ _ _ _ _ _ _ _ _ _ _

set_option maxHeartbeats 2000000 in
set_option maxRecDepth 100000 in
theorem sym_tail1 (W0 : World) (k : Int → Int) (pb blk S off n cap N : Nat) (hbig : off + n ≤ 2305843009213693951) (IH : SymOK W0 k pb blk S off n cap N)
    (a m b d s e : Nat) (A L1 R1 L2 R2 B L : List Int) (wr : World) (hg : W0.grownBy wr (some blk)) (hR : RW blk S (A ++ (L1 ++ (R1 ++ (L2 ++ (R2 ++ B))))).toArray wr)
    (s1 : Srt k L1 ∧ Srt k R1) (s2 : Srt k L2 ∧ Srt k R2) (hA : A.length = off + a) (n1 : a + L1.length = s) (n3 : s + L2.length = d) (n2 : d + R1.length = e) (n4 : e + R2.length = b) (hb : b ≤ n) (hN : b ≤ a + N + 1) (hd : a < d ∧ d < b) (hm : s + R1.length = m)
    (hL : A ++ (ssort k (L1 ++ L2) ++ (ssort k (R1 ++ R2) ++ B)) = L) (v5 v6 v7 v8 v9 v10 v11 v12 v13 v14 v15 v16 v17 v19 v21 v22 v23 v25 v26 v27 v28 v29 v30 v31 v32 v33 v34 v35 v36 v37 v38 v39 v40 v41 v42 v43 v44 v45 v46 v47 v48 v49 v50 v51 v52 v53 v54 v55 v56 v57 v58 v59 v60 v61 v62 v63 v64 v65 v66 v67 v68 v69 v70 v71 v72 v73 v74 v75 v76 v77 v78 v79 v80 v81 v82 v83 v84 v85 v86 v87 v88 v89 v90 v91 v92 v93 v94 v95 v96 v97 v98 v99 v100 v101 v102 v103 v104 v105 v106 v107 v108 v109 v110 v111 v112 v113 v114 v115 v116 v117 v118 v119 v120 v121 v122 v123 v124 v125 v126 v127 v128 v129 v130 v131 v132 v133 v134 v135 v136 v137 v138 v139 v140 v141 v142 v143 v144 v145 v146 v147 v148 v149 v150 v151 v152 v153 v154 v155 v156 v157 v158 v159 v160 v161 v162 v163 v164 v165 v166 v167 v168 v169 v170 v171 v172 v173 v174 v175 v176 v177 v178 v179 v180 v181 v182 v183 v184 v185 v186 v187 v188 v189 v190 v191 v192 v193 v194 v195 v196 v197 v198 v199 v200 v201 v202 v203 v204 v205 v206 v207 v208 v209 v210 v211 v212 v213 v214 v215 v216 v217 v218 v219 : Value) :
    symTail1.wp Tryz.prog (bodyPost Tryz.prog Tryz.f109 (StPost W0 blk S L)) { tmps := #[.slice (some ⟨blk, off, none⟩) n cap, .int .i64 a, .int .i64 m, .int .i64 b, .func (.func 58) #[] #[.pointer (some ⟨pb, 0, none⟩)], v5, v6, v7, v8, v9, v10, v11, v12, v13, v14, v15, v16, v17, .int .i64 d, v19, .int .i64 s, v21, v22, v23, .int .i64 e, v25, v26, v27, v28, v29, v30, v31, v32, v33, v34, v35, v36, v37, v38, v39, v40, v41, v42, v43, v44, v45, v46, v47, v48, v49, v50, v51, v52, v53, v54, v55, v56, v57, v58, v59, v60, v61, v62, v63, v64, v65, v66, v67, v68, v69, v70, v71, v72, v73, v74, v75, v76, v77, v78, v79, v80, v81, v82, v83, v84, v85, v86, v87, v88, v89, v90, v91, v92, v93, v94, v95, v96, v97, v98, v99, v100, v101, v102, v103, v104, v105, v106, v107, v108, v109, v110, v111, v112, v113, v114, v115, v116, v117, v118, v119, v120, v121, v122, v123, v124, v125, v126, v127, v128, v129, v130, v131, v132, v133, v134, v135, v136, v137, v138, v139, v140, v141, v142, v143, v144, v145, v146, v147, v148, v149, v150, v151, v152, v153, v154, v155, v156, v157, v158, v159, v160, v161, v162, v163, v164, v165, v166, v167, v168, v169, v170, v171, v172, v173, v174, v175, v176, v177, v178, v179, v180, v181, v182, v183, v184, v185, v186, v187, v188, v189, v190, v191, v192, v193, v194, v195, v196, v197, v198, v199, v200, v201, v202, v203, v204, v205, v206, v207, v208, v209, v210, v211, v212, v213, v214, v215, v216, v217, v218, v219], defers := [] } wr := by
  dsimp only [symTail1, tail39, Tryz.f109, Option.bind, Option.getD, Option.orElse]
  have HN := Lib.hid (And.intro hA (And.intro n1 (And.intro n3 (And.intro n2 (And.intro n4 hm)))))
  have hen : e ≤ n ∧ s ≤ d ∧ d ≤ e ∧ d ≤ n ∧ a ≤ s ∧ e ≤ b ∧ s ≤ m ∧ m ≤ e := by omega
  have HSS := Lib.hid (And.intro s1 s2)
  have HI := Lib.hid IH
  have HL := Lib.hid hL
  have HR := Lib.hid hR
  have HG := Lib.hid hg
  clear IH hL hA n1 n2 n3 n4 hm s1 s2 hR hg
  apply wp_seq_k
  intro K1 hK1
  apply wp_seq_k
  intro K2 hK2
  go_upto_region 39 with fail
  go_cut [185] from 25 (fun v wx => v = .bool (decide (s < m) && decide (m < e)) ∧ wx = wr)
  case first =>
    by_cases t1 : s < m
    · by_cases t2 : m < e
      all_goals
        go_wp2
        go_meet
        exact ⟨by simp [t1, t2], rfl⟩
    · go_wp2
      go_meet
      exact ⟨by simp [t1], rfl⟩
  case rest =>
  obtain ⟨rfl, hwc⟩ := hcut
  rw [← hwc] at HR HG
  clear hwc
  go_upto_if 185 with fail
  go_cut [] from 25 (fun wx => Hid (RW blk S (A ++ (L1 ++ (L2 ++ (R1 ++ (R2 ++ B))))).toArray wx) ∧ Hid (W0.grownBy wx (some blk)))
  case first =>
    obtain ⟨hA, n1, n3, n2, n4, hm⟩ := HN.out
    by_cases t1 : s < m
    · by_cases t2 : m < e
      · have hrot := rotate_any blk S off n cap s m e (A ++ L1) R1 L2 (R2 ++ B) (cmpV pb) wc (by simpa using HR.out) (by simp; omega) hm (by omega) (by omega) (by omega) (by omega) (by omega)
        unfold cmpV at hrot
        have hrot2 := Lib.hid hrot
        clear hrot hA n1 n2 n3 n4 hm
        go_wp2_with (go_at_call 126; refine hrot2.out.mono ?_; rintro e w1 ⟨rfl, hR2, hg2⟩)
        go_meet
        exact ⟨by show RW _ _ _ _; simpa using hR2, HG.out.trans hg2⟩
      · have hL2 : L2 = [] := List.length_eq_zero_iff.1 (by omega)
        subst hL2
        clear hA n1 n2 n3 n4 hm
        go_wp2
        go_meet
        exact ⟨by show RW _ _ _ _; simpa using HR.out, HG⟩
    · have hR1 : R1 = [] := List.length_eq_zero_iff.1 (by omega)
      subst hR1
      clear hA n1 n2 n3 n4 hm
      go_wp2
      go_meet
      exact ⟨by show RW _ _ _ _; simpa using HR.out, HG⟩
  case rest =>
  obtain ⟨hR2, hg2⟩ := hcut
  clear HR HG
  try simp only [Exit.then]
  refine hK1 _ _ ?_
  exact sym_tail W0 k pb blk S off n cap N hbig HI.out a m b d s e A L1 R1 L2 R2 B L _ hg2.out (by simpa using hR2.out) HSS.out.1 HSS.out.2 HN.out.1 HN.out.2.1 HN.out.2.2.1 HN.out.2.2.2.1 HN.out.2.2.2.2.1 hb hN hd HL.out _ _ _ _ _ _ _ _ _ _ _ _ _ _ _ _ _ _ _ _ _ _ _ _ _ _ _ _ _ _ _ _ _ _ _ _ _ _ _ _ _ _ _ _ _ _ _ _ _ _ _ _ _ _ _ _ _ _ _ _ _ _ _ _ _ _ _ _ _ _ _ _ _ _ _ _ _ _ _ _ _ _ _ _ _ _ _ _ _ _ _ _ _ _ _ _ _ _ _ _ _ _ _ _ _ _ _ _ _ _ _ _ _ _ _ _ _ _ _ _ _ _ _ _ _ _ _ _ _ _ _ _ _ _ _ _ _ _ _ _ _ _ _ _ _ _ _ _ _ _ _ _ _ _ _ _ _ _ _ _ _ _ _ _ _ _ _ _ _ _ _ _ _ _ _ _ _ _ _ _ _ _ _ _ _ _ _ _ _ _ _ _ _ _ _ _ _ _ _ _ _ _ _ _ _ _ _ _ _ _ _ _

end Go.Proofs.YtgidpknckbgmbaaGreatDoor
