/- The library's stable sort of packs: merging two rows: the three calls at the end, each by a walk. · The library's stable sort of packs: merging two rows: behind the search. · The library's stable sort of packs: merging two rows, by a walk. · The library's stable sort of packs: the whole, by a walk. · The library's stable sort of packs: as coins wants it. -/
import Derived.Test.YtoefkkgnabjmdaaSortA
import Derived.Deep.CutBlock
import Derived.Test.YtoefkkgnabjmdaaSort1
set_option linter.unusedSimpArgs false
set_option linter.unusedVariables false
set_option maxRecDepth 100000
namespace Go.Proofs.Ytoefkkgnabjmdaa

/-! Sort8 -/
section
open Go.RowKit

theorem bs3_step (l : List Pe) (p i j : Nat) (h : i < j) : bs3 l p i j = if ¬ (gt l (p - (i + j) / 2)).cost < (gt l ((i + j) / 2)).cost then bs3 l p ((i + j) / 2 + 1) j else bs3 l p i ((i + j) / 2) := by rw [bs3]; rw [dif_pos h]
theorem bs3_end (l : List Pe) (p i j : Nat) (h : ¬ i < j) : bs3 l p i j = i := by rw [bs3]; rw [dif_neg h]
def symLeft (f : Nat) (l1 : List Pe) (a s mid : Nat) : List Pe := if a < s ∧ s < mid then symM f l1 a s mid else l1
def symRight (f : Nat) (l2 : List Pe) (mid e b : Nat) : List Pe := if mid < e ∧ e < b then symM f l2 mid e b else l2
def symTurn (l : List Pe) (m s e : Nat) : List Pe := if s < m ∧ m < e then rot m (m - s) (e - m) l else l
theorem symM_main (f : Nat) (l : List Pe) (a m b mid s e : Nat) (h1 : ¬ m - a = 1) (h2 : ¬ b - m = 1) (hm : mid = (a + b) / 2) (hs : symStart l a m b = s) (he : mid + m - s = e) :
    symM (f + 1) l a m b = symRight f (symLeft f (symTurn l m s e) a s mid) mid e b := by
  have e1 : symEnd l a m b = e := by unfold symEnd; rw [hs, ← hm]; exact he
  conv => lhs; unfold symM
  rw [if_neg h1, if_neg h2]
  simp only [hs, e1, ← hm]
  unfold symRight symLeft symTurn symRot
  rw [hs, e1]
def fstC : Code → Code
  | .seq a _ => a
  | c => c
def sndC : Code → Code
  | .seq _ b => b
  | c => c
noncomputable def sT38 : Code := sndC (sndC (sndC (sndC (sndC (sndC (sndC (sndC (Try.f120.body.getD .skip))))))))
noncomputable def sC39 : Code := fstC (sndC sT38)
noncomputable def sC41 : Code := fstC (sndC (sndC sT38))
noncomputable def sC43 : Code := sndC (sndC (sndC sT38))

set_option maxHeartbeats 4000000 in
theorem s39 (f base g o c n a m b mid i E : Nat) (l : List Pe) (hn : n ≤ 1000000000) (hEn : E ≤ n)
    (w0 wc : World) (h : PRow wc base (.slice (some ⟨g, o, none⟩) n c) l) (hg : w0.grownBy wc (some g)) (Q0 : Exit → Act → World → Prop) (u5 u6 u7 u8 u9 u10 u11 u12 u13 u14 u15 u16 u17 u19 u21 u22 u23 u25 u26 u27 u28 u29 u30 u31 u32 u33 u34 u35 u36 u37 u38 u39 u40 u41 u42 u43 u44 u45 u46 u47 u48 u49 u50 u51 u52 u53 u54 u55 u56 u57 u58 u59 u60 u61 u62 u63 u64 u65 u66 u67 u68 u69 u70 u71 u72 u73 u74 u75 u76 u77 u78 u79 u80 u81 u82 u83 u84 u85 u86 u87 u88 u89 u90 u91 u92 u93 u94 u95 u96 u97 u98 u99 u100 u101 u102 u103 u104 u105 u106 u107 u108 u109 u110 u111 u112 u113 u114 u115 u116 u117 u118 u119 u120 u121 u122 u123 u124 u125 u126 u127 u128 u129 u130 u131 u132 u133 u134 u135 u136 u137 u138 u139 u140 u141 u142 u143 u144 u145 u146 u147 u148 u149 u150 u151 u152 u153 u154 u155 u156 u157 u158 u159 u160 u161 u162 u163 u164 u165 u166 u167 u168 u169 u170 u171 u172 u173 u174 u175 u176 u177 u178 u179 u180 u181 u182 u183 u184 u185 u186 u187 u188 u189 u190 u191 u192 u193 u194 u195 u196 u197 u198 u199 u200 u201 u202 u203 u204 u205 u206 u207 u208 u209 u210 u211 u212 u213 u214 u215 u216 u217 u218 u219 : Value)
    (hk : ∀ (v178 v179 v180 v181 v182 v183 v184 v185 v186 v187 v188 v189 v190 v191 : Value) (wd : World), PRow wd base (.slice (some ⟨g, o, none⟩) n c) (symTurn l m i E) → w0.grownBy wd (some g) → Q0 .normal ⟨#[(.slice (some ⟨g, o, none⟩) n c), .int .i64 a, .int .i64 m, .int .i64 b, (.func (.func 72) #[] #[]), u5, u6, u7, u8, u9, u10, u11, u12, u13, u14, u15, u16, u17, .int .i64 mid, u19, .int .i64 i, u21, u22, u23, .int .i64 E, u25, u26, u27, u28, u29, u30, u31, u32, u33, u34, u35, u36, u37, u38, u39, u40, u41, u42, u43, u44, u45, u46, u47, u48, u49, u50, u51, u52, u53, u54, u55, u56, u57, u58, u59, u60, u61, u62, u63, u64, u65, u66, u67, u68, u69, u70, u71, u72, u73, u74, u75, u76, u77, u78, u79, u80, u81, u82, u83, u84, u85, u86, u87, u88, u89, u90, u91, u92, u93, u94, u95, u96, u97, u98, u99, u100, u101, u102, u103, u104, u105, u106, u107, u108, u109, u110, u111, u112, u113, u114, u115, u116, u117, u118, u119, u120, u121, u122, u123, u124, u125, u126, u127, u128, u129, u130, u131, u132, u133, u134, u135, u136, u137, u138, u139, u140, u141, u142, u143, u144, u145, u146, u147, u148, u149, u150, u151, u152, u153, u154, u155, u156, u157, u158, u159, u160, u161, u162, u163, u164, u165, u166, u167, u168, u169, u170, u171, u172, u173, u174, u175, u176, u177, v178, v179, v180, v181, v182, v183, v184, v185, v186, v187, v188, v189, v190, v191, u192, u193, u194, u195, u196, u197, u198, u199, u200, u201, u202, u203, u204, u205, u206, u207, u208, u209, u210, u211, u212, u213, u214, u215, u216, u217, u218, u219], []⟩ wd) :
    Code.wp Try.prog sC39 Q0 ⟨#[(.slice (some ⟨g, o, none⟩) n c), .int .i64 a, .int .i64 m, .int .i64 b, (.func (.func 72) #[] #[]), u5, u6, u7, u8, u9, u10, u11, u12, u13, u14, u15, u16, u17, .int .i64 mid, u19, .int .i64 i, u21, u22, u23, .int .i64 E, u25, u26, u27, u28, u29, u30, u31, u32, u33, u34, u35, u36, u37, u38, u39, u40, u41, u42, u43, u44, u45, u46, u47, u48, u49, u50, u51, u52, u53, u54, u55, u56, u57, u58, u59, u60, u61, u62, u63, u64, u65, u66, u67, u68, u69, u70, u71, u72, u73, u74, u75, u76, u77, u78, u79, u80, u81, u82, u83, u84, u85, u86, u87, u88, u89, u90, u91, u92, u93, u94, u95, u96, u97, u98, u99, u100, u101, u102, u103, u104, u105, u106, u107, u108, u109, u110, u111, u112, u113, u114, u115, u116, u117, u118, u119, u120, u121, u122, u123, u124, u125, u126, u127, u128, u129, u130, u131, u132, u133, u134, u135, u136, u137, u138, u139, u140, u141, u142, u143, u144, u145, u146, u147, u148, u149, u150, u151, u152, u153, u154, u155, u156, u157, u158, u159, u160, u161, u162, u163, u164, u165, u166, u167, u168, u169, u170, u171, u172, u173, u174, u175, u176, u177, u178, u179, u180, u181, u182, u183, u184, u185, u186, u187, u188, u189, u190, u191, u192, u193, u194, u195, u196, u197, u198, u199, u200, u201, u202, u203, u204, u205, u206, u207, u208, u209, u210, u211, u212, u213, u214, u215, u216, u217, u218, u219], []⟩ wc := by
  have HK := Lib.hid hk
  clear hk
  conv => arg 2; whnf
  by_cases t1 : i < m
  · by_cases t2 : m < E
    · have HR : Hid (symTurn l m i E = _) := Lib.hid (if_pos ⟨t1, t2⟩)
      have d1 : decide ((i : Int) < (m : Int)) = true := by rw [decide_eq_true_eq]; omega
      have d2 : decide ((m : Int) < (E : Int)) = true := by rw [decide_eq_true_eq]; omega
      have hq := p_rotate base g o c n i m E l hn t1 t2 hEn wc h
      go_wp2_with fail
      refine hq.mono ?_
      rintro e w2 ⟨rfl, hr2, hg2⟩
      have HG2 := Lib.hid (grown_then hg hg2)
      rw [← HR.out] at hr2
      clear hg2 hq
      go_wp2
      exact HK.out _ _ _ _ _ _ _ _ _ _ _ _ _ _ _ hr2 HG2.out
    · have HR : Hid (symTurn l m i E = _) := Lib.hid (if_neg (fun h => t2 h.2))
      have d1 : decide ((i : Int) < (m : Int)) = true := by rw [decide_eq_true_eq]; omega
      have d2 : decide ((m : Int) < (E : Int)) = false := by rw [decide_eq_false_iff_not]; omega
      go_wp2
      exact HK.out _ _ _ _ _ _ _ _ _ _ _ _ _ _ _ (by rw [HR.out]; exact h) hg
  · have HR : Hid (symTurn l m i E = _) := Lib.hid (if_neg (fun h => t1 h.1))
    have d1 : decide ((i : Int) < (m : Int)) = false := by rw [decide_eq_false_iff_not]; omega
    go_wp2
    exact HK.out _ _ _ _ _ _ _ _ _ _ _ _ _ _ _ (by rw [HR.out]; exact h) hg

set_option maxHeartbeats 4000000 in
theorem s41 (f base g o c n a m b mid i E : Nat) (l : List Pe) (hn : n ≤ 1000000000) (hmid : mid - a ≤ f) (hmn : mid ≤ n)
    (IH : ∀ (a m b : Nat) (l : List Pe) (w : World), b - a ≤ f → a < m → m < b → b ≤ n → PRow w base (.slice (some ⟨g, o, none⟩) n c) l → Calls Try.prog 120 #[(.slice (some ⟨g, o, none⟩) n c), .int .i64 a, .int .i64 m, .int .i64 b, (.func (.func 72) #[] #[])] w (Works w base g (.slice (some ⟨g, o, none⟩) n c) (symM f l a m b)))
    (w0 wc : World) (h : PRow wc base (.slice (some ⟨g, o, none⟩) n c) l) (hg : w0.grownBy wc (some g)) (Q0 : Exit → Act → World → Prop) (u5 u6 u7 u8 u9 u10 u11 u12 u13 u14 u15 u16 u17 u19 u21 u22 u23 u25 u26 u27 u28 u29 u30 u31 u32 u33 u34 u35 u36 u37 u38 u39 u40 u41 u42 u43 u44 u45 u46 u47 u48 u49 u50 u51 u52 u53 u54 u55 u56 u57 u58 u59 u60 u61 u62 u63 u64 u65 u66 u67 u68 u69 u70 u71 u72 u73 u74 u75 u76 u77 u78 u79 u80 u81 u82 u83 u84 u85 u86 u87 u88 u89 u90 u91 u92 u93 u94 u95 u96 u97 u98 u99 u100 u101 u102 u103 u104 u105 u106 u107 u108 u109 u110 u111 u112 u113 u114 u115 u116 u117 u118 u119 u120 u121 u122 u123 u124 u125 u126 u127 u128 u129 u130 u131 u132 u133 u134 u135 u136 u137 u138 u139 u140 u141 u142 u143 u144 u145 u146 u147 u148 u149 u150 u151 u152 u153 u154 u155 u156 u157 u158 u159 u160 u161 u162 u163 u164 u165 u166 u167 u168 u169 u170 u171 u172 u173 u174 u175 u176 u177 u178 u179 u180 u181 u182 u183 u184 u185 u186 u187 u188 u189 u190 u191 u192 u193 u194 u195 u196 u197 u198 u199 u200 u201 u202 u203 u204 u205 u206 u207 u208 u209 u210 u211 u212 u213 u214 u215 u216 u217 u218 u219 : Value)
    (hk : ∀ (v192 v193 v194 v195 v196 v197 v198 v199 v200 v201 v202 v203 v204 v205 : Value) (wd : World), PRow wd base (.slice (some ⟨g, o, none⟩) n c) (symLeft f l a i mid) → w0.grownBy wd (some g) → Q0 .normal ⟨#[(.slice (some ⟨g, o, none⟩) n c), .int .i64 a, .int .i64 m, .int .i64 b, (.func (.func 72) #[] #[]), u5, u6, u7, u8, u9, u10, u11, u12, u13, u14, u15, u16, u17, .int .i64 mid, u19, .int .i64 i, u21, u22, u23, .int .i64 E, u25, u26, u27, u28, u29, u30, u31, u32, u33, u34, u35, u36, u37, u38, u39, u40, u41, u42, u43, u44, u45, u46, u47, u48, u49, u50, u51, u52, u53, u54, u55, u56, u57, u58, u59, u60, u61, u62, u63, u64, u65, u66, u67, u68, u69, u70, u71, u72, u73, u74, u75, u76, u77, u78, u79, u80, u81, u82, u83, u84, u85, u86, u87, u88, u89, u90, u91, u92, u93, u94, u95, u96, u97, u98, u99, u100, u101, u102, u103, u104, u105, u106, u107, u108, u109, u110, u111, u112, u113, u114, u115, u116, u117, u118, u119, u120, u121, u122, u123, u124, u125, u126, u127, u128, u129, u130, u131, u132, u133, u134, u135, u136, u137, u138, u139, u140, u141, u142, u143, u144, u145, u146, u147, u148, u149, u150, u151, u152, u153, u154, u155, u156, u157, u158, u159, u160, u161, u162, u163, u164, u165, u166, u167, u168, u169, u170, u171, u172, u173, u174, u175, u176, u177, u178, u179, u180, u181, u182, u183, u184, u185, u186, u187, u188, u189, u190, u191, v192, v193, v194, v195, v196, v197, v198, v199, v200, v201, v202, v203, v204, v205, u206, u207, u208, u209, u210, u211, u212, u213, u214, u215, u216, u217, u218, u219], []⟩ wd) :
    Code.wp Try.prog sC41 Q0 ⟨#[(.slice (some ⟨g, o, none⟩) n c), .int .i64 a, .int .i64 m, .int .i64 b, (.func (.func 72) #[] #[]), u5, u6, u7, u8, u9, u10, u11, u12, u13, u14, u15, u16, u17, .int .i64 mid, u19, .int .i64 i, u21, u22, u23, .int .i64 E, u25, u26, u27, u28, u29, u30, u31, u32, u33, u34, u35, u36, u37, u38, u39, u40, u41, u42, u43, u44, u45, u46, u47, u48, u49, u50, u51, u52, u53, u54, u55, u56, u57, u58, u59, u60, u61, u62, u63, u64, u65, u66, u67, u68, u69, u70, u71, u72, u73, u74, u75, u76, u77, u78, u79, u80, u81, u82, u83, u84, u85, u86, u87, u88, u89, u90, u91, u92, u93, u94, u95, u96, u97, u98, u99, u100, u101, u102, u103, u104, u105, u106, u107, u108, u109, u110, u111, u112, u113, u114, u115, u116, u117, u118, u119, u120, u121, u122, u123, u124, u125, u126, u127, u128, u129, u130, u131, u132, u133, u134, u135, u136, u137, u138, u139, u140, u141, u142, u143, u144, u145, u146, u147, u148, u149, u150, u151, u152, u153, u154, u155, u156, u157, u158, u159, u160, u161, u162, u163, u164, u165, u166, u167, u168, u169, u170, u171, u172, u173, u174, u175, u176, u177, u178, u179, u180, u181, u182, u183, u184, u185, u186, u187, u188, u189, u190, u191, u192, u193, u194, u195, u196, u197, u198, u199, u200, u201, u202, u203, u204, u205, u206, u207, u208, u209, u210, u211, u212, u213, u214, u215, u216, u217, u218, u219], []⟩ wc := by
  have HK := Lib.hid hk
  clear hk
  conv => arg 2; whnf
  by_cases t1 : a < i
  · by_cases t2 : i < mid
    · have HR : Hid (symLeft f l a i mid = _) := Lib.hid (if_pos ⟨t1, t2⟩)
      have d1 : decide ((a : Int) < (i : Int)) = true := by rw [decide_eq_true_eq]; omega
      have d2 : decide ((i : Int) < (mid : Int)) = true := by rw [decide_eq_true_eq]; omega
      have hq := IH a i mid l wc (by omega) t1 t2 (by omega) h
      go_wp2_with fail
      refine hq.mono ?_
      rintro e w2 ⟨rfl, hr2, hg2⟩
      have HG2 := Lib.hid (grown_then hg hg2)
      rw [← HR.out] at hr2
      clear hg2 hq
      go_wp2
      exact HK.out _ _ _ _ _ _ _ _ _ _ _ _ _ _ _ hr2 HG2.out
    · have HR : Hid (symLeft f l a i mid = _) := Lib.hid (if_neg (fun h => t2 h.2))
      have d1 : decide ((a : Int) < (i : Int)) = true := by rw [decide_eq_true_eq]; omega
      have d2 : decide ((i : Int) < (mid : Int)) = false := by rw [decide_eq_false_iff_not]; omega
      go_wp2
      exact HK.out _ _ _ _ _ _ _ _ _ _ _ _ _ _ _ (by rw [HR.out]; exact h) hg
  · have HR : Hid (symLeft f l a i mid = _) := Lib.hid (if_neg (fun h => t1 h.1))
    have d1 : decide ((a : Int) < (i : Int)) = false := by rw [decide_eq_false_iff_not]; omega
    go_wp2
    exact HK.out _ _ _ _ _ _ _ _ _ _ _ _ _ _ _ (by rw [HR.out]; exact h) hg

set_option maxHeartbeats 4000000 in
theorem s43 (f base g o c n a m b mid i E : Nat) (l : List Pe) (hn : n ≤ 1000000000) (hmid : b - mid ≤ f) (hmn : b ≤ n)
    (IH : ∀ (a m b : Nat) (l : List Pe) (w : World), b - a ≤ f → a < m → m < b → b ≤ n → PRow w base (.slice (some ⟨g, o, none⟩) n c) l → Calls Try.prog 120 #[(.slice (some ⟨g, o, none⟩) n c), .int .i64 a, .int .i64 m, .int .i64 b, (.func (.func 72) #[] #[])] w (Works w base g (.slice (some ⟨g, o, none⟩) n c) (symM f l a m b)))
    (w0 wc : World) (h : PRow wc base (.slice (some ⟨g, o, none⟩) n c) l) (hg : w0.grownBy wc (some g)) (Q0 : Exit → Act → World → Prop) (u5 u6 u7 u8 u9 u10 u11 u12 u13 u14 u15 u16 u17 u19 u21 u22 u23 u25 u26 u27 u28 u29 u30 u31 u32 u33 u34 u35 u36 u37 u38 u39 u40 u41 u42 u43 u44 u45 u46 u47 u48 u49 u50 u51 u52 u53 u54 u55 u56 u57 u58 u59 u60 u61 u62 u63 u64 u65 u66 u67 u68 u69 u70 u71 u72 u73 u74 u75 u76 u77 u78 u79 u80 u81 u82 u83 u84 u85 u86 u87 u88 u89 u90 u91 u92 u93 u94 u95 u96 u97 u98 u99 u100 u101 u102 u103 u104 u105 u106 u107 u108 u109 u110 u111 u112 u113 u114 u115 u116 u117 u118 u119 u120 u121 u122 u123 u124 u125 u126 u127 u128 u129 u130 u131 u132 u133 u134 u135 u136 u137 u138 u139 u140 u141 u142 u143 u144 u145 u146 u147 u148 u149 u150 u151 u152 u153 u154 u155 u156 u157 u158 u159 u160 u161 u162 u163 u164 u165 u166 u167 u168 u169 u170 u171 u172 u173 u174 u175 u176 u177 u178 u179 u180 u181 u182 u183 u184 u185 u186 u187 u188 u189 u190 u191 u192 u193 u194 u195 u196 u197 u198 u199 u200 u201 u202 u203 u204 u205 u206 u207 u208 u209 u210 u211 u212 u213 u214 u215 u216 u217 u218 u219 : Value)
    (hk : ∀ (v206 v207 v208 v209 v210 v211 v212 v213 v214 v215 v216 v217 v218 v219 : Value) (wd : World), PRow wd base (.slice (some ⟨g, o, none⟩) n c) (symRight f l mid E b) → w0.grownBy wd (some g) → Q0 .normal ⟨#[(.slice (some ⟨g, o, none⟩) n c), .int .i64 a, .int .i64 m, .int .i64 b, (.func (.func 72) #[] #[]), u5, u6, u7, u8, u9, u10, u11, u12, u13, u14, u15, u16, u17, .int .i64 mid, u19, .int .i64 i, u21, u22, u23, .int .i64 E, u25, u26, u27, u28, u29, u30, u31, u32, u33, u34, u35, u36, u37, u38, u39, u40, u41, u42, u43, u44, u45, u46, u47, u48, u49, u50, u51, u52, u53, u54, u55, u56, u57, u58, u59, u60, u61, u62, u63, u64, u65, u66, u67, u68, u69, u70, u71, u72, u73, u74, u75, u76, u77, u78, u79, u80, u81, u82, u83, u84, u85, u86, u87, u88, u89, u90, u91, u92, u93, u94, u95, u96, u97, u98, u99, u100, u101, u102, u103, u104, u105, u106, u107, u108, u109, u110, u111, u112, u113, u114, u115, u116, u117, u118, u119, u120, u121, u122, u123, u124, u125, u126, u127, u128, u129, u130, u131, u132, u133, u134, u135, u136, u137, u138, u139, u140, u141, u142, u143, u144, u145, u146, u147, u148, u149, u150, u151, u152, u153, u154, u155, u156, u157, u158, u159, u160, u161, u162, u163, u164, u165, u166, u167, u168, u169, u170, u171, u172, u173, u174, u175, u176, u177, u178, u179, u180, u181, u182, u183, u184, u185, u186, u187, u188, u189, u190, u191, u192, u193, u194, u195, u196, u197, u198, u199, u200, u201, u202, u203, u204, u205, v206, v207, v208, v209, v210, v211, v212, v213, v214, v215, v216, v217, v218, v219], []⟩ wd) :
    Code.wp Try.prog sC43 Q0 ⟨#[(.slice (some ⟨g, o, none⟩) n c), .int .i64 a, .int .i64 m, .int .i64 b, (.func (.func 72) #[] #[]), u5, u6, u7, u8, u9, u10, u11, u12, u13, u14, u15, u16, u17, .int .i64 mid, u19, .int .i64 i, u21, u22, u23, .int .i64 E, u25, u26, u27, u28, u29, u30, u31, u32, u33, u34, u35, u36, u37, u38, u39, u40, u41, u42, u43, u44, u45, u46, u47, u48, u49, u50, u51, u52, u53, u54, u55, u56, u57, u58, u59, u60, u61, u62, u63, u64, u65, u66, u67, u68, u69, u70, u71, u72, u73, u74, u75, u76, u77, u78, u79, u80, u81, u82, u83, u84, u85, u86, u87, u88, u89, u90, u91, u92, u93, u94, u95, u96, u97, u98, u99, u100, u101, u102, u103, u104, u105, u106, u107, u108, u109, u110, u111, u112, u113, u114, u115, u116, u117, u118, u119, u120, u121, u122, u123, u124, u125, u126, u127, u128, u129, u130, u131, u132, u133, u134, u135, u136, u137, u138, u139, u140, u141, u142, u143, u144, u145, u146, u147, u148, u149, u150, u151, u152, u153, u154, u155, u156, u157, u158, u159, u160, u161, u162, u163, u164, u165, u166, u167, u168, u169, u170, u171, u172, u173, u174, u175, u176, u177, u178, u179, u180, u181, u182, u183, u184, u185, u186, u187, u188, u189, u190, u191, u192, u193, u194, u195, u196, u197, u198, u199, u200, u201, u202, u203, u204, u205, u206, u207, u208, u209, u210, u211, u212, u213, u214, u215, u216, u217, u218, u219], []⟩ wc := by
  have HK := Lib.hid hk
  clear hk
  conv => arg 2; whnf
  by_cases t1 : mid < E
  · by_cases t2 : E < b
    · have HR : Hid (symRight f l mid E b = _) := Lib.hid (if_pos ⟨t1, t2⟩)
      have d1 : decide ((mid : Int) < (E : Int)) = true := by rw [decide_eq_true_eq]; omega
      have d2 : decide ((E : Int) < (b : Int)) = true := by rw [decide_eq_true_eq]; omega
      have hq := IH mid E b l wc (by omega) t1 t2 (by omega) h
      go_wp2_with fail
      refine hq.mono ?_
      rintro e w2 ⟨rfl, hr2, hg2⟩
      have HG2 := Lib.hid (grown_then hg hg2)
      rw [← HR.out] at hr2
      clear hg2 hq
      go_wp2
      exact HK.out _ _ _ _ _ _ _ _ _ _ _ _ _ _ _ hr2 HG2.out
    · have HR : Hid (symRight f l mid E b = _) := Lib.hid (if_neg (fun h => t2 h.2))
      have d1 : decide ((mid : Int) < (E : Int)) = true := by rw [decide_eq_true_eq]; omega
      have d2 : decide ((E : Int) < (b : Int)) = false := by rw [decide_eq_false_iff_not]; omega
      go_wp2
      exact HK.out _ _ _ _ _ _ _ _ _ _ _ _ _ _ _ (by rw [HR.out]; exact h) hg
  · have HR : Hid (symRight f l mid E b = _) := Lib.hid (if_neg (fun h => t1 h.1))
    have d1 : decide ((mid : Int) < (E : Int)) = false := by rw [decide_eq_false_iff_not]; omega
    go_wp2
    exact HK.out _ _ _ _ _ _ _ _ _ _ _ _ _ _ _ (by rw [HR.out]; exact h) hg
end

/-! Sort9 -/
section
open Go.RowKit

noncomputable def sC38 : Code := fstC sT38
set_option maxHeartbeats 4000000 in
theorem s38 (g o c n a m b mid i E : Nat) (hE : (mid : Int) + m - i = E) (hn : E ≤ 1000000000) (wc : World) (Q0 : Exit → Act → World → Prop) (u5 u6 u7 u8 u9 u10 u11 u12 u13 u14 u15 u16 u17 u21 u22 u23 u24 u25 u26 u27 u28 u29 u30 u31 u32 u33 u34 u35 u36 u37 u38 u39 u40 u41 u42 u43 u44 u45 u46 u47 u48 u49 u50 u51 u52 u53 u54 u55 u56 u57 u58 u59 u60 u61 u62 u63 u64 u65 u66 u67 u68 u69 u70 u71 u72 u73 u74 u75 u76 u77 u78 u79 u80 u81 u82 u83 u84 u85 u86 u87 u88 u89 u90 u91 u92 u93 u94 u95 u96 u97 u98 u99 u100 u101 u102 u103 u104 u105 u106 u107 u108 u109 u110 u111 u112 u113 u114 u115 u116 u117 u118 u119 u120 u121 u122 u123 u124 u125 u126 u127 u128 u129 u130 u131 u132 u133 u134 u135 u136 u137 u138 u139 u140 u141 u142 u143 u144 u145 u146 u147 u148 u149 u150 u151 u152 u153 u154 u155 u156 u157 u158 u159 u160 u161 u162 u163 u164 u165 u166 u167 u168 u169 u170 u171 u172 u173 u174 u175 u176 u177 u178 u179 u180 u181 u182 u183 u184 u185 u186 u187 u188 u189 u190 u191 u192 u193 u194 u195 u196 u197 u198 u199 u200 u201 u202 u203 u204 u205 u206 u207 u208 u209 u210 u211 u212 u213 u214 u215 u216 u217 u218 u219 : Value)
    (hk : ∀ (v175 v176 v177 : Value), Q0 .normal ⟨#[(.slice (some ⟨g, o, none⟩) n c), .int .i64 a, .int .i64 m, .int .i64 b, (.func (.func 72) #[] #[]), u5, u6, u7, u8, u9, u10, u11, u12, u13, u14, u15, u16, u17, .int .i64 mid, .int .i64 ((mid : Int) + m), .int .i64 i, u21, u22, u23, .int .i64 E, u25, u26, u27, u28, u29, u30, u31, u32, u33, u34, u35, u36, u37, u38, u39, u40, u41, u42, u43, u44, u45, u46, u47, u48, u49, u50, u51, u52, u53, u54, u55, u56, u57, u58, u59, u60, u61, u62, u63, u64, u65, u66, u67, u68, u69, u70, u71, u72, u73, u74, u75, u76, u77, u78, u79, u80, u81, u82, u83, u84, u85, u86, u87, u88, u89, u90, u91, u92, u93, u94, u95, u96, u97, u98, u99, u100, u101, u102, u103, u104, u105, u106, u107, u108, u109, u110, u111, u112, u113, u114, u115, u116, u117, u118, u119, u120, u121, u122, u123, u124, u125, u126, u127, u128, u129, u130, u131, u132, u133, u134, u135, u136, u137, u138, u139, u140, u141, u142, u143, u144, u145, u146, u147, u148, u149, u150, u151, u152, u153, u154, u155, u156, u157, u158, u159, u160, u161, u162, u163, u164, u165, u166, u167, u168, u169, u170, u171, u172, u173, u174, v175, v176, v177, u178, u179, u180, u181, u182, u183, u184, u185, u186, u187, u188, u189, u190, u191, u192, u193, u194, u195, u196, u197, u198, u199, u200, u201, u202, u203, u204, u205, u206, u207, u208, u209, u210, u211, u212, u213, u214, u215, u216, u217, u218, u219], []⟩ wc) :
    Code.wp Try.prog sC38 Q0 ⟨#[(.slice (some ⟨g, o, none⟩) n c), .int .i64 a, .int .i64 m, .int .i64 b, (.func (.func 72) #[] #[]), u5, u6, u7, u8, u9, u10, u11, u12, u13, u14, u15, u16, u17, .int .i64 mid, .int .i64 ((mid : Int) + m), .int .i64 i, u21, u22, u23, u24, u25, u26, u27, u28, u29, u30, u31, u32, u33, u34, u35, u36, u37, u38, u39, u40, u41, u42, u43, u44, u45, u46, u47, u48, u49, u50, u51, u52, u53, u54, u55, u56, u57, u58, u59, u60, u61, u62, u63, u64, u65, u66, u67, u68, u69, u70, u71, u72, u73, u74, u75, u76, u77, u78, u79, u80, u81, u82, u83, u84, u85, u86, u87, u88, u89, u90, u91, u92, u93, u94, u95, u96, u97, u98, u99, u100, u101, u102, u103, u104, u105, u106, u107, u108, u109, u110, u111, u112, u113, u114, u115, u116, u117, u118, u119, u120, u121, u122, u123, u124, u125, u126, u127, u128, u129, u130, u131, u132, u133, u134, u135, u136, u137, u138, u139, u140, u141, u142, u143, u144, u145, u146, u147, u148, u149, u150, u151, u152, u153, u154, u155, u156, u157, u158, u159, u160, u161, u162, u163, u164, u165, u166, u167, u168, u169, u170, u171, u172, u173, u174, u175, u176, u177, u178, u179, u180, u181, u182, u183, u184, u185, u186, u187, u188, u189, u190, u191, u192, u193, u194, u195, u196, u197, u198, u199, u200, u201, u202, u203, u204, u205, u206, u207, u208, u209, u210, u211, u212, u213, u214, u215, u216, u217, u218, u219], []⟩ wc := by
  have HK := Lib.hid hk
  clear hk
  conv => arg 2; whnf
  go_wp2_with fail
  exact HK.out _ _ _
set_option maxHeartbeats 4000000 in
theorem sTail (f base g o c n a m b mid i E : Nat) (l R : List Pe) (hn : n ≤ 1000000000) (hb : b ≤ n) (hE : E = mid + m - i) (hi : i ≤ m) (himid : i ≤ mid) (hEb : E ≤ b) (h1 : mid - a ≤ f) (h2 : b - mid ≤ f) (hmid : mid ≤ b)
    (IH : ∀ (a m b : Nat) (l : List Pe) (w : World), b - a ≤ f → a < m → m < b → b ≤ n → PRow w base (.slice (some ⟨g, o, none⟩) n c) l → Calls Try.prog 120 #[(.slice (some ⟨g, o, none⟩) n c), .int .i64 a, .int .i64 m, .int .i64 b, (.func (.func 72) #[] #[])] w (Works w base g (.slice (some ⟨g, o, none⟩) n c) (symM f l a m b)))
    (hR : symRight f (symLeft f (symTurn l m i E) a i mid) mid E b = R)
    (w0 wc : World) (h : PRow wc base (.slice (some ⟨g, o, none⟩) n c) l) (hg : w0.grownBy wc (some g)) (u5 u6 u7 u8 u9 u10 u11 u12 u13 u14 u15 u16 u17 u21 u22 u23 u24 u25 u26 u27 u28 u29 u30 u31 u32 u33 u34 u35 u36 u37 u38 u39 u40 u41 u42 u43 u44 u45 u46 u47 u48 u49 u50 u51 u52 u53 u54 u55 u56 u57 u58 u59 u60 u61 u62 u63 u64 u65 u66 u67 u68 u69 u70 u71 u72 u73 u74 u75 u76 u77 u78 u79 u80 u81 u82 u83 u84 u85 u86 u87 u88 u89 u90 u91 u92 u93 u94 u95 u96 u97 u98 u99 u100 u101 u102 u103 u104 u105 u106 u107 u108 u109 u110 u111 u112 u113 u114 u115 u116 u117 u118 u119 u120 u121 u122 u123 u124 u125 u126 u127 u128 u129 u130 u131 u132 u133 u134 u135 u136 u137 u138 u139 u140 u141 u142 u143 u144 u145 u146 u147 u148 u149 u150 u151 u152 u153 u154 u155 u156 u157 u158 u159 u160 u161 u162 u163 u164 u165 u166 u167 u168 u169 u170 u171 u172 u173 u174 u175 u176 u177 u178 u179 u180 u181 u182 u183 u184 u185 u186 u187 u188 u189 u190 u191 u192 u193 u194 u195 u196 u197 u198 u199 u200 u201 u202 u203 u204 u205 u206 u207 u208 u209 u210 u211 u212 u213 u214 u215 u216 u217 u218 u219 : Value) :
    Code.wp Try.prog sT38 (bodyPost Try.prog Try.f120 (Works w0 base g (.slice (some ⟨g, o, none⟩) n c) R)) ⟨#[(.slice (some ⟨g, o, none⟩) n c), .int .i64 a, .int .i64 m, .int .i64 b, (.func (.func 72) #[] #[]), u5, u6, u7, u8, u9, u10, u11, u12, u13, u14, u15, u16, u17, .int .i64 mid, .int .i64 ((mid : Int) + m), .int .i64 i, u21, u22, u23, u24, u25, u26, u27, u28, u29, u30, u31, u32, u33, u34, u35, u36, u37, u38, u39, u40, u41, u42, u43, u44, u45, u46, u47, u48, u49, u50, u51, u52, u53, u54, u55, u56, u57, u58, u59, u60, u61, u62, u63, u64, u65, u66, u67, u68, u69, u70, u71, u72, u73, u74, u75, u76, u77, u78, u79, u80, u81, u82, u83, u84, u85, u86, u87, u88, u89, u90, u91, u92, u93, u94, u95, u96, u97, u98, u99, u100, u101, u102, u103, u104, u105, u106, u107, u108, u109, u110, u111, u112, u113, u114, u115, u116, u117, u118, u119, u120, u121, u122, u123, u124, u125, u126, u127, u128, u129, u130, u131, u132, u133, u134, u135, u136, u137, u138, u139, u140, u141, u142, u143, u144, u145, u146, u147, u148, u149, u150, u151, u152, u153, u154, u155, u156, u157, u158, u159, u160, u161, u162, u163, u164, u165, u166, u167, u168, u169, u170, u171, u172, u173, u174, u175, u176, u177, u178, u179, u180, u181, u182, u183, u184, u185, u186, u187, u188, u189, u190, u191, u192, u193, u194, u195, u196, u197, u198, u199, u200, u201, u202, u203, u204, u205, u206, u207, u208, u209, u210, u211, u212, u213, u214, u215, u216, u217, u218, u219], []⟩ wc := by
  have HIH := Lib.hid IH
  have HR := Lib.hid hR
  have hEn : E ≤ n := by omega
  have hEi : (mid : Int) + m - i = E := by omega
  clear hR IH hE
  refine wp_seq (x := sC38) (y := sndC sT38) (s38 g o c n a m b mid i E hEi (by omega) wc _ _ _ _ _ _ _ _ _ _ _ _ _ _ _ _ _ _ _ _ _ _ _ _ _ _ _ _ _ _ _ _ _ _ _ _ _ _ _ _ _ _ _ _ _ _ _ _ _ _ _ _ _ _ _ _ _ _ _ _ _ _ _ _ _ _ _ _ _ _ _ _ _ _ _ _ _ _ _ _ _ _ _ _ _ _ _ _ _ _ _ _ _ _ _ _ _ _ _ _ _ _ _ _ _ _ _ _ _ _ _ _ _ _ _ _ _ _ _ _ _ _ _ _ _ _ _ _ _ _ _ _ _ _ _ _ _ _ _ _ _ _ _ _ _ _ _ _ _ _ _ _ _ _ _ _ _ _ _ _ _ _ _ _ _ _ _ _ _ _ _ _ _ _ _ _ _ _ _ _ _ _ _ _ _ _ _ _ _ _ _ _ _ _ _ _ _ _ _ _ _ _ _ _ _ _ _ _ _ _ _ _ _ ?_)
  intro v175 v176 v177
  refine wp_seq (x := sC39) (y := sndC (sndC sT38)) (s39 f base g o c n a m b mid i E l hn hEn w0 wc h hg _ _ _ _ _ _ _ _ _ _ _ _ _ _ _ _ _ _ _ _ _ _ _ _ _ _ _ _ _ _ _ _ _ _ _ _ _ _ _ _ _ _ _ _ _ _ _ _ _ _ _ _ _ _ _ _ _ _ _ _ _ _ _ _ _ _ _ _ _ _ _ _ _ _ _ _ _ _ _ _ _ _ _ _ _ _ _ _ _ _ _ _ _ _ _ _ _ _ _ _ _ _ _ _ _ _ _ _ _ _ _ _ _ _ _ _ _ _ _ _ _ _ _ _ _ _ _ _ _ _ _ _ _ _ _ _ _ _ _ _ _ _ _ _ _ _ _ _ _ _ _ _ _ _ _ _ _ _ _ _ _ _ _ _ _ _ _ _ _ _ _ _ _ _ _ _ _ _ _ _ _ _ _ _ _ _ _ _ _ _ _ _ _ _ _ _ _ _ _ _ _ _ _ _ _ _ _ _ _ _ _ _ _ ?_)
  intro v178 v179 v180 v181 v182 v183 v184 v185 v186 v187 v188 v189 v190 v191 wd hr3 hg3
  refine wp_seq (x := sC41) (y := sC43) (s41 f base g o c n a m b mid i E _ hn h1 (by omega) HIH.out w0 wd hr3 hg3 _ _ _ _ _ _ _ _ _ _ _ _ _ _ _ _ _ _ _ _ _ _ _ _ _ _ _ _ _ _ _ _ _ _ _ _ _ _ _ _ _ _ _ _ _ _ _ _ _ _ _ _ _ _ _ _ _ _ _ _ _ _ _ _ _ _ _ _ _ _ _ _ _ _ _ _ _ _ _ _ _ _ _ _ _ _ _ _ _ _ _ _ _ _ _ _ _ _ _ _ _ _ _ _ _ _ _ _ _ _ _ _ _ _ _ _ _ _ _ _ _ _ _ _ _ _ _ _ _ _ _ _ _ _ _ _ _ _ _ _ _ _ _ _ _ _ _ _ _ _ _ _ _ _ _ _ _ _ _ _ _ _ _ _ _ _ _ _ _ _ _ _ _ _ _ _ _ _ _ _ _ _ _ _ _ _ _ _ _ _ _ _ _ _ _ _ _ _ _ _ _ _ _ _ _ _ _ _ _ _ _ _ _ ?_)
  intro v192 v193 v194 v195 v196 v197 v198 v199 v200 v201 v202 v203 v204 v205 we hr4 hg4
  refine s43 f base g o c n a m b mid i E _ hn h2 hb HIH.out w0 we hr4 hg4 _ _ _ _ _ _ _ _ _ _ _ _ _ _ _ _ _ _ _ _ _ _ _ _ _ _ _ _ _ _ _ _ _ _ _ _ _ _ _ _ _ _ _ _ _ _ _ _ _ _ _ _ _ _ _ _ _ _ _ _ _ _ _ _ _ _ _ _ _ _ _ _ _ _ _ _ _ _ _ _ _ _ _ _ _ _ _ _ _ _ _ _ _ _ _ _ _ _ _ _ _ _ _ _ _ _ _ _ _ _ _ _ _ _ _ _ _ _ _ _ _ _ _ _ _ _ _ _ _ _ _ _ _ _ _ _ _ _ _ _ _ _ _ _ _ _ _ _ _ _ _ _ _ _ _ _ _ _ _ _ _ _ _ _ _ _ _ _ _ _ _ _ _ _ _ _ _ _ _ _ _ _ _ _ _ _ _ _ _ _ _ _ _ _ _ _ _ _ _ _ _ _ _ _ _ _ _ _ _ _ _ _ _ ?_
  intro v206 v207 v208 v209 v210 v211 v212 v213 v214 v215 v216 v217 v218 v219 wf hr5 hg5
  rw [HR.out] at hr5
  go_end0
  exact ⟨rfl, hr5, hg5⟩
end

/-! Sort10 -/
section
open Go.RowKit

set_option maxHeartbeats 8000000 in
theorem p_sym3 (f base g o c n a m b : Nat) (l : List Pe) (hn : n ≤ 1000000000) (ham : a + 1 < m) (hmb : m + 1 < b) (hb : b ≤ n) (hf : b - a ≤ f + 1)
    (IH : ∀ (a m b : Nat) (l : List Pe) (w : World), b - a ≤ f → a < m → m < b → b ≤ n → PRow w base (.slice (some ⟨g, o, none⟩) n c) l → Calls Try.prog 120 #[(.slice (some ⟨g, o, none⟩) n c), .int .i64 a, .int .i64 m, .int .i64 b, (.func (.func 72) #[] #[])] w (Works w base g (.slice (some ⟨g, o, none⟩) n c) (symM f l a m b)))
    (w : World) (h : PRow w base (.slice (some ⟨g, o, none⟩) n c) l) :
    Calls Try.prog 120 #[(.slice (some ⟨g, o, none⟩) n c), .int .i64 a, .int .i64 m, .int .i64 b, (.func (.func 72) #[] #[])] w (Works w base g (.slice (some ⟨g, o, none⟩) n c) (symM (f + 1) l a m b)) := by
  have hm1 : ((m : Int) - a == 1) = false := by rw [beq_eq_false_iff_ne]; omega
  have hm2 : ((b : Int) - m == 1) = false := by rw [beq_eq_false_iff_ne]; omega
  obtain ⟨mid, hmid⟩ : ∃ x, x = (a + b) / 2 := ⟨_, rfl⟩
  obtain ⟨FR, hFR⟩ : ∃ x, x = symFrom a m b := ⟨_, rfl⟩
  obtain ⟨TO, hTO⟩ : ∃ x, x = symTo a m b := ⟨_, rfl⟩
  have HFT : Hid ((mid < m ∧ FR = mid + m - b ∧ TO = mid) ∨ (m ≤ mid ∧ FR = a ∧ TO = m)) := Lib.hid (by
    unfold symFrom at hFR
    unfold symTo at hTO
    rw [← hmid] at hFR hTO
    by_cases hmm : mid < m
    · rw [if_pos hmm] at hFR hTO
      exact .inl ⟨hmm, hFR, hTO⟩
    · rw [if_neg hmm] at hFR hTO
      exact .inr ⟨by omega, hFR, hTO⟩)
  have hb1 : a ≤ FR := by have := HFT.out; omega
  have hb2 : FR ≤ TO := by have := HFT.out; omega
  have hb3 : TO ≤ m := by have := HFT.out; omega
  have hb4 : mid + m ≤ FR + b := by have := HFT.out; omega
  have hb5 : TO ≤ mid := by have := HFT.out; omega
  have HB6 : Hid (mid < m → b ≤ mid + m) := Lib.hid (fun h => by omega)
  have hmida : a < mid := by omega
  have hmidb : mid < b := by omega
  have HSS : Hid (symStart l a m b = bs3 l (mid + m - 1) FR TO) := Lib.hid (by unfold symStart; rw [← hmid, ← hFR, ← hTO])
  have HMID := Lib.hid hmid
  have HIH := Lib.hid IH
  clear hmid hFR hTO IH
  go_enter Try.func120, Try.ntmps120
  go_upto_region 24 with (fail)
  go_cut [18] (fun v18 wc => v18 = .int .i64 mid ∧ wc = w)
  case first =>
    go_wp2
    go_meet
    case rel => exact ⟨congrArg (Value.int .i64) (by have := HMID.out; omega), rfl⟩
  obtain ⟨rfl, rfl⟩ := hcut
  go_upto_if 140 with (fail)
  go_cut [20, 21] (fun v20 v21 wd => v20 = .int .i64 FR ∧ v21 = .int .i64 TO ∧ wd = wc)
  case first =>
    by_cases hmm : mid < m
    · have hd : decide ((mid : Int) < m) = true := by rw [decide_eq_true_eq]; omega
      go_wp2
      go_meet
      case rel => exact ⟨congrArg (Value.int .i64) (by have := HFT.out; have := HB6.out hmm; omega), congrArg (Value.int .i64) (by have := HFT.out; omega), rfl⟩
    · have hd : decide ((mid : Int) < m) = false := by rw [decide_eq_false_iff_not]; omega
      go_wp2
      go_meet
      case rel => exact ⟨congrArg (Value.int .i64) (by have := HFT.out; omega), congrArg (Value.int .i64) (by have := HFT.out; omega), rfl⟩
  obtain ⟨rfl, rfl, rfl⟩ := hcut
  obtain ⟨p, hp⟩ : ∃ p, p = mid + m - 1 := ⟨_, rfl⟩
  have HPP := Lib.hid hp
  have hp1 : mid + m = p + 1 := by omega
  have HP1 := Lib.hid hp1
  clear hp hp1
  go_upto_region 32 with (fail)
  go_cut [22] (fun v22 wd => v22 = .int .i64 p ∧ wd = wc)
  case first =>
    go_wp2
    go_meet
    case rel => exact ⟨congrArg (Value.int .i64) (by have := HP1.out; omega), rfl⟩
  obtain ⟨rfl, rfl⟩ := hcut
  obtain ⟨w0, hw0⟩ : ∃ w0, w0 = wc := ⟨_, rfl⟩
  subst hw0
  go_upto_block 8 with (fail)
  go_cut [20, 21] (fun v20 v21 wd => ∃ i : Nat, v20 = .int .i64 i ∧ FR ≤ i ∧ i ≤ TO ∧ bs3 l p FR TO = i ∧ PRow wd base (.slice (some ⟨g, o, none⟩) n c) l ∧ w0.grownBy wd (some g))
  case first =>
    go_wp2_with fail
    go_loopw [20, 21] (fun v20 v21 wr => ∃ i j : Nat, FR ≤ i ∧ i ≤ j ∧ j ≤ TO ∧ v20 = .int .i64 i ∧ v21 = .int .i64 j ∧ PRow wr base (.slice (some ⟨g, o, none⟩) n c) l ∧ w0.grownBy wr (some g) ∧ bs3 l p i j = bs3 l p FR TO) (fun v20 v21 _ => (intOf v21).toNat - (intOf v20).toNat)
    case atStart => exact ⟨FR, TO, Nat.le_refl _, hb2, Nat.le_refl _, rfl, rfl, h, grown_refl _ _, rfl⟩
    case round =>
      clear h
      obtain ⟨i, j, hi, hij, hj, rfl, rfl, hrow, hgr, hs⟩ := hrel
      have HS := Lib.hid hs
      have HRW := Lib.hid hrow
      have HGR := Lib.hid hgr
      clear hs
      by_cases hlt : i < j
      · have HST := Lib.hid (bs3_step l p i j hlt)
        obtain ⟨x, hx⟩ : ∃ x, x = (i + j) / 2 := ⟨_, rfl⟩
        rw [← hx] at HST
        obtain ⟨y, hy⟩ : ∃ y, y = p - x := ⟨_, rfl⟩
        rw [← hy] at HST
        have HX := Lib.hid hx
        have hx1 : i ≤ x := by omega
        have hx2 : x < j := by omega
        have hpm := HP1.out
        have qy : IntKind.i64.wrap ((p : Int) - x) = y := by rw [show (p : Int) - x = y by omega]; exact Go.IntWalk.i64_in _ (by omega)
        have hyn : y < n := by omega
        have hlC := (hrow).len_
        obtain ⟨c1, c2, f1, f2⟩ := (hrow).at_ y (by omega)
        obtain ⟨c3, c4, f3, f4⟩ := (hrow).at_ x (by omega)
        rw [← gt_eq (by omega)] at c1 c2 c3 c4
        have hglC := (hrow).g_lt.2
        generalize hP : gt l y = P at *
        generalize hQ : gt l x = Q at *
        have HP := Lib.hid hP
        have HQ := Lib.hid hQ
        have hent : ∀ w, Sem.run Try.prog (callFunc 72 #[.agg #[.int .i64 P.cost, P.v], .agg #[.int .i64 Q.cost, Q.v]]) w = .ok (.enter 72 #[.agg #[.int .i64 P.cost, P.v], .agg #[.int .i64 Q.cost, Q.v]]) w := fun w => enters_cmp _ w
        have qx1 : (0 : Int) ≤ (y : Int) := by omega
        have qx2 : (y : Int) < n := by omega
        have qy1 : (0 : Int) ≤ (x : Int) := by omega
        have qy2 : (x : Int) < n := by omega
        have HK : Hid (∀ w', Below wr.heap.size wr w' → w'.cell? ⟨g, o + y * 2, none⟩ = some (.int .i64 P.cost) ∧ w'.cell? ⟨g, o + y * 2 + 1, none⟩ = some P.v ∧ w'.cell? ⟨g, o + x * 2, none⟩ = some (.int .i64 Q.cost) ∧ w'.cell? ⟨g, o + x * 2 + 1, none⟩ = some Q.v ∧ Below wr.heap.size wr w') :=
          Lib.hid fun w' h => ⟨(h.cell hglC).trans c1, (h.cell hglC).trans c2, (h.cell hglC).trans c3, (h.cell hglC).trans c4, h⟩
        clear hP hQ hlC
        clear hrow hgr hx hy hpm
        go_upto_region 34 with (fail)
        go_cut [23] (fun v12 wc => v12 = .int .i64 x ∧ wc = wr)
        case first =>
          go_wp2
          go_meet
          case rel => exact ⟨congrArg (Value.int .i64) (by have := HX.out; omega), rfl⟩
        obtain ⟨rfl, rfl⟩ := hcut
        go_upto_region 35 with (fail)
        go_cut [171] (fun vC wd => vC = .bool (!decide (cmpI P.cost Q.cost < 0)) ∧ Below wc.heap.size wc wd)
        case first =>
          go_region_held3 (fun w' => w'.cell? ⟨g, o + y * 2, none⟩ = some (.int .i64 P.cost) ∧ w'.cell? ⟨g, o + y * 2 + 1, none⟩ = some P.v ∧ w'.cell? ⟨g, o + x * 2, none⟩ = some (.int .i64 Q.cost) ∧ w'.cell? ⟨g, o + x * 2 + 1, none⟩ = some Q.v ∧ Below wc.heap.size wc w')
            (first | exact HK.out _ (by with_reducible assumption) | exact HK.out _ (Below.refl _ _).drew)
            (first | (go_at_call 72; refine (kcall (w2 := wc) ?_ (p_cmp P.cost Q.cost P.v Q.v _)).mono ?_; (first | with_reducible assumption | exact (Below.refl _ _).drew); rintro e w' ⟨rfl, hb⟩))
          all_goals
            go_wp2
            go_meet
            case rel => exact ⟨rfl, by with_reducible assumption⟩
        clear HK hent c1 c2 c3 c4 f1 f2 f3 f4 hglC
        obtain ⟨rfl, hbc⟩ := hcut
        rw [cmpI_lt]
        have hr3 := HRW.out.below hbc
        have hg3 := grown_below HGR.out hbc
        by_cases hPQ : P.cost < Q.cost
        · have HN : Hid (bs3 l p i x = bs3 l p FR TO) := Lib.hid (by rw [← HS.out, HST.out, if_neg (fun h => h hPQ)])
          have hd : decide (P.cost < Q.cost) = true := by simpa using hPQ
          rw [hd, Bool.not_true]
          clear hd hPQ hbc
          go_wp2
          go_roundw
          case rel => exact ⟨i, x, hi, hx1, by omega, rfl, rfl, hr3, hg3, HN.out⟩
          case measure => simp [intOf]; omega
        · have HN : Hid (bs3 l p (x + 1) j = bs3 l p FR TO) := Lib.hid (by rw [← HS.out, HST.out, if_pos hPQ])
          have hd : decide (P.cost < Q.cost) = false := by simpa using hPQ
          rw [hd, Bool.not_false]
          clear hd hPQ hbc
          go_wp2
          go_roundw
          case rel => exact ⟨x + 1, j, by omega, by omega, hj, by go_num, rfl, hr3, hg3, HN.out⟩
          case measure => simp [intOf]; omega

      · have HBE : Hid (bs3 l p FR TO = i) := Lib.hid (by rw [← HS.out, bs3_end _ _ _ _ hlt])
        clear HS hrow hgr
        go_wp2
        go_meet
        case rel => exact ⟨i, rfl, hi, by omega, HBE.out, HRW.out, HGR.out⟩
  obtain ⟨i, rfl, hi1, hi2, hbs, hr4, hg4⟩ := hcut
  have hs1 : symStart l a m b = i := by rw [HSS.out, ← HPP.out, hbs]
  have hmain := symM_main f l a m b mid i (mid + m - i) (by omega) (by omega) HMID.out hs1 rfl
  refine ‹∀ (a : Act) (w : World), Code.wp Try.prog _ _ a w → _› _ _ ?_
  exact sTail f base g o c n a m b mid i (mid + m - i) l _ hn hb rfl (by omega) (by omega) (by omega) (by omega) (by omega) (by omega) HIH.out hmain.symm w0 wc hr4 hg4 _ _ _ _ _ _ _ _ _ _ _ _ _ _ _ _ _ _ _ _ _ _ _ _ _ _ _ _ _ _ _ _ _ _ _ _ _ _ _ _ _ _ _ _ _ _ _ _ _ _ _ _ _ _ _ _ _ _ _ _ _ _ _ _ _ _ _ _ _ _ _ _ _ _ _ _ _ _ _ _ _ _ _ _ _ _ _ _ _ _ _ _ _ _ _ _ _ _ _ _ _ _ _ _ _ _ _ _ _ _ _ _ _ _ _ _ _ _ _ _ _ _ _ _ _ _ _ _ _ _ _ _ _ _ _ _ _ _ _ _ _ _ _ _ _ _ _ _ _ _ _ _ _ _ _ _ _ _ _ _ _ _ _ _ _ _ _ _ _ _ _ _ _ _ _ _ _ _ _ _ _ _ _ _ _ _ _ _ _ _ _ _ _ _ _ _ _ _ _ _ _ _ _ _ _ _ _ _ _ _ _ _
end

/-! Sort11 -/
section
open Go.RowKit

theorem p_symM (base g o c n : Nat) (hn : n ≤ 1000000000) : ∀ (f a m b : Nat) (l : List Pe) (w : World), b - a ≤ f → a < m → m < b → b ≤ n → PRow w base (.slice (some ⟨g, o, none⟩) n c) l →
    Calls Try.prog 120 #[.slice (some ⟨g, o, none⟩) n c, .int .i64 a, .int .i64 m, .int .i64 b, .func (.func 72) #[] #[]] w (Works w base g (.slice (some ⟨g, o, none⟩) n c) (symM f l a m b))
  | 0, a, m, b, l, w, h1, h2, h3, _, _ => by omega
  | f + 1, a, m, b, l, w, h1, h2, h3, h4, h => by
    by_cases k1 : m = a + 1
    · have e : symM (f + 1) l a m b = mvUp a (bs1 l (gt l a).cost m b - 1 - a) l := by unfold symM; rw [if_pos (by omega)]
      rw [e]
      exact p_sym1 base g o c n a m b l hn k1 h3 h4 w h
    · by_cases k2 : b = m + 1
      · have e : symM (f + 1) l a m b = mvDn m (m - bs2 l (gt l m).cost a m) l := by unfold symM; rw [if_neg (by omega), if_pos (by omega)]
        rw [e]
        exact p_sym2 base g o c n a m b l hn (by omega) k2 h4 w h
      · exact p_sym3 f base g o c n a m b l hn (by omega) (by omega) h4 h1 (fun a m b l w q1 q2 q3 q4 q5 => p_symM base g o c n hn f a m b l w q1 q2 q3 q4 q5) w h
theorem p_symMerge (base g o c n a m b : Nat) (l : List Pe) (hn : n ≤ 1000000000) (h1 : a < m) (h2 : m < b) (h3 : b ≤ n) (w : World) (h : PRow w base (.slice (some ⟨g, o, none⟩) n c) l) :
    Calls Try.prog 120 #[.slice (some ⟨g, o, none⟩) n c, .int .i64 a, .int .i64 m, .int .i64 b, .func (.func 72) #[] #[]] w (Works w base g (.slice (some ⟨g, o, none⟩) n c) (symMerge l a m b)) :=
  p_symM base g o c n hn (b - a) a m b l w (Nat.le_refl _) h1 h2 h3 h

theorem rows20_go (n f a : Nat) (l : List Pe) (h : a + 20 ≤ n) : rows20 n (f + 1) a l = rows20 n f (a + 20) (insertion l a (a + 20)) := by rw [rows20]; rw [if_pos h]
theorem rows20_end (n f a : Nat) (l : List Pe) (h : ¬ a + 20 ≤ n) : rows20 n (f + 1) a l = insertion l a n := by rw [rows20]; rw [if_neg h]
theorem mergeRow_go (n k f a : Nat) (l : List Pe) (h : a + 2 * k ≤ n) : mergeRow n k (f + 1) a l = mergeRow n k f (a + 2 * k) (symMerge l a (a + k) (a + 2 * k)) := by rw [mergeRow]; rw [if_pos h]
theorem mergeRow_last (n k f a : Nat) (l : List Pe) (h : ¬ a + 2 * k ≤ n) (h2 : a + k < n) : mergeRow n k (f + 1) a l = symMerge l a (a + k) n := by rw [mergeRow]; rw [if_neg h, if_pos h2]
theorem mergeRow_end (n k f a : Nat) (l : List Pe) (h : ¬ a + 2 * k ≤ n) (h2 : ¬ a + k < n) : mergeRow n k (f + 1) a l = l := by rw [mergeRow]; rw [if_neg h, if_neg h2]
theorem mergeAll_go (n f k : Nat) (l : List Pe) (h : k < n) : mergeAll n (f + 1) k l = mergeAll n f (2 * k) (mergeRow n k (n + 1) 0 l) := by rw [mergeAll]; rw [if_pos h]
theorem mergeAll_end (n f k : Nat) (l : List Pe) (h : ¬ k < n) : mergeAll n (f + 1) k l = l := by rw [mergeAll]; rw [if_neg h]

set_option maxHeartbeats 4000000 in
theorem p_stable (base g o c n : Nat) (l : List Pe) (hn : n ≤ 1000000) (w : World) (h : PRow w base (.slice (some ⟨g, o, none⟩) n c) l) :
    Calls Try.prog 98 #[.slice (some ⟨g, o, none⟩) n c, .int .i64 n, .func (.func 72) #[] #[]] w (Works w base g (.slice (some ⟨g, o, none⟩) n c) (stableL l)) := by
  have HSL : Hid (stableL l = mergeAll n (n + 1) 20 (rows20 n (n + 1) 0 l)) := Lib.hid (by have := h.len_; subst this; rfl)
  go_enter Try.func98, Try.ntmps98
  go_wp2_with fail
  go_loopw [7, 8] (fun v7 v8 wr => ∃ (f a : Nat) (l1 : List Pe), v7 = .int .i64 a ∧ v8 = .int .i64 (a + 20 : Nat) ∧ a ≤ n ∧ n < f + a + 1 ∧ PRow wr base (.slice (some ⟨g, o, none⟩) n c) l1 ∧ w.grownBy wr (some g) ∧ rows20 n (f + 1) a l1 = rows20 n (n + 1) 0 l) (fun v7 _ _ => n - (intOf v7).toNat)
  case atStart => exact ⟨n, 0, l, rfl, rfl, Nat.zero_le _, by omega, h, grown_refl _ _, rfl⟩
  case round =>
    clear h
    obtain ⟨f, a, l1, rfl, rfl, han, hf, hrow, hgr, hs⟩ := hrel
    have HS := Lib.hid hs
    clear hs
    by_cases h20 : a + 20 ≤ n
    · obtain ⟨f, rfl⟩ : ∃ k, f = k + 1 := ⟨f - 1, by omega⟩
      have HN := Lib.hid (rows20_go n (f + 1) a l1 h20)
      have hq := p_insertion base g o c n a (a + 20) l1 (by omega) (by omega) h20 wr hrow
      clear hrow
      go_wp2_with fail
      refine hq.mono ?_
      rintro e w2 ⟨rfl, hr2, hg2⟩
      have HR2 := Lib.hid hr2
      have HG2 := Lib.hid (grown_then hgr hg2)
      clear hq hr2 hg2 hgr
      go_wp2
      go_roundw
      case rel => exact ⟨f, a + 20, _, rfl, by go_num, h20, by omega, HR2.out, HG2.out, by rw [← HN.out, HS.out]⟩
      case measure => simp [intOf]; omega
    · have HN := Lib.hid (rows20_end n f a l1 h20)
      have hq := p_insertion base g o c n a n l1 (by omega) han (Nat.le_refl _) wr hrow
      rw [← HN.out, HS.out] at hq
      clear hrow
      go_wp2_with fail
      refine hq.mono ?_
      rintro e w2 ⟨rfl, hr2, hg2⟩
      have HR2 := Lib.hid hr2
      have HG2 := Lib.hid (grown_then hgr hg2)
      clear hq hr2 hg2 hgr HN HS
      go_wp2_with fail
      go_loopw [6] (fun v6 wr => ∃ (f k : Nat) (l2 : List Pe), v6 = .int .i64 k ∧ 20 ≤ k ∧ k ≤ n + n + 20 ∧ n < f + k ∧ PRow wr base (.slice (some ⟨g, o, none⟩) n c) l2 ∧ w.grownBy wr (some g) ∧ mergeAll n (f + 1) k l2 = stableL l) (fun v6 _ => n - (intOf v6).toNat)
      case atStart => exact ⟨n, 20, _, rfl, Nat.le_refl _, by omega, by omega, HR2.out, HG2.out, HSL.out.symm⟩
      case round =>
        clear HR2 HG2 HSL
        obtain ⟨f, k, l2, rfl, hk20, hkn2, hf, hrow, hgr, hs⟩ := hrel
        have HS := Lib.hid hs
        clear hs
        by_cases hkn : k < n
        · obtain ⟨f, rfl⟩ : ∃ q, f = q + 1 := ⟨f - 1, by omega⟩
          have HN := Lib.hid (mergeAll_go n (f + 1) k l2 hkn)
          have HRW := Lib.hid hrow
          have HGR := Lib.hid hgr
          clear hrow hgr
          go_wp2_with fail
          go_loopw [7, 8] (fun v7 v8 wr => ∃ (q a : Nat) (l3 : List Pe), v7 = .int .i64 a ∧ v8 = .int .i64 (a + 2 * k : Nat) ∧ a ≤ n ∧ n < q + a + 1 ∧ PRow wr base (.slice (some ⟨g, o, none⟩) n c) l3 ∧ w.grownBy wr (some g) ∧ mergeRow n k (q + 1) a l3 = mergeRow n k (n + 1) 0 l2) (fun v7 _ _ => n - (intOf v7).toNat)
          case atStart => exact ⟨n, 0, l2, rfl, congrArg (Value.int .i64) (by omega), Nat.zero_le _, by omega, HRW.out, HGR.out, rfl⟩
          case round =>
            clear HRW HGR
            obtain ⟨q, a, l3, rfl, rfl, han, hq, hrow, hgr, hs3⟩ := hrel
            have HS3 := Lib.hid hs3
            clear hs3
            have qa : IntKind.i64.wrap ((a : Int) + k) = (a + k : Nat) := by rw [show (a : Int) + k = (a + k : Nat) by omega]; exact Go.IntWalk.i64_in _ (by omega)
            by_cases hlt : a + 2 * k ≤ n
            · obtain ⟨q, rfl⟩ : ∃ z, q = z + 1 := ⟨q - 1, by omega⟩
              have HN3 := Lib.hid (mergeRow_go n k (q + 1) a l3 hlt)
              have hqq := p_symMerge base g o c n a (a + k) (a + 2 * k) l3 (by omega) (by omega) (by omega) hlt wr hrow
              clear hrow
              go_wp2_with fail
              refine hqq.mono ?_
              rintro e w2 ⟨rfl, hr2, hg2⟩
              have HR2 := Lib.hid hr2
              have HG2 := Lib.hid (grown_then hgr hg2)
              clear hqq hr2 hg2 hgr
              go_wp2
              go_roundw
              case rel => exact ⟨q, a + 2 * k, _, rfl, by go_num, hlt, by omega, HR2.out, HG2.out, by rw [← HN3.out, HS3.out]⟩
              case measure => simp [intOf]; omega
            · by_cases hlast : a + k < n
              · have HN3 := Lib.hid (mergeRow_last n k q a l3 hlt hlast)
                have hqq := p_symMerge base g o c n a (a + k) n l3 (by omega) (by omega) hlast (Nat.le_refl _) wr hrow
                rw [← HN3.out, HS3.out] at hqq
                clear hrow
                go_wp2_with fail
                refine hqq.mono ?_
                rintro e w2 ⟨rfl, hr2, hg2⟩
                have HR2 := Lib.hid hr2
                have HG2 := Lib.hid (grown_then hgr hg2)
                clear hqq hr2 hg2 hgr
                go_wp2
                go_roundw
                case rel => exact ⟨f, 2 * k, _, by go_num, by omega, by omega, by omega, HR2.out, HG2.out, by rw [← HN.out, HS.out]⟩
                case measure => simp [intOf]; omega
              · have HN3 := Lib.hid (mergeRow_end n k q a l3 hlt hlast)
                have HR2 : Hid (PRow wr base (.slice (some ⟨g, o, none⟩) n c) (mergeRow n k (n + 1) 0 l2)) := Lib.hid (by rw [← HS3.out, HN3.out]; exact hrow)
                have HG2 := Lib.hid hgr
                clear hrow hgr
                go_wp2
                go_roundw
                case rel => exact ⟨f, 2 * k, _, by go_num, by omega, by omega, by omega, HR2.out, HG2.out, by rw [← HN.out, HS.out]⟩
                case measure => simp [intOf]; omega
        · have HN := Lib.hid (mergeAll_end n f k l2 hkn)
          have HRW : Hid (PRow wr base (.slice (some ⟨g, o, none⟩) n c) (stableL l)) := Lib.hid (by rw [← HS.out, HN.out]; exact hrow)
          clear hrow
          go_wp2
          go_end0
          exact ⟨rfl, HRW.out, hgr⟩
end

/-! Sort12 -/
section
open Go.RowKit

theorem rows20_length (n : Nat) : ∀ (f a : Nat) (l : List Pe), (rows20 n f a l).length = l.length
  | 0, _, _ => rfl
  | f + 1, a, l => by
    unfold rows20
    split
    · rw [rows20_length n f, insertion_length]
    · exact insertion_length _ _ _
theorem mergeRow_length (n k : Nat) : ∀ (f a : Nat) (l : List Pe), (mergeRow n k f a l).length = l.length
  | 0, _, _ => rfl
  | f + 1, a, l => by
    unfold mergeRow
    split
    · rw [mergeRow_length n k f, symMerge_length]
    · split
      · exact symMerge_length _ _ _ _
      · rfl
theorem mergeAll_length (n : Nat) : ∀ (f k : Nat) (l : List Pe), (mergeAll n f k l).length = l.length
  | 0, _, _ => rfl
  | f + 1, k, l => by
    unfold mergeAll
    split
    · rw [mergeAll_length n f, mergeRow_length]
    · rfl
theorem stableL_length (l : List Pe) : (stableL l).length = l.length := by unfold stableL; rw [mergeAll_length, rows20_length]

theorem sorts_stable (N : Nat) (hN : N ≤ 1000000) : Sorts stableL N := by
  intro w base A c l hl hrow hb
  obtain ⟨_, h1⟩ := id hrow.row
  rcases h1 with ⟨h1, h0⟩ | ⟨g, o, cap, cur, m, hv, _⟩
  · obtain rfl : l = [] := List.length_eq_zero_iff.1 h0
    have e : stableL [] = [] := List.length_eq_zero_iff.1 (stableL_length [])
    have hq := sorts1 w base A c [] (by simp) hrow hb
    rw [e]
    exact hq
  · simp only [Value.slice.injEq] at hv
    obtain ⟨rfl, _, rfl⟩ := hv
    have hq := p_stable base g o c l.length l (by omega) w hrow
    go_enter Try.func71, Try.ntmps71
    go_wp2_with fail
    refine hq.mono ?_
    rintro e w' ⟨rfl, hr2, hg2⟩
    clear hq
    go_wp2
    go_end0
    exact ⟨rfl, hr2, hg2⟩
end

end Go.Proofs.Ytoefkkgnabjmdaa
