/- The library's stable sort of packs: merging two rows: the three calls at the end, each by a walk. -/
import Derived.Test.YtoefkkgnabjmdaaSort7
set_option linter.unusedSimpArgs false
set_option linter.unusedVariables false
set_option maxRecDepth 100000
namespace Go.Proofs.Ytoefkkgnabjmdaa
open Go.RowKit

theorem bs3_step (l : List Pe) (p i j : Nat) (h : i < j) : bs3 l p i j = if ¬ (gt l (p - (i + j) / 2)).cost < (gt l ((i + j) / 2)).cost then bs3 l p ((i + j) / 2 + 1) j else bs3 l p i ((i + j) / 2) := by rw [bs3]; rw [dif_pos h]
theorem bs3_end (l : List Pe) (p i j : Nat) (h : ¬ i < j) : bs3 l p i j = i := by rw [bs3]; rw [dif_neg h]
def symLeft (f : Nat) (l1 : List Pe) (a s mid : Nat) : List Pe := if a < s ∧ s < mid then symM f l1 a s mid else l1
def symRight (f : Nat) (l2 : List Pe) (mid e b : Nat) : List Pe := if mid < e ∧ e < b then symM f l2 mid e b else l2
def symTurn (l : List Pe) (m s e : Nat) : List Pe := if s < m ∧ m < e then rot m (m - s) (e - m) l else l
theorem symM_main (f : Nat) (l : List Pe) (a m b mid s e : Nat) (h1 : ¬ m - a = 1) (h2 : ¬ b - m = 1) (hm : mid = (a + b) / 2) (hs : symStart l a m b = s) (he : mid + m - s = e) :
    symM (f + 1) l a m b = symRight f (symLeft f (symTurn l m s e) a s mid) mid e b := by
  have e1 : symEnd l a m b = e := by unfold symEnd; rw [hs, ← hm]; exact he
  conv => lhs; unfold symM
  rw [if_neg h1, if_neg h2]
  simp only [hs, e1, ← hm]
  unfold symRight symLeft symTurn symRot
  rw [hs, e1]
def fstC : Code → Code
  | .seq a _ => a
  | c => c
def sndC : Code → Code
  | .seq _ b => b
  | c => c
noncomputable def sT38 : Code := sndC (sndC (sndC (sndC (sndC (sndC (sndC (sndC (Try.f120.body.getD .skip))))))))
noncomputable def sC39 : Code := fstC (sndC sT38)
noncomputable def sC41 : Code := fstC (sndC (sndC sT38))
noncomputable def sC43 : Code := sndC (sndC (sndC sT38))

set_option maxHeartbeats 4000000 in
theorem s39 (f base g o c n a m b mid i E : Nat) (l : List Pe) (hn : n ≤ 1000000000) (hEn : E ≤ n)
    (w0 wc : World) (h : PRow wc base (.slice (some ⟨g, o, none⟩) n c) l) (hg : w0.grownBy wc (some g)) (Q0 : Exit → Act → World → Prop) (u5 u6 u7 u8 u9 u10 u11 u12 u13 u14 u15 u16 u17 u19 u21 u22 u23 u25 u26 u27 u28 u29 u30 u31 u32 u33 u34 u35 u36 u37 u38 u39 u40 u41 u42 u43 u44 u45 u46 u47 u48 u49 u50 u51 u52 u53 u54 u55 u56 u57 u58 u59 u60 u61 u62 u63 u64 u65 u66 u67 u68 u69 u70 u71 u72 u73 u74 u75 u76 u77 u78 u79 u80 u81 u82 u83 u84 u85 u86 u87 u88 u89 u90 u91 u92 u93 u94 u95 u96 u97 u98 u99 u100 u101 u102 u103 u104 u105 u106 u107 u108 u109 u110 u111 u112 u113 u114 u115 u116 u117 u118 u119 u120 u121 u122 u123 u124 u125 u126 u127 u128 u129 u130 u131 u132 u133 u134 u135 u136 u137 u138 u139 u140 u141 u142 u143 u144 u145 u146 u147 u148 u149 u150 u151 u152 u153 u154 u155 u156 u157 u158 u159 u160 u161 u162 u163 u164 u165 u166 u167 u168 u169 u170 u171 u172 u173 u174 u175 u176 u177 u178 u179 u180 u181 u182 u183 u184 u185 u186 u187 u188 u189 u190 u191 u192 u193 u194 u195 u196 u197 u198 u199 u200 u201 u202 u203 u204 u205 u206 u207 u208 u209 u210 u211 u212 u213 u214 u215 u216 u217 u218 u219 : Value)
    (hk : ∀ (v178 v179 v180 v181 v182 v183 v184 v185 v186 v187 v188 v189 v190 v191 : Value) (wd : World), PRow wd base (.slice (some ⟨g, o, none⟩) n c) (symTurn l m i E) → w0.grownBy wd (some g) → Q0 .normal ⟨#[(.slice (some ⟨g, o, none⟩) n c), .int .i64 a, .int .i64 m, .int .i64 b, (.func (.func 72) #[] #[]), u5, u6, u7, u8, u9, u10, u11, u12, u13, u14, u15, u16, u17, .int .i64 mid, u19, .int .i64 i, u21, u22, u23, .int .i64 E, u25, u26, u27, u28, u29, u30, u31, u32, u33, u34, u35, u36, u37, u38, u39, u40, u41, u42, u43, u44, u45, u46, u47, u48, u49, u50, u51, u52, u53, u54, u55, u56, u57, u58, u59, u60, u61, u62, u63, u64, u65, u66, u67, u68, u69, u70, u71, u72, u73, u74, u75, u76, u77, u78, u79, u80, u81, u82, u83, u84, u85, u86, u87, u88, u89, u90, u91, u92, u93, u94, u95, u96, u97, u98, u99, u100, u101, u102, u103, u104, u105, u106, u107, u108, u109, u110, u111, u112, u113, u114, u115, u116, u117, u118, u119, u120, u121, u122, u123, u124, u125, u126, u127, u128, u129, u130, u131, u132, u133, u134, u135, u136, u137, u138, u139, u140, u141, u142, u143, u144, u145, u146, u147, u148, u149, u150, u151, u152, u153, u154, u155, u156, u157, u158, u159, u160, u161, u162, u163, u164, u165, u166, u167, u168, u169, u170, u171, u172, u173, u174, u175, u176, u177, v178, v179, v180, v181, v182, v183, v184, v185, v186, v187, v188, v189, v190, v191, u192, u193, u194, u195, u196, u197, u198, u199, u200, u201, u202, u203, u204, u205, u206, u207, u208, u209, u210, u211, u212, u213, u214, u215, u216, u217, u218, u219], []⟩ wd) :
    Code.wp Try.prog sC39 Q0 ⟨#[(.slice (some ⟨g, o, none⟩) n c), .int .i64 a, .int .i64 m, .int .i64 b, (.func (.func 72) #[] #[]), u5, u6, u7, u8, u9, u10, u11, u12, u13, u14, u15, u16, u17, .int .i64 mid, u19, .int .i64 i, u21, u22, u23, .int .i64 E, u25, u26, u27, u28, u29, u30, u31, u32, u33, u34, u35, u36, u37, u38, u39, u40, u41, u42, u43, u44, u45, u46, u47, u48, u49, u50, u51, u52, u53, u54, u55, u56, u57, u58, u59, u60, u61, u62, u63, u64, u65, u66, u67, u68, u69, u70, u71, u72, u73, u74, u75, u76, u77, u78, u79, u80, u81, u82, u83, u84, u85, u86, u87, u88, u89, u90, u91, u92, u93, u94, u95, u96, u97, u98, u99, u100, u101, u102, u103, u104, u105, u106, u107, u108, u109, u110, u111, u112, u113, u114, u115, u116, u117, u118, u119, u120, u121, u122, u123, u124, u125, u126, u127, u128, u129, u130, u131, u132, u133, u134, u135, u136, u137, u138, u139, u140, u141, u142, u143, u144, u145, u146, u147, u148, u149, u150, u151, u152, u153, u154, u155, u156, u157, u158, u159, u160, u161, u162, u163, u164, u165, u166, u167, u168, u169, u170, u171, u172, u173, u174, u175, u176, u177, u178, u179, u180, u181, u182, u183, u184, u185, u186, u187, u188, u189, u190, u191, u192, u193, u194, u195, u196, u197, u198, u199, u200, u201, u202, u203, u204, u205, u206, u207, u208, u209, u210, u211, u212, u213, u214, u215, u216, u217, u218, u219], []⟩ wc := by
  have HK := Lib.hid hk
  clear hk
  conv => arg 2; whnf
  by_cases t1 : i < m
  · by_cases t2 : m < E
    · have HR : Hid (symTurn l m i E = _) := Lib.hid (if_pos ⟨t1, t2⟩)
      have d1 : decide ((i : Int) < (m : Int)) = true := by rw [decide_eq_true_eq]; omega
      have d2 : decide ((m : Int) < (E : Int)) = true := by rw [decide_eq_true_eq]; omega
      have hq := p_rotate base g o c n i m E l hn t1 t2 hEn wc h
      go_wp2_with fail
      refine hq.mono ?_
      rintro e w2 ⟨rfl, hr2, hg2⟩
      have HG2 := Lib.hid (grown_then hg hg2)
      rw [← HR.out] at hr2
      clear hg2 hq
      go_wp2
      exact HK.out _ _ _ _ _ _ _ _ _ _ _ _ _ _ _ hr2 HG2.out
    · have HR : Hid (symTurn l m i E = _) := Lib.hid (if_neg (fun h => t2 h.2))
      have d1 : decide ((i : Int) < (m : Int)) = true := by rw [decide_eq_true_eq]; omega
      have d2 : decide ((m : Int) < (E : Int)) = false := by rw [decide_eq_false_iff_not]; omega
      go_wp2
      exact HK.out _ _ _ _ _ _ _ _ _ _ _ _ _ _ _ (by rw [HR.out]; exact h) hg
  · have HR : Hid (symTurn l m i E = _) := Lib.hid (if_neg (fun h => t1 h.1))
    have d1 : decide ((i : Int) < (m : Int)) = false := by rw [decide_eq_false_iff_not]; omega
    go_wp2
    exact HK.out _ _ _ _ _ _ _ _ _ _ _ _ _ _ _ (by rw [HR.out]; exact h) hg

set_option maxHeartbeats 4000000 in
theorem s41 (f base g o c n a m b mid i E : Nat) (l : List Pe) (hn : n ≤ 1000000000) (hmid : mid - a ≤ f) (hmn : mid ≤ n)
    (IH : ∀ (a m b : Nat) (l : List Pe) (w : World), b - a ≤ f → a < m → m < b → b ≤ n → PRow w base (.slice (some ⟨g, o, none⟩) n c) l → Calls Try.prog 120 #[(.slice (some ⟨g, o, none⟩) n c), .int .i64 a, .int .i64 m, .int .i64 b, (.func (.func 72) #[] #[])] w (Works w base g (.slice (some ⟨g, o, none⟩) n c) (symM f l a m b)))
    (w0 wc : World) (h : PRow wc base (.slice (some ⟨g, o, none⟩) n c) l) (hg : w0.grownBy wc (some g)) (Q0 : Exit → Act → World → Prop) (u5 u6 u7 u8 u9 u10 u11 u12 u13 u14 u15 u16 u17 u19 u21 u22 u23 u25 u26 u27 u28 u29 u30 u31 u32 u33 u34 u35 u36 u37 u38 u39 u40 u41 u42 u43 u44 u45 u46 u47 u48 u49 u50 u51 u52 u53 u54 u55 u56 u57 u58 u59 u60 u61 u62 u63 u64 u65 u66 u67 u68 u69 u70 u71 u72 u73 u74 u75 u76 u77 u78 u79 u80 u81 u82 u83 u84 u85 u86 u87 u88 u89 u90 u91 u92 u93 u94 u95 u96 u97 u98 u99 u100 u101 u102 u103 u104 u105 u106 u107 u108 u109 u110 u111 u112 u113 u114 u115 u116 u117 u118 u119 u120 u121 u122 u123 u124 u125 u126 u127 u128 u129 u130 u131 u132 u133 u134 u135 u136 u137 u138 u139 u140 u141 u142 u143 u144 u145 u146 u147 u148 u149 u150 u151 u152 u153 u154 u155 u156 u157 u158 u159 u160 u161 u162 u163 u164 u165 u166 u167 u168 u169 u170 u171 u172 u173 u174 u175 u176 u177 u178 u179 u180 u181 u182 u183 u184 u185 u186 u187 u188 u189 u190 u191 u192 u193 u194 u195 u196 u197 u198 u199 u200 u201 u202 u203 u204 u205 u206 u207 u208 u209 u210 u211 u212 u213 u214 u215 u216 u217 u218 u219 : Value)
    (hk : ∀ (v192 v193 v194 v195 v196 v197 v198 v199 v200 v201 v202 v203 v204 v205 : Value) (wd : World), PRow wd base (.slice (some ⟨g, o, none⟩) n c) (symLeft f l a i mid) → w0.grownBy wd (some g) → Q0 .normal ⟨#[(.slice (some ⟨g, o, none⟩) n c), .int .i64 a, .int .i64 m, .int .i64 b, (.func (.func 72) #[] #[]), u5, u6, u7, u8, u9, u10, u11, u12, u13, u14, u15, u16, u17, .int .i64 mid, u19, .int .i64 i, u21, u22, u23, .int .i64 E, u25, u26, u27, u28, u29, u30, u31, u32, u33, u34, u35, u36, u37, u38, u39, u40, u41, u42, u43, u44, u45, u46, u47, u48, u49, u50, u51, u52, u53, u54, u55, u56, u57, u58, u59, u60, u61, u62, u63, u64, u65, u66, u67, u68, u69, u70, u71, u72, u73, u74, u75, u76, u77, u78, u79, u80, u81, u82, u83, u84, u85, u86, u87, u88, u89, u90, u91, u92, u93, u94, u95, u96, u97, u98, u99, u100, u101, u102, u103, u104, u105, u106, u107, u108, u109, u110, u111, u112, u113, u114, u115, u116, u117, u118, u119, u120, u121, u122, u123, u124, u125, u126, u127, u128, u129, u130, u131, u132, u133, u134, u135, u136, u137, u138, u139, u140, u141, u142, u143, u144, u145, u146, u147, u148, u149, u150, u151, u152, u153, u154, u155, u156, u157, u158, u159, u160, u161, u162, u163, u164, u165, u166, u167, u168, u169, u170, u171, u172, u173, u174, u175, u176, u177, u178, u179, u180, u181, u182, u183, u184, u185, u186, u187, u188, u189, u190, u191, v192, v193, v194, v195, v196, v197, v198, v199, v200, v201, v202, v203, v204, v205, u206, u207, u208, u209, u210, u211, u212, u213, u214, u215, u216, u217, u218, u219], []⟩ wd) :
    Code.wp Try.prog sC41 Q0 ⟨#[(.slice (some ⟨g, o, none⟩) n c), .int .i64 a, .int .i64 m, .int .i64 b, (.func (.func 72) #[] #[]), u5, u6, u7, u8, u9, u10, u11, u12, u13, u14, u15, u16, u17, .int .i64 mid, u19, .int .i64 i, u21, u22, u23, .int .i64 E, u25, u26, u27, u28, u29, u30, u31, u32, u33, u34, u35, u36, u37, u38, u39, u40, u41, u42, u43, u44, u45, u46, u47, u48, u49, u50, u51, u52, u53, u54, u55, u56, u57, u58, u59, u60, u61, u62, u63, u64, u65, u66, u67, u68, u69, u70, u71, u72, u73, u74, u75, u76, u77, u78, u79, u80, u81, u82, u83, u84, u85, u86, u87, u88, u89, u90, u91, u92, u93, u94, u95, u96, u97, u98, u99, u100, u101, u102, u103, u104, u105, u106, u107, u108, u109, u110, u111, u112, u113, u114, u115, u116, u117, u118, u119, u120, u121, u122, u123, u124, u125, u126, u127, u128, u129, u130, u131, u132, u133, u134, u135, u136, u137, u138, u139, u140, u141, u142, u143, u144, u145, u146, u147, u148, u149, u150, u151, u152, u153, u154, u155, u156, u157, u158, u159, u160, u161, u162, u163, u164, u165, u166, u167, u168, u169, u170, u171, u172, u173, u174, u175, u176, u177, u178, u179, u180, u181, u182, u183, u184, u185, u186, u187, u188, u189, u190, u191, u192, u193, u194, u195, u196, u197, u198, u199, u200, u201, u202, u203, u204, u205, u206, u207, u208, u209, u210, u211, u212, u213, u214, u215, u216, u217, u218, u219], []⟩ wc := by
  have HK := Lib.hid hk
  clear hk
  conv => arg 2; whnf
  by_cases t1 : a < i
  · by_cases t2 : i < mid
    · have HR : Hid (symLeft f l a i mid = _) := Lib.hid (if_pos ⟨t1, t2⟩)
      have d1 : decide ((a : Int) < (i : Int)) = true := by rw [decide_eq_true_eq]; omega
      have d2 : decide ((i : Int) < (mid : Int)) = true := by rw [decide_eq_true_eq]; omega
      have hq := IH a i mid l wc (by omega) t1 t2 (by omega) h
      go_wp2_with fail
      refine hq.mono ?_
      rintro e w2 ⟨rfl, hr2, hg2⟩
      have HG2 := Lib.hid (grown_then hg hg2)
      rw [← HR.out] at hr2
      clear hg2 hq
      go_wp2
      exact HK.out _ _ _ _ _ _ _ _ _ _ _ _ _ _ _ hr2 HG2.out
    · have HR : Hid (symLeft f l a i mid = _) := Lib.hid (if_neg (fun h => t2 h.2))
      have d1 : decide ((a : Int) < (i : Int)) = true := by rw [decide_eq_true_eq]; omega
      have d2 : decide ((i : Int) < (mid : Int)) = false := by rw [decide_eq_false_iff_not]; omega
      go_wp2
      exact HK.out _ _ _ _ _ _ _ _ _ _ _ _ _ _ _ (by rw [HR.out]; exact h) hg
  · have HR : Hid (symLeft f l a i mid = _) := Lib.hid (if_neg (fun h => t1 h.1))
    have d1 : decide ((a : Int) < (i : Int)) = false := by rw [decide_eq_false_iff_not]; omega
    go_wp2
    exact HK.out _ _ _ _ _ _ _ _ _ _ _ _ _ _ _ (by rw [HR.out]; exact h) hg

set_option maxHeartbeats 4000000 in
theorem s43 (f base g o c n a m b mid i E : Nat) (l : List Pe) (hn : n ≤ 1000000000) (hmid : b - mid ≤ f) (hmn : b ≤ n)
    (IH : ∀ (a m b : Nat) (l : List Pe) (w : World), b - a ≤ f → a < m → m < b → b ≤ n → PRow w base (.slice (some ⟨g, o, none⟩) n c) l → Calls Try.prog 120 #[(.slice (some ⟨g, o, none⟩) n c), .int .i64 a, .int .i64 m, .int .i64 b, (.func (.func 72) #[] #[])] w (Works w base g (.slice (some ⟨g, o, none⟩) n c) (symM f l a m b)))
    (w0 wc : World) (h : PRow wc base (.slice (some ⟨g, o, none⟩) n c) l) (hg : w0.grownBy wc (some g)) (Q0 : Exit → Act → World → Prop) (u5 u6 u7 u8 u9 u10 u11 u12 u13 u14 u15 u16 u17 u19 u21 u22 u23 u25 u26 u27 u28 u29 u30 u31 u32 u33 u34 u35 u36 u37 u38 u39 u40 u41 u42 u43 u44 u45 u46 u47 u48 u49 u50 u51 u52 u53 u54 u55 u56 u57 u58 u59 u60 u61 u62 u63 u64 u65 u66 u67 u68 u69 u70 u71 u72 u73 u74 u75 u76 u77 u78 u79 u80 u81 u82 u83 u84 u85 u86 u87 u88 u89 u90 u91 u92 u93 u94 u95 u96 u97 u98 u99 u100 u101 u102 u103 u104 u105 u106 u107 u108 u109 u110 u111 u112 u113 u114 u115 u116 u117 u118 u119 u120 u121 u122 u123 u124 u125 u126 u127 u128 u129 u130 u131 u132 u133 u134 u135 u136 u137 u138 u139 u140 u141 u142 u143 u144 u145 u146 u147 u148 u149 u150 u151 u152 u153 u154 u155 u156 u157 u158 u159 u160 u161 u162 u163 u164 u165 u166 u167 u168 u169 u170 u171 u172 u173 u174 u175 u176 u177 u178 u179 u180 u181 u182 u183 u184 u185 u186 u187 u188 u189 u190 u191 u192 u193 u194 u195 u196 u197 u198 u199 u200 u201 u202 u203 u204 u205 u206 u207 u208 u209 u210 u211 u212 u213 u214 u215 u216 u217 u218 u219 : Value)
    (hk : ∀ (v206 v207 v208 v209 v210 v211 v212 v213 v214 v215 v216 v217 v218 v219 : Value) (wd : World), PRow wd base (.slice (some ⟨g, o, none⟩) n c) (symRight f l mid E b) → w0.grownBy wd (some g) → Q0 .normal ⟨#[(.slice (some ⟨g, o, none⟩) n c), .int .i64 a, .int .i64 m, .int .i64 b, (.func (.func 72) #[] #[]), u5, u6, u7, u8, u9, u10, u11, u12, u13, u14, u15, u16, u17, .int .i64 mid, u19, .int .i64 i, u21, u22, u23, .int .i64 E, u25, u26, u27, u28, u29, u30, u31, u32, u33, u34, u35, u36, u37, u38, u39, u40, u41, u42, u43, u44, u45, u46, u47, u48, u49, u50, u51, u52, u53, u54, u55, u56, u57, u58, u59, u60, u61, u62, u63, u64, u65, u66, u67, u68, u69, u70, u71, u72, u73, u74, u75, u76, u77, u78, u79, u80, u81, u82, u83, u84, u85, u86, u87, u88, u89, u90, u91, u92, u93, u94, u95, u96, u97, u98, u99, u100, u101, u102, u103, u104, u105, u106, u107, u108, u109, u110, u111, u112, u113, u114, u115, u116, u117, u118, u119, u120, u121, u122, u123, u124, u125, u126, u127, u128, u129, u130, u131, u132, u133, u134, u135, u136, u137, u138, u139, u140, u141, u142, u143, u144, u145, u146, u147, u148, u149, u150, u151, u152, u153, u154, u155, u156, u157, u158, u159, u160, u161, u162, u163, u164, u165, u166, u167, u168, u169, u170, u171, u172, u173, u174, u175, u176, u177, u178, u179, u180, u181, u182, u183, u184, u185, u186, u187, u188, u189, u190, u191, u192, u193, u194, u195, u196, u197, u198, u199, u200, u201, u202, u203, u204, u205, v206, v207, v208, v209, v210, v211, v212, v213, v214, v215, v216, v217, v218, v219], []⟩ wd) :
    Code.wp Try.prog sC43 Q0 ⟨#[(.slice (some ⟨g, o, none⟩) n c), .int .i64 a, .int .i64 m, .int .i64 b, (.func (.func 72) #[] #[]), u5, u6, u7, u8, u9, u10, u11, u12, u13, u14, u15, u16, u17, .int .i64 mid, u19, .int .i64 i, u21, u22, u23, .int .i64 E, u25, u26, u27, u28, u29, u30, u31, u32, u33, u34, u35, u36, u37, u38, u39, u40, u41, u42, u43, u44, u45, u46, u47, u48, u49, u50, u51, u52, u53, u54, u55, u56, u57, u58, u59, u60, u61, u62, u63, u64, u65, u66, u67, u68, u69, u70, u71, u72, u73, u74, u75, u76, u77, u78, u79, u80, u81, u82, u83, u84, u85, u86, u87, u88, u89, u90, u91, u92, u93, u94, u95, u96, u97, u98, u99, u100, u101, u102, u103, u104, u105, u106, u107, u108, u109, u110, u111, u112, u113, u114, u115, u116, u117, u118, u119, u120, u121, u122, u123, u124, u125, u126, u127, u128, u129, u130, u131, u132, u133, u134, u135, u136, u137, u138, u139, u140, u141, u142, u143, u144, u145, u146, u147, u148, u149, u150, u151, u152, u153, u154, u155, u156, u157, u158, u159, u160, u161, u162, u163, u164, u165, u166, u167, u168, u169, u170, u171, u172, u173, u174, u175, u176, u177, u178, u179, u180, u181, u182, u183, u184, u185, u186, u187, u188, u189, u190, u191, u192, u193, u194, u195, u196, u197, u198, u199, u200, u201, u202, u203, u204, u205, u206, u207, u208, u209, u210, u211, u212, u213, u214, u215, u216, u217, u218, u219], []⟩ wc := by
  have HK := Lib.hid hk
  clear hk
  conv => arg 2; whnf
  by_cases t1 : mid < E
  · by_cases t2 : E < b
    · have HR : Hid (symRight f l mid E b = _) := Lib.hid (if_pos ⟨t1, t2⟩)
      have d1 : decide ((mid : Int) < (E : Int)) = true := by rw [decide_eq_true_eq]; omega
      have d2 : decide ((E : Int) < (b : Int)) = true := by rw [decide_eq_true_eq]; omega
      have hq := IH mid E b l wc (by omega) t1 t2 (by omega) h
      go_wp2_with fail
      refine hq.mono ?_
      rintro e w2 ⟨rfl, hr2, hg2⟩
      have HG2 := Lib.hid (grown_then hg hg2)
      rw [← HR.out] at hr2
      clear hg2 hq
      go_wp2
      exact HK.out _ _ _ _ _ _ _ _ _ _ _ _ _ _ _ hr2 HG2.out
    · have HR : Hid (symRight f l mid E b = _) := Lib.hid (if_neg (fun h => t2 h.2))
      have d1 : decide ((mid : Int) < (E : Int)) = true := by rw [decide_eq_true_eq]; omega
      have d2 : decide ((E : Int) < (b : Int)) = false := by rw [decide_eq_false_iff_not]; omega
      go_wp2
      exact HK.out _ _ _ _ _ _ _ _ _ _ _ _ _ _ _ (by rw [HR.out]; exact h) hg
  · have HR : Hid (symRight f l mid E b = _) := Lib.hid (if_neg (fun h => t1 h.1))
    have d1 : decide ((mid : Int) < (E : Int)) = false := by rw [decide_eq_false_iff_not]; omega
    go_wp2
    exact HK.out _ _ _ _ _ _ _ _ _ _ _ _ _ _ _ (by rw [HR.out]; exact h) hg

end Go.Proofs.Ytoefkkgnabjmdaa
