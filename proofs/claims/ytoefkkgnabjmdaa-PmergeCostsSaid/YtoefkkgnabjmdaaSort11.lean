/- The library's stable sort of packs: the whole, by a walk. -/
import Derived.Test.YtoefkkgnabjmdaaSort10
set_option linter.unusedSimpArgs false
set_option linter.unusedVariables false
set_option maxRecDepth 100000
namespace Go.Proofs.Ytoefkkgnabjmdaa
open Go.RowKit

theorem p_symM (base g o c n : Nat) (hn : n ≤ 1000000000) : ∀ (f a m b : Nat) (l : List Pe) (w : World), b - a ≤ f → a < m → m < b → b ≤ n → PRow w base (.slice (some ⟨g, o, none⟩) n c) l →
    Calls Try.prog 120 #[.slice (some ⟨g, o, none⟩) n c, .int .i64 a, .int .i64 m, .int .i64 b, .func (.func 72) #[] #[]] w (Works w base g (.slice (some ⟨g, o, none⟩) n c) (symM f l a m b))
  | 0, a, m, b, l, w, h1, h2, h3, _, _ => by omega
  | f + 1, a, m, b, l, w, h1, h2, h3, h4, h => by
    by_cases k1 : m = a + 1
    · have e : symM (f + 1) l a m b = mvUp a (bs1 l (gt l a).cost m b - 1 - a) l := by unfold symM; rw [if_pos (by omega)]
      rw [e]
      exact p_sym1 base g o c n a m b l hn k1 h3 h4 w h
    · by_cases k2 : b = m + 1
      · have e : symM (f + 1) l a m b = mvDn m (m - bs2 l (gt l m).cost a m) l := by unfold symM; rw [if_neg (by omega), if_pos (by omega)]
        rw [e]
        exact p_sym2 base g o c n a m b l hn (by omega) k2 h4 w h
      · exact p_sym3 f base g o c n a m b l hn (by omega) (by omega) h4 h1 (fun a m b l w q1 q2 q3 q4 q5 => p_symM base g o c n hn f a m b l w q1 q2 q3 q4 q5) w h
theorem p_symMerge (base g o c n a m b : Nat) (l : List Pe) (hn : n ≤ 1000000000) (h1 : a < m) (h2 : m < b) (h3 : b ≤ n) (w : World) (h : PRow w base (.slice (some ⟨g, o, none⟩) n c) l) :
    Calls Try.prog 120 #[.slice (some ⟨g, o, none⟩) n c, .int .i64 a, .int .i64 m, .int .i64 b, .func (.func 72) #[] #[]] w (Works w base g (.slice (some ⟨g, o, none⟩) n c) (symMerge l a m b)) :=
  p_symM base g o c n hn (b - a) a m b l w (Nat.le_refl _) h1 h2 h3 h

theorem rows20_go (n f a : Nat) (l : List Pe) (h : a + 20 ≤ n) : rows20 n (f + 1) a l = rows20 n f (a + 20) (insertion l a (a + 20)) := by rw [rows20]; rw [if_pos h]
theorem rows20_end (n f a : Nat) (l : List Pe) (h : ¬ a + 20 ≤ n) : rows20 n (f + 1) a l = insertion l a n := by rw [rows20]; rw [if_neg h]
theorem mergeRow_go (n k f a : Nat) (l : List Pe) (h : a + 2 * k ≤ n) : mergeRow n k (f + 1) a l = mergeRow n k f (a + 2 * k) (symMerge l a (a + k) (a + 2 * k)) := by rw [mergeRow]; rw [if_pos h]
theorem mergeRow_last (n k f a : Nat) (l : List Pe) (h : ¬ a + 2 * k ≤ n) (h2 : a + k < n) : mergeRow n k (f + 1) a l = symMerge l a (a + k) n := by rw [mergeRow]; rw [if_neg h, if_pos h2]
theorem mergeRow_end (n k f a : Nat) (l : List Pe) (h : ¬ a + 2 * k ≤ n) (h2 : ¬ a + k < n) : mergeRow n k (f + 1) a l = l := by rw [mergeRow]; rw [if_neg h, if_neg h2]
theorem mergeAll_go (n f k : Nat) (l : List Pe) (h : k < n) : mergeAll n (f + 1) k l = mergeAll n f (2 * k) (mergeRow n k (n + 1) 0 l) := by rw [mergeAll]; rw [if_pos h]
theorem mergeAll_end (n f k : Nat) (l : List Pe) (h : ¬ k < n) : mergeAll n (f + 1) k l = l := by rw [mergeAll]; rw [if_neg h]

set_option maxHeartbeats 4000000 in
theorem p_stable (base g o c n : Nat) (l : List Pe) (hn : n ≤ 1000000) (w : World) (h : PRow w base (.slice (some ⟨g, o, none⟩) n c) l) :
    Calls Try.prog 98 #[.slice (some ⟨g, o, none⟩) n c, .int .i64 n, .func (.func 72) #[] #[]] w (Works w base g (.slice (some ⟨g, o, none⟩) n c) (stableL l)) := by
  have HSL : Hid (stableL l = mergeAll n (n + 1) 20 (rows20 n (n + 1) 0 l)) := Lib.hid (by have := h.len_; subst this; rfl)
  go_enter Try.func98, Try.ntmps98
  go_wp2_with fail
  go_loopw [7, 8] (fun v7 v8 wr => ∃ (f a : Nat) (l1 : List Pe), v7 = .int .i64 a ∧ v8 = .int .i64 (a + 20 : Nat) ∧ a ≤ n ∧ n < f + a + 1 ∧ PRow wr base (.slice (some ⟨g, o, none⟩) n c) l1 ∧ w.grownBy wr (some g) ∧ rows20 n (f + 1) a l1 = rows20 n (n + 1) 0 l) (fun v7 _ _ => n - (intOf v7).toNat)
  case atStart => exact ⟨n, 0, l, rfl, rfl, Nat.zero_le _, by omega, h, grown_refl _ _, rfl⟩
  case round =>
    clear h
    obtain ⟨f, a, l1, rfl, rfl, han, hf, hrow, hgr, hs⟩ := hrel
    have HS := Lib.hid hs
    clear hs
    by_cases h20 : a + 20 ≤ n
    · obtain ⟨f, rfl⟩ : ∃ k, f = k + 1 := ⟨f - 1, by omega⟩
      have HN := Lib.hid (rows20_go n (f + 1) a l1 h20)
      have hq := p_insertion base g o c n a (a + 20) l1 (by omega) (by omega) h20 wr hrow
      clear hrow
      go_wp2_with fail
      refine hq.mono ?_
      rintro e w2 ⟨rfl, hr2, hg2⟩
      have HR2 := Lib.hid hr2
      have HG2 := Lib.hid (grown_then hgr hg2)
      clear hq hr2 hg2 hgr
      go_wp2
      go_roundw
      case rel => exact ⟨f, a + 20, _, rfl, by go_num, h20, by omega, HR2.out, HG2.out, by rw [← HN.out, HS.out]⟩
      case measure => simp [intOf]; omega
    · have HN := Lib.hid (rows20_end n f a l1 h20)
      have hq := p_insertion base g o c n a n l1 (by omega) han (Nat.le_refl _) wr hrow
      rw [← HN.out, HS.out] at hq
      clear hrow
      go_wp2_with fail
      refine hq.mono ?_
      rintro e w2 ⟨rfl, hr2, hg2⟩
      have HR2 := Lib.hid hr2
      have HG2 := Lib.hid (grown_then hgr hg2)
      clear hq hr2 hg2 hgr HN HS
      go_wp2_with fail
      go_loopw [6] (fun v6 wr => ∃ (f k : Nat) (l2 : List Pe), v6 = .int .i64 k ∧ 20 ≤ k ∧ k ≤ n + n + 20 ∧ n < f + k ∧ PRow wr base (.slice (some ⟨g, o, none⟩) n c) l2 ∧ w.grownBy wr (some g) ∧ mergeAll n (f + 1) k l2 = stableL l) (fun v6 _ => n - (intOf v6).toNat)
      case atStart => exact ⟨n, 20, _, rfl, Nat.le_refl _, by omega, by omega, HR2.out, HG2.out, HSL.out.symm⟩
      case round =>
        clear HR2 HG2 HSL
        obtain ⟨f, k, l2, rfl, hk20, hkn2, hf, hrow, hgr, hs⟩ := hrel
        have HS := Lib.hid hs
        clear hs
        by_cases hkn : k < n
        · obtain ⟨f, rfl⟩ : ∃ q, f = q + 1 := ⟨f - 1, by omega⟩
          have HN := Lib.hid (mergeAll_go n (f + 1) k l2 hkn)
          have HRW := Lib.hid hrow
          have HGR := Lib.hid hgr
          clear hrow hgr
          go_wp2_with fail
          go_loopw [7, 8] (fun v7 v8 wr => ∃ (q a : Nat) (l3 : List Pe), v7 = .int .i64 a ∧ v8 = .int .i64 (a + 2 * k : Nat) ∧ a ≤ n ∧ n < q + a + 1 ∧ PRow wr base (.slice (some ⟨g, o, none⟩) n c) l3 ∧ w.grownBy wr (some g) ∧ mergeRow n k (q + 1) a l3 = mergeRow n k (n + 1) 0 l2) (fun v7 _ _ => n - (intOf v7).toNat)
          case atStart => exact ⟨n, 0, l2, rfl, congrArg (Value.int .i64) (by omega), Nat.zero_le _, by omega, HRW.out, HGR.out, rfl⟩
          case round =>
            clear HRW HGR
            obtain ⟨q, a, l3, rfl, rfl, han, hq, hrow, hgr, hs3⟩ := hrel
            have HS3 := Lib.hid hs3
            clear hs3
            have qa : IntKind.i64.wrap ((a : Int) + k) = (a + k : Nat) := by rw [show (a : Int) + k = (a + k : Nat) by omega]; exact Go.IntWalk.i64_in _ (by omega)
            by_cases hlt : a + 2 * k ≤ n
            · obtain ⟨q, rfl⟩ : ∃ z, q = z + 1 := ⟨q - 1, by omega⟩
              have HN3 := Lib.hid (mergeRow_go n k (q + 1) a l3 hlt)
              have hqq := p_symMerge base g o c n a (a + k) (a + 2 * k) l3 (by omega) (by omega) (by omega) hlt wr hrow
              clear hrow
              go_wp2_with fail
              refine hqq.mono ?_
              rintro e w2 ⟨rfl, hr2, hg2⟩
              have HR2 := Lib.hid hr2
              have HG2 := Lib.hid (grown_then hgr hg2)
              clear hqq hr2 hg2 hgr
              go_wp2
              go_roundw
              case rel => exact ⟨q, a + 2 * k, _, rfl, by go_num, hlt, by omega, HR2.out, HG2.out, by rw [← HN3.out, HS3.out]⟩
              case measure => simp [intOf]; omega
            · by_cases hlast : a + k < n
              · have HN3 := Lib.hid (mergeRow_last n k q a l3 hlt hlast)
                have hqq := p_symMerge base g o c n a (a + k) n l3 (by omega) (by omega) hlast (Nat.le_refl _) wr hrow
                rw [← HN3.out, HS3.out] at hqq
                clear hrow
                go_wp2_with fail
                refine hqq.mono ?_
                rintro e w2 ⟨rfl, hr2, hg2⟩
                have HR2 := Lib.hid hr2
                have HG2 := Lib.hid (grown_then hgr hg2)
                clear hqq hr2 hg2 hgr
                go_wp2
                go_roundw
                case rel => exact ⟨f, 2 * k, _, by go_num, by omega, by omega, by omega, HR2.out, HG2.out, by rw [← HN.out, HS.out]⟩
                case measure => simp [intOf]; omega
              · have HN3 := Lib.hid (mergeRow_end n k q a l3 hlt hlast)
                have HR2 : Hid (PRow wr base (.slice (some ⟨g, o, none⟩) n c) (mergeRow n k (n + 1) 0 l2)) := Lib.hid (by rw [← HS3.out, HN3.out]; exact hrow)
                have HG2 := Lib.hid hgr
                clear hrow hgr
                go_wp2
                go_roundw
                case rel => exact ⟨f, 2 * k, _, by go_num, by omega, by omega, by omega, HR2.out, HG2.out, by rw [← HN.out, HS.out]⟩
                case measure => simp [intOf]; omega
        · have HN := Lib.hid (mergeAll_end n f k l2 hkn)
          have HRW : Hid (PRow wr base (.slice (some ⟨g, o, none⟩) n c) (stableL l)) := Lib.hid (by rw [← HS.out, HN.out]; exact hrow)
          clear hrow
          go_wp2
          go_end0
          exact ⟨rfl, HRW.out, hgr⟩

end Go.Proofs.Ytoefkkgnabjmdaa
