/- Chapter 26's reference: the least of all ways, by trying all: by a walk. -/
import Derived.Test.YtndkgjoaljcijaaBsRef23
import Derived.Test.YtndkgjoaljcijaaBsFin
import Derived.Test.YtndkgjoaljcijaaBsEnd
import Derived.Test.YtndkgjoaljcijaaRepsU
import Derived.StillTailTactics
set_option linter.unusedSimpArgs false
set_option linter.unusedVariables false
set_option maxRecDepth 100000
namespace Go.Proofs.Ytndkgjoaljcijaa
open Go.RowKit

def betterI (a b : Int) : Int := if a < 0 ∨ (0 ≤ b ∧ b < a) then b else a
theorem r_better (a b : Int) (w : World) : Calls Try.prog 27 #[.int .i64 a, .int .i64 b] w fun e w' => e = .returned (.int .i64 (betterI a b)) ∧ w = w' := by
  by_cases h1 : a < 0
  · have HR := Lib.hid (show betterI a b = b from if_pos (.inl h1))
    go_enter Try.func27, Try.ntmps27
    go_wp2
    go_ret
    exact ⟨by rw [HR.out]; rfl, rfl⟩
  · by_cases h2 : 0 ≤ b
    · by_cases h3 : b < a
      · have HR := Lib.hid (show betterI a b = b from if_pos (.inr ⟨h2, h3⟩))
        go_enter Try.func27, Try.ntmps27
        go_wp2
        go_ret
        exact ⟨by rw [HR.out]; rfl, rfl⟩
      · have HR := Lib.hid (show betterI a b = a from if_neg (by omega))
        go_enter Try.func27, Try.ntmps27
        go_wp2
        go_ret
        exact ⟨by rw [HR.out]; rfl, rfl⟩
    · have HR := Lib.hid (show betterI a b = a from if_neg (by omega))
      go_enter Try.func27, Try.ntmps27
      go_wp2
      go_ret
      exact ⟨by rw [HR.out]; rfl, rfl⟩
/-- How many bytes two ends share. -/
def ofN (s : List UInt8) (i k : Nat) : Nat := shrN s i k s.length 0
set_option maxHeartbeats 4000000 in
theorem r_Of19 (s : List UInt8) (i k : Nat) (hk : k < i) (hi : i ≤ s.length) (hl : s.length ≤ 1000000) (w : World) :
    Calls Try.prog 41 #[.string (str s), .int .i64 i, .int .i64 k] w fun e w' => e = .returned (.int .i64 (ofN s i k : Nat)) ∧ Below w.heap.size w w' := by
  have hsz := str_size s
  have q1 : ¬ (i : Int) < 0 := by omega
  have q2 : ¬ ((str s).size : Int) < (i : Int) := by rw [hsz]; omega
  have q3 : ¬ (k : Int) < 0 := by omega
  have q4 : ¬ ((str s).size : Int) < (k : Int) := by rw [hsz]; omega
  obtain ⟨R, hR⟩ : ∃ R, R = ofN s i k := ⟨_, rfl⟩
  have HQ := Lib.hid hR
  rw [← hR]
  clear hR
  go_enter Try.func41, Try.ntmps41
  go_wp2
  go_loopw [7] (fun v7 wr => ∃ n : Nat, n ≤ s.length ∧ v7 = .int .i64 n ∧ shrN s i k (s.length - n) n = R ∧ Below w.heap.size w wr) (fun v7 _ => s.length - (intOf v7).toNat)
  case atStart => exact ⟨0, by omega, rfl, HQ.out.symm, Below.refl _ _⟩
  case round =>
    obtain ⟨n, hn, rfl, hsh, hb⟩ := hrel
    have HB := Lib.hid hb
    clear hb q1 q2 q3 q4
    have e1 : IntKind.i64.wrap ((i : Int) + (n : Int)) = (i : Int) + (n : Int) := Go.IntWalk.i64_in _ (by omega)
    have e2 : IntKind.i64.wrap ((k : Int) + (n : Int)) = (k : Int) + (n : Int) := Go.IntWalk.i64_in _ (by omega)
    by_cases c2 : i + n < s.length
    · obtain ⟨fu, hfu⟩ : ∃ fu, s.length - n = fu + 1 := ⟨s.length - n - 1, by omega⟩
      have b2 : decide ((i : Int) + (n : Int) < ((str s).size : Int)) = true := decide_eq_true (by rw [hsz]; omega)
      have b3 : decide ((k : Int) + (n : Int) < ((str s).size : Int)) = true := decide_eq_true (by rw [hsz]; omega)
      have x1 := run_byte s ((i : Int) + (n : Int)) (by omega) (by omega)
      have x2 := run_byte s ((k : Int) + (n : Int)) (by omega) (by omega)
      rw [show ((i : Int) + (n : Int)).toNat = i + n by omega] at x1
      rw [show ((k : Int) + (n : Int)).toNat = k + n by omega] at x2
      rw [hfu] at hsh
      unfold shrN at hsh
      obtain ⟨y1, hy1⟩ : ∃ y, y = s.getD (i + n) 0 := ⟨_, rfl⟩
      obtain ⟨y2, hy2⟩ : ∃ y, y = s.getD (k + n) 0 := ⟨_, rfl⟩
      rw [← hy1] at x1 hsh
      rw [← hy2] at x2 hsh
      have hfu2 : s.length - (n + 1) = fu := by omega
      have HL := Lib.hid (show n + 1 ≤ s.length ∧ s.length ≤ 1000000 by omega)
      clear hsz hy1 hy2
      by_cases c3 : y1 = y2
      · have b4 : ((y1.toNat : Int) == (y2.toNat : Int)) = true := by rw [c3]; simp
        have b4n : (y1.toNat == y2.toNat) = true := by rw [c3]; simp
        rw [if_pos ⟨c2, c3⟩] at hsh
        have HS := Lib.hid (And.intro hsh hfu2)
        clear c3 hsh hfu hfu2
        go_wp2_with fail
        go_quiet (fail)
        all_goals
          have hn1 : n < 1000000 := by have := HL.out; omega
          go_wp2
          go_roundw
          case rel => exact ⟨n + 1, HL.out.1, by go_num, by rw [HS.out.2]; exact HS.out.1, bl_drewN HB.out _⟩
          case measure => have := HL.out; simp [intOf]; omega
      · have b4 : ((y1.toNat : Int) == (y2.toNat : Int)) = false := by
          rw [beq_eq_false_iff_ne]
          intro e
          exact c3 (UInt8.toNat_inj.1 (by omega))
        have b4n : (y1.toNat == y2.toNat) = false := by
          rw [beq_eq_false_iff_ne]
          intro e
          exact c3 (UInt8.toNat_inj.1 e)
        rw [if_neg (fun q => c3 q.2)] at hsh
        have HS := Lib.hid hsh
        clear c3 hsh hfu hfu2
        go_wp2_with fail
        go_quiet (fail)
        all_goals
          go_wp2
          go_ret
          exact ⟨(by rw [← HS.out]; rfl), bl_drewN HB.out _⟩
    · have b2 : decide ((i : Int) + (n : Int) < ((str s).size : Int)) = false := decide_eq_false (by rw [hsz]; omega)
      have hR : n = R := by
        rw [← hsh]
        cases hq : s.length - n with
        | zero => rfl
        | succ fu => unfold shrN; rw [if_neg (fun q => c2 q.1)]
      have HS := Lib.hid hR
      clear hsh hR hsz c2
      go_wp2_with fail
      go_quiet (fail)
      all_goals
        go_wp2
        go_ret
        exact ⟨(by rw [← HS.out]; rfl), bl_drewN HB.out _⟩
theorem le_of_iff {E : Env} {i q x : Nat} (h1 : 1 ≤ x) (h2 : x ≤ i) (h3 : (x : Int) ≤ E.win) (hi : i ≤ E.s.length) (h0 : 1 ≤ q) (hq : q ≤ 258) : q ≤ shr E i x ↔ q ≤ ofN E.s i (i - x) := by
  unfold shr ofN
  rw [if_neg (by omega), Int.toNat_natCast]
  have a := shrN_spec E.s i (i - x) 258 0
  have b := shrN_spec E.s i (i - x) E.s.length 0
  constructor
  · intro h
    have hr := (a.2.2.1 (q - 1) (by omega) (by omega)).1
    exact b.2.2.2 q (by omega) (by omega) (fun j _ hj => a.2.2.1 j (by omega) (by omega))
  · intro h
    exact a.2.2.2 q (by omega) (by omega) (fun j _ hj => b.2.2.1 j (by omega) (by omega))

/-! The least of all ways. -/
structure IsLeast (E : Env) (st : St) (v : Int) : Prop where
  way : ∃ l e, Way E st l e v ∧ e.at_ = E.s.length
  le : ∀ l e c, Way E st l e c → e.at_ = E.s.length → v ≤ c
def canT (E : Env) (st : St) (t : Tok) : Prop := t = litT E st.at_ ∨ (∃ n k : Nat, k < 4 ∧ 2 ≤ n ∧ n ≤ 258 ∧ st.at_ + n ≤ E.s.length ∧ t = repT n k) ∨ ∃ n x : Nat, 2 ≤ n ∧ n ≤ 258 ∧ st.at_ + n ≤ E.s.length ∧ 1 ≤ x ∧ x ≤ st.at_ ∧ (x : Int) ≤ E.win ∧ t = copyT n x
structure CanFacts (E : Env) (st : St) (t : Tok) : Prop where
  ok : tokOk t
  lit : t.kind = 0 → okTok E st t ∧ useE st.r t = 0 ∧ useD st.r t = 0
  len : t.kind ≠ 0 → ∃ n : Nat, t.len = n ∧ 2 ≤ n ∧ n ≤ 258 ∧ st.at_ + n ≤ E.s.length ∧ (useE st.r t = 0 → 1 ≤ useD st.r t ∧ (okTok E st t ↔ n ≤ shr E st.at_ (useD st.r t)))
  bad : useE st.r t ≠ 0 → ¬ okTok E st t
  size : (nxt st t).at_ = st.at_ + (if t.kind = 0 then 1 else t.len.toNat)
theorem can_facts {E : Env} (hE : EnvOk E) {st : St} {t : Tok} (h : canT E st t) (hl : st.at_ < E.s.length) : CanFacts E st t := by
  have hw := hE.win2
  rcases h with rfl | ⟨n, k, hk, h2, h3, h4, rfl⟩ | ⟨n, x, h2, h3, h4, h5, h6, h7, rfl⟩
  · have h0 : okTok E st (litT E st.at_) := .inl rfl
    have hok := okTok_ok hw h0
    refine ⟨hok, fun _ => ⟨h0, okTok_use hw h0, ?_⟩, fun q => absurd rfl q, fun q => absurd (okTok_use hw h0) q, ?_⟩
    · have hk0 : (litT E st.at_).kind = 0 := rfl
      simp [useD, hk0]
    · have hk0 : (litT E st.at_).kind = 0 := rfl
      simp [nxt, tokSize, hok, hk0]
  · have hok : tokOk (repT n k) := .inr (.inr ⟨rfl, by simp only [repT]; omega, by simp only [repT]; omega, rfl, rfl, by simp only [repT]; omega, by simp only [repT]; omega⟩)
    refine ⟨hok, fun q => by simp [repT] at q, fun _ => ⟨n, rfl, h2, h3, h4, fun hu => ?_⟩, fun q w => absurd (okTok_use hw w) q, ?_⟩
    · have hu' : useOk st.r (repT n k) := Classical.byContradiction fun q => by unfold useE at hu; rw [if_neg q] at hu; cases hu
      have hd : useD st.r (repT n k) = st.r.get k := by
        unfold useD
        rw [if_pos hu', if_neg (by simp [repT]), if_neg (by simp [repT])]
        rfl
      rw [hd]
      refine ⟨(hu'.2 rfl).1, ⟨fun o => ?_, fun o => .inr (.inl ⟨n, k, hk, h2, o, rfl⟩)⟩⟩
      rcases o with o | ⟨n', k', hk', a, b, o⟩ | ⟨n', x', a, b, o⟩
      · simp [repT, litT] at o
      · simp only [repT, Tok.mk.injEq] at o
        obtain ⟨_, _, o1, _, o2⟩ := o
        obtain rfl : n = n' := by omega
        obtain rfl : k = k' := by omega
        exact b
      · simp [repT, copyT] at o
    · unfold nxt tokSize
      rw [if_pos hok, if_neg (by simp [repT]), if_neg (by simp [repT])]
  · have hok : tokOk (copyT n x) := .inr (.inl ⟨rfl, by simp only [copyT]; omega, by simp only [copyT]; omega, rfl, rfl, by simp only [copyT]; omega, by simp only [copyT]; omega⟩)
    refine ⟨hok, fun q => by simp [copyT] at q, fun _ => ⟨n, rfl, h2, h3, h4, fun hu => ?_⟩, fun q w => absurd (okTok_use hw w) q, ?_⟩
    · have hu' : useOk st.r (copyT n x) := Classical.byContradiction fun q => by unfold useE at hu; rw [if_neg q] at hu; cases hu
      have hd : useD st.r (copyT n x) = x := by
        unfold useD
        rw [if_pos hu', if_neg (by simp [copyT]), if_pos (by simp [copyT])]
        rfl
      rw [hd]
      refine ⟨by omega, ⟨fun o => ?_, fun o => .inr (.inr ⟨n, x, h2, o, rfl⟩)⟩⟩
      rcases o with o | ⟨n', k', hk', a, b, o⟩ | ⟨n', x', a, b, o⟩
      · simp [copyT, litT] at o
      · simp [repT, copyT] at o
      · simp only [copyT, Tok.mk.injEq] at o
        obtain ⟨_, _, o1, o2, _⟩ := o
        obtain rfl : n = n' := by omega
        obtain rfl : x = x' := by omega
        exact b
    · unfold nxt tokSize
      rw [if_pos hok, if_neg (by simp [copyT]), if_neg (by simp [copyT])]
def BehindOf (E : Env) (st : St) (t : Tok) (v : Int) : Prop := (okTok E st t ∧ ∃ u, IsLeast E (nxt st t) u ∧ v = cost E.m E.d t + u) ∨ (¬ okTok E st t ∧ v = -1)
theorem way_bound {E : Env} (hE : EnvOk E) {s e : St} {l : List Tok} {c : Int} (w : Way E s l e c) (he : e.at_ = E.s.length) : 0 ≤ c ∧ c ≤ bigC * ((E.s.length : Int) - s.at_) := by
  induction w with
  | nil s => rw [he]; simp
  | cons hs h w ih =>
    have h1 := cost_pos hE h
    have h2 := ih he
    have h3 := nxt_ne hE hs h
    unfold bigC at *
    omega
theorem IsLeast.bd {E : Env} (hE : EnvOk E) {st : St} {v : Int} (h : IsLeast E st v) : 0 ≤ v ∧ v ≤ bigC * ((E.s.length : Int) - st.at_) := by
  obtain ⟨l, e, w, he⟩ := h.way
  exact way_bound hE w he
def LeastAt (E : Env) (st : St) : Prop := ∀ (M D : Option Addr) (c1 c2 : Nat) (w : World), ReadsI w M E.m → ReadsI w D E.d →
  Calls Try.prog 14 #[.string (str E.s), .int .i64 st.at_, rpV st.r, priceV M D E.m E.d c1 c2, .int .i64 E.win] w fun e w' => (∃ v, e = .returned (.int .i64 v) ∧ IsLeast E st v) ∧ Below w.heap.size w w'
set_option maxHeartbeats 4000000 in
theorem r_behind {E : Env} (hE : EnvOk E) (st : St) (t : Tok) (hc : canT E st t) (hl : st.at_ < E.s.length) (hlen : E.s.length ≤ 1000) (IH : ∀ st' : St, st.at_ < st'.at_ → st'.at_ ≤ E.s.length → LeastAt E st') (M D : Option Addr) (c1 c2 : Nat) (w : World) (hm : ReadsI w M E.m) (hd : ReadsI w D E.d) :
    Calls Try.prog 26 #[.string (str E.s), .int .i64 st.at_, rpV st.r, tokV t, priceV M D E.m E.d c1 c2, .int .i64 E.win] w fun e w' => (∃ v, e = .returned (.int .i64 v) ∧ BehindOf E st t v) ∧ Below w.heap.size w w' := by
  have hcf := can_facts hE hc hl
  have hsz := hcf.size
  have hbad := hcf.bad
  have hlit := hcf.lit
  have hln := hcf.len
  have hok := hcf.ok
  obtain ⟨i, ⟨ra, rb, rc, rd⟩⟩ := st
  obtain ⟨tk, tb, tl, td, ti⟩ := t
  have huse := fun w => r_Use ⟨ra, rb, rc, rd⟩ ⟨tk, tb, tl, td, ti⟩ w
  have htok := fun w' hm hd => r_tok23 M D E.m E.d c1 c2 ⟨tk, tb, tl, td, ti⟩ w' hm hd hE.m hE.d hE.mok hE.dok hok
  have HCB := Lib.hid hbad
  have HLN := Lib.hid hln
  have HLT := Lib.hid hlit
  unfold LeastAt at IH
  have HIH0 := Lib.hid IH
  have HSZ := Lib.hid hsz
  have hz0 := Blk.new w 23 #[.int .i64 ra, .int .i64 rb, .int .i64 rc, .int .i64 rd]
  clear hcf hsz hbad hlit hln IH hc hok
  unfold rpV tokV priceV at *
  simp only at *
  go_enter Try.func26, Try.ntmps26
  go_wp2_with fail
  have w0 : ∃ w0, w0 = ((w.alloc (.cells #[.int .i64 ra, .int .i64 rb, .int .i64 rc, .int .i64 rd] 23)).alloc (.cells #[.int .i64 tk, .int .i64 tb, .int .i64 tl, .int .i64 td, .int .i64 ti] 65)).alloc (.cells #[.slice M E.m.length c1, .slice D E.d.length c2] 32) := ⟨_, rfl⟩
  obtain ⟨w0, hw0⟩ := w0
  have z9 : Blk w0 (w.heap.size + 1) 65 #[.int .i64 tk, .int .i64 tb, .int .i64 tl, .int .i64 td, .int .i64 ti] := by rw [hw0]; have := (Blk.new (w.alloc (.cells #[.int .i64 ra, .int .i64 rb, .int .i64 rc, .int .i64 rd] 23)) 65 #[.int .i64 tk, .int .i64 tb, .int .i64 tl, .int .i64 td, .int .i64 ti]).alloc (.cells #[.slice M E.m.length c1, .slice D E.d.length c2] 32); rwa [World.size_alloc] at this
  have z10 : Blk w0 (w.heap.size + 1 + 1) 32 #[.slice M E.m.length c1, .slice D E.d.length c2] := by rw [hw0]; have := Blk.new ((w.alloc (.cells #[.int .i64 ra, .int .i64 rb, .int .i64 rc, .int .i64 rd] 23)).alloc (.cells #[.int .i64 tk, .int .i64 tb, .int .i64 tl, .int .i64 td, .int .i64 ti] 65)) 32 #[.slice M E.m.length c1, .slice D E.d.length c2]; rwa [World.size_alloc, World.size_alloc] at this
  have hb0 : Below w.heap.size w w0 := by rw [hw0]; exact bl_alloc (bl_alloc (bl_alloc (Below.refl w.heap.size w) _) _) _
  rw [← hw0]
  clear hw0 hz0
  have hm0 := hm.below hb0
  have hd0 := hd.below hb0
  refine (huse _).mono ?_
  rintro e w1 ⟨rfl, hb1⟩
  replace hm0 := hm0.below hb1
  replace hd0 := hd0.below hb1
  replace z9 := z9.below hb1 z9.lt
  replace z10 := z10.below hb1 z10.lt
  have hbz := bl_then hb0 hb0.size hb1
  have HNR := Lib.hid (show ∀ q, nxt ⟨i, ⟨ra, rb, rc, rd⟩⟩ ⟨tk, tb, tl, td, ti⟩ = q → q.r = useR ⟨ra, rb, rc, rd⟩ ⟨tk, tb, tl, td, ti⟩ from fun q h => by rw [← h]; rfl)
  clear huse hb0 hb1 hm hd
  generalize useR ⟨ra, rb, rc, rd⟩ ⟨tk, tb, tl, td, ti⟩ = R at *
  generalize useD ⟨ra, rb, rc, rd⟩ ⟨tk, tb, tl, td, ti⟩ = X at *
  generalize useE ⟨ra, rb, rc, rd⟩ ⟨tk, tb, tl, td, ti⟩ = U at *
  obtain ⟨u0, u1, u2, u3⟩ := R
  simp only
  have z13 := Blk.new w1 23 #[.int .i64 u0, .int .i64 u1, .int .i64 u2, .int .i64 u3]
  have hm1 := hm0.alloc (.cells #[.int .i64 u0, .int .i64 u1, .int .i64 u2, .int .i64 u3] 23)
  have hd1 := hd0.alloc (.cells #[.int .i64 u0, .int .i64 u1, .int .i64 u2, .int .i64 u3] 23)
  replace z9 := z9.alloc (.cells #[.int .i64 u0, .int .i64 u1, .int .i64 u2, .int .i64 u3] 23)
  replace z10 := z10.alloc (.cells #[.int .i64 u0, .int .i64 u1, .int .i64 u2, .int .i64 u3] 23)
  replace hbz := bl_alloc hbz (.cells #[.int .i64 u0, .int .i64 u1, .int .i64 u2, .int .i64 u3] 23)
  have HBZ := Lib.hid hbz
  have a9 := Blk.cell z9
  have a10 := Blk.cell z10
  have a13 := Blk.cell z13
  have t9 := z9.lt
  have t10 := z10.lt
  have t13 := z13.lt
  clear hm0 hd0
  by_cases hu : U = 0
  · subst hu
    by_cases hx1 : (i : Int) < X
    · have HN := Lib.hid (show ¬ okTok E ⟨i, ⟨ra, rb, rc, rd⟩⟩ ⟨tk, tb, tl, td, ti⟩ from fun o => by
        by_cases hk : tk = 0
        · have := (HLT.out hk).2.2; omega
        · obtain ⟨n, e, a, b, c, f⟩ := HLN.out hk
          obtain ⟨f1, f2⟩ := f rfl
          have := shr_pos (show 0 < shr E i X by have := f2.1 o; omega)
          omega)
      clear hbz z9 z10 z13
      go_wp2
      go_ret
      exact ⟨⟨_, rfl, .inr ⟨HN.out, rfl⟩⟩, HBZ.out⟩
    · by_cases hx2 : E.win < X
      · have HN := Lib.hid (show ¬ okTok E ⟨i, ⟨ra, rb, rc, rd⟩⟩ ⟨tk, tb, tl, td, ti⟩ from fun o => by
          by_cases hk : tk = 0
          · have := (HLT.out hk).2.2; have := hE.win1; omega
          · obtain ⟨n, e, a, b, c, f⟩ := HLN.out hk
            obtain ⟨f1, f2⟩ := f rfl
            have := shr_pos (show 0 < shr E i X by have := f2.1 o; omega)
            omega)
        clear hbz z9 z10 z13
        go_wp2
        go_ret
        exact ⟨⟨_, rfl, .inr ⟨HN.out, rfl⟩⟩, HBZ.out⟩
      · by_cases hk : tk = 0
        · subst hk
          obtain ⟨o1, _, o3⟩ := HLT.out rfl
          subst o3
          have HOKT := Lib.hid o1
          have HIH : Hid (∀ (M D : Option Addr) (c1 c2 : Nat) (w : World), ReadsI w M E.m → ReadsI w D E.d →
              Calls Try.prog 14 #[.string (str E.s), .int .i64 ((i : Int) + 1), .agg #[.int .i64 u0, .int .i64 u1, .int .i64 u2, .int .i64 u3], .agg #[.slice M E.m.length c1, .slice D E.d.length c2], .int .i64 E.win] w fun e w' => (∃ v, e = .returned (.int .i64 v) ∧ IsLeast E (nxt ⟨i, ⟨ra, rb, rc, rd⟩⟩ ⟨0, tb, tl, td, ti⟩) v) ∧ Below w.heap.size w w') := Lib.hid (by
            have h1 := HNR.out _ rfl
            have h2 := HSZ.out
            rw [if_pos rfl] at h2
            generalize nxt ⟨i, ⟨ra, rb, rc, rd⟩⟩ ⟨0, tb, tl, td, ti⟩ = N at *
            intro M D c1 c2 w hm hd
            have h3 := HIH0.out N (by omega) (by omega) M D c1 c2 w hm hd
            rw [h1, h2] at h3
            push_cast at h3
            exact h3)
          have e0 : IntKind.i64.wrap ((i : Int) + 1) = (i : Int) + 1 := Go.IntWalk.i64_in _ (by omega)
          clear o1
          go_wp2_with fail
          have htl := htok _ hm1 hd1
          go_wp2_with fail
          refine htl.mono ?_
          rintro e w2 ⟨rfl, hb2⟩
          have m2 := hm1.below hb2
          have d2 := hd1.below hb2
          have y10 := z10.below hb2 z10.lt
          have y13 := z13.below hb2 z13.lt
          have hbb := bl_then hbz hbz.size hb2
          have a10 := Blk.cell y10
          have a13 := Blk.cell y13
          have t10 := y10.lt
          have t13 := y13.lt
          clear z9 z10 z13 hm1 hd1 htl htok hbz hb2
          go_wp2_with fail
          refine ((HIH.out M D c1 c2 _ m2 d2)).mono ?_
          rintro e w3 ⟨⟨v, rfl, hv⟩, hb3⟩
          have hvb := hv.bd hE
          have hcp := cost_pos hE HOKT.out
          have HBB := Lib.hid (bl_then hbb hbb.size hb3)
          have HV : Hid (BehindOf E ⟨i, ⟨ra, rb, rc, rd⟩⟩ ⟨0, tb, tl, td, ti⟩ (cost E.m E.d ⟨0, tb, tl, td, ti⟩ + v)) := Lib.hid (.inl ⟨HOKT.out, v, hv, rfl⟩)
          have e3 : IntKind.i64.wrap (cost E.m E.d ⟨0, tb, tl, td, ti⟩ + v) = cost E.m E.d ⟨0, tb, tl, td, ti⟩ + v := Go.IntWalk.i64_in _ (by unfold bigC at hcp hvb; omega)
          generalize cost E.m E.d ⟨0, tb, tl, td, ti⟩ = C at *
          clear hvb hcp hv hbb hb3
          go_wp2
          go_ret
          exact ⟨⟨_, rfl, HV.out⟩, HBB.out⟩
        · obtain ⟨n, e1, n2, n258, nl, f⟩ := HLN.out hk
          obtain ⟨x1, f2⟩ := f rfl
          obtain ⟨x, rfl⟩ : ∃ x : Nat, X = x := ⟨X.toNat, by omega⟩
          subst e1
          have hof := fun w => r_Of19 E.s i (i - x) (by omega) (by omega) (by omega) w
          rw [show ((i - x : Nat) : Int) = (i : Int) - (x : Int) by omega] at hof
          have hiff := le_of_iff (E := E) (i := i) (q := n) (x := x) (by omega) (by omega) (by omega) (by omega) (by omega) n258
          rw [← f2] at hiff
          have hkb : (tk != 0) = true := by simpa using hk
          have e0 : IntKind.i64.wrap ((i : Int) - (x : Int)) = (i : Int) - (x : Int) := Go.IntWalk.i64_in _ (by omega)
          have q1b : decide ((i : Int) < (x : Int)) = false := decide_eq_false (by omega)
          have q1n : decide (i < x) = false := decide_eq_false (by omega)
          have q2b : decide (E.win < (x : Int)) = false := decide_eq_false (by omega)
          clear f f2 hx1 hx2
          go_wp2_with fail
          refine (hof _).mono ?_
          rintro e w4 ⟨rfl, hb4⟩
          replace z9 := z9.below hb4 z9.lt
          replace z10 := z10.below hb4 z10.lt
          replace z13 := z13.below hb4 z13.lt
          replace hm1 := hm1.below hb4
          replace hd1 := hd1.below hb4
          replace hbz := bl_then hbz hbz.size hb4
          clear HBZ a9 a10 a13 t9 t10 t13 hb4 hof
          have a9 := Blk.cell z9
          have a10 := Blk.cell z10
          have a13 := Blk.cell z13
          have t9 := z9.lt
          have t10 := z10.lt
          have t13 := z13.lt
          have HBZ := Lib.hid hbz
          generalize ofN E.s i (i - x) = S at *
          by_cases hs : n ≤ S
          · have HOKT := Lib.hid (hiff.2 hs)
            have b1 : decide ((S : Int) < (n : Int)) = false := decide_eq_false (by omega)
            have b1n : decide (S < n) = false := decide_eq_false (by omega)
            have HIH : Hid (∀ (M D : Option Addr) (c1 c2 : Nat) (w : World), ReadsI w M E.m → ReadsI w D E.d →
                Calls Try.prog 14 #[.string (str E.s), .int .i64 ((i : Int) + (n : Int)), .agg #[.int .i64 u0, .int .i64 u1, .int .i64 u2, .int .i64 u3], .agg #[.slice M E.m.length c1, .slice D E.d.length c2], .int .i64 E.win] w fun e w' => (∃ v, e = .returned (.int .i64 v) ∧ IsLeast E (nxt ⟨i, ⟨ra, rb, rc, rd⟩⟩ ⟨tk, tb, n, td, ti⟩) v) ∧ Below w.heap.size w w') := Lib.hid (by
              have h1 := HNR.out _ rfl
              have h2 := HSZ.out
              rw [if_neg hk] at h2
              rw [Int.toNat_natCast] at h2
              generalize nxt ⟨i, ⟨ra, rb, rc, rd⟩⟩ ⟨tk, tb, n, td, ti⟩ = N at *
              intro M D c1 c2 w hm hd
              have h3 := HIH0.out N (by omega) (by omega) M D c1 c2 w hm hd
              rw [h1, h2] at h3
              push_cast at h3
              exact h3)
            have e2 : IntKind.i64.wrap ((i : Int) + (n : Int)) = (i : Int) + (n : Int) := Go.IntWalk.i64_in _ (by omega)
            clear hiff hs
            go_wp2_with fail
            have htl := htok _ hm1 hd1
            go_wp2_with fail
            refine htl.mono ?_
            rintro e w2 ⟨rfl, hb2⟩
            have m2 := hm1.below hb2
            have d2 := hd1.below hb2
            have y10 := z10.below hb2 z10.lt
            have y13 := z13.below hb2 z13.lt
            have hbb := bl_then hbz hbz.size hb2
            have a10 := Blk.cell y10
            have a13 := Blk.cell y13
            have t10 := y10.lt
            have t13 := y13.lt
            clear z9 z10 z13 hm1 hd1 htl htok hbz hb2
            go_wp2_with fail
            refine ((HIH.out M D c1 c2 _ m2 d2)).mono ?_
            rintro e w3 ⟨⟨v, rfl, hv⟩, hb3⟩
            have hvb := hv.bd hE
            have hcp := cost_pos hE HOKT.out
            have HBB := Lib.hid (bl_then hbb hbb.size hb3)
            have HV : Hid (BehindOf E ⟨i, ⟨ra, rb, rc, rd⟩⟩ ⟨tk, tb, (n : Int), td, ti⟩ (cost E.m E.d ⟨tk, tb, (n : Int), td, ti⟩ + v)) := Lib.hid (.inl ⟨HOKT.out, v, hv, rfl⟩)
            have e3 : IntKind.i64.wrap (cost E.m E.d ⟨tk, tb, (n : Int), td, ti⟩ + v) = cost E.m E.d ⟨tk, tb, (n : Int), td, ti⟩ + v := Go.IntWalk.i64_in _ (by unfold bigC at hcp hvb; omega)
            generalize cost E.m E.d ⟨tk, tb, (n : Int), td, ti⟩ = C at *
            clear hvb hcp hv hbb hb3
            go_wp2
            go_ret
            exact ⟨⟨_, rfl, HV.out⟩, HBB.out⟩
          · have HN := Lib.hid (fun o => hs (hiff.1 o))
            have b1 : decide ((S : Int) < (n : Int)) = true := decide_eq_true (by omega)
            have b1n : decide (S < n) = true := decide_eq_true (by omega)
            clear hbz z9 z10 z13 hiff hs
            go_wp2
            go_ret
            exact ⟨⟨_, rfl, .inr ⟨HN.out, rfl⟩⟩, HBZ.out⟩
  · have HN := Lib.hid (HCB.out hu)
    have hu' : (U != 0) = true := by simpa using hu
    clear hbz z9 z10 z13 hu
    go_wp2
    go_ret
    exact ⟨⟨_, rfl, .inr ⟨HN.out, rfl⟩⟩, HBZ.out⟩
structure LInv (E : Env) (st : St) (P : Tok → Prop) (b : Int) : Prop where
  some : ∃ t u, okTok E st t ∧ IsLeast E (nxt st t) u ∧ b = cost E.m E.d t + u
  all : ∀ t, okTok E st t → P t → ∀ l e c, Way E (nxt st t) l e c → e.at_ = E.s.length → b ≤ cost E.m E.d t + c
theorem LInv.pos {E : Env} (hE : EnvOk E) {st : St} {P : Tok → Prop} {b : Int} (h : LInv E st P b) : 0 ≤ b := by
  obtain ⟨t, u, h1, h2, rfl⟩ := h.some
  have := cost_pos hE h1
  have := h2.bd hE
  omega
theorem LInv.weaken {E : Env} {st : St} {P Q : Tok → Prop} {b : Int} (h : LInv E st P b) (hq : ∀ t, okTok E st t → Q t → P t) : LInv E st Q b := ⟨h.some, fun t a b => h.all t a (hq t a b)⟩
theorem LInv.step {E : Env} (hE : EnvOk E) {st : St} {P : Tok → Prop} {b v : Int} {t : Tok} (h : LInv E st P b) (hv : BehindOf E st t v) : LInv E st (fun t' => P t' ∨ t' = t) (betterI b v) := by
  have hp := h.pos hE
  rcases hv with ⟨h1, u, h2, rfl⟩ | ⟨h1, rfl⟩
  · have hc := cost_pos hE h1
    have hu := h2.bd hE
    unfold betterI
    by_cases q : cost E.m E.d t + u < b
    · rw [if_pos (by omega)]
      refine ⟨⟨t, u, h1, h2, rfl⟩, fun t' a hh l e c w he => ?_⟩
      rcases hh with hh | rfl
      · have := h.all t' a hh l e c w he; omega
      · have := h2.le l e c w he; omega
    · rw [if_neg (by omega)]
      refine ⟨h.some, fun t' a hh l e c w he => ?_⟩
      rcases hh with hh | rfl
      · exact h.all t' a hh l e c w he
      · have := h2.le l e c w he; omega
  · unfold betterI
    rw [if_neg (by omega)]
    refine ⟨h.some, fun t' a hh l e c w he => ?_⟩
    rcases hh with hh | rfl
    · exact h.all t' a hh l e c w he
    · exact absurd a h1
theorem LInv.first {E : Env} {st : St} {v : Int} (hv : BehindOf E st (litT E st.at_) v) : LInv E st (fun t => t.kind = 0) v := by
  rcases hv with ⟨h1, u, h2, rfl⟩ | ⟨h1, rfl⟩
  · refine ⟨⟨_, u, h1, h2, rfl⟩, fun t' a hh l e c w he => ?_⟩
    rcases a with rfl | ⟨n, k, _, _, _, rfl⟩ | ⟨n, x, _, _, rfl⟩
    · have := h2.le l e c w he; omega
    · simp [repT] at hh
    · simp [copyT] at hh
  · exact absurd (.inl rfl) h1
theorem LInv.done {E : Env} {st : St} {P : Tok → Prop} {b : Int} (hl : st.at_ < E.s.length) (h : LInv E st P b) (hP : ∀ t, okTok E st t → P t) : IsLeast E st b := by
  obtain ⟨t, u, h1, h2, rfl⟩ := h.some
  obtain ⟨l, e, w, he⟩ := h2.way
  refine ⟨⟨_, e, Way.cons hl h1 w, he⟩, fun l' e' c' w' he' => ?_⟩
  cases w' with
  | nil => omega
  | cons hs ht w' => exact h.all _ ht (hP _ ht) _ _ _ w' he'
def outP (n : Int) (t : Tok) : Prop := t.kind = 0 ∨ t.len < n
def copP (n d : Int) (t : Tok) : Prop := t.kind = 0 ∨ t.len < n ∨ (t.kind = 1 ∧ t.len = n ∧ t.dist < d)
def repP (n k : Int) (t : Tok) : Prop := t.kind = 0 ∨ t.len < n ∨ (t.kind = 1 ∧ t.len = n) ∨ (t.kind = 2 ∧ t.len = n ∧ t.rep < k)
theorem okTok_bd {E : Env} {st : St} {t : Tok} (hl : st.at_ ≤ E.s.length) (h : okTok E st t) : t.kind = 0 ∨ (t.kind = 1 ∧ 2 ≤ t.len ∧ t.len ≤ 258 ∧ t.len + st.at_ ≤ E.s.length ∧ 1 ≤ t.dist ∧ t.dist ≤ st.at_ ∧ t.dist ≤ E.win ∧ ∃ n x : Nat, t = copyT n x) ∨ (t.kind = 2 ∧ 2 ≤ t.len ∧ t.len ≤ 258 ∧ t.len + st.at_ ≤ E.s.length ∧ 0 ≤ t.rep ∧ t.rep < 4 ∧ ∃ n k : Nat, t = repT n k) := by
  rcases h with rfl | ⟨n, k, hk, h1, h2, rfl⟩ | ⟨n, x, h1, h2, rfl⟩
  · exact .inl rfl
  · have a := shr_le E st.at_ (st.r.get k)
    have b := shr_room E st.at_ (st.r.get k) hl
    refine .inr (.inr ⟨rfl, ?_, ?_, ?_, ?_, ?_, n, k, rfl⟩) <;> simp only [repT] <;> omega
  · have a := shr_le E st.at_ (x : Int)
    have b := shr_room E st.at_ (x : Int) hl
    have c := shr_pos (show 0 < shr E st.at_ (x : Int) by omega)
    refine .inr (.inl ⟨rfl, ?_, ?_, ?_, ?_, ?_, ?_, n, x, rfl⟩) <;> simp only [copyT] <;> omega
structure LsW (E : Env) (st : St) (M D : Option Addr) (c1 c2 : Nat) (w wr : World) : Prop where
  z7 : Blk wr w.heap.size 23 #[.int .i64 st.r.a, .int .i64 st.r.b, .int .i64 st.r.c, .int .i64 st.r.d]
  z8 : Blk wr (w.heap.size + 1) 32 #[.slice M E.m.length c1, .slice D E.d.length c2]
  rm : ReadsI wr M E.m
  rd : ReadsI wr D E.d
  hb : Below w.heap.size w wr
theorem LsW.below {E : Env} {st : St} {M D : Option Addr} {c1 c2 : Nat} {w wr w' : World} (h : LsW E st M D c1 c2 w wr) (hb : Below wr.heap.size wr w') : LsW E st M D c1 c2 w w' :=
  ⟨h.z7.below hb h.z7.lt, h.z8.below hb h.z8.lt, h.rm.below hb, h.rd.below hb, bl_then h.hb h.hb.size hb⟩
theorem LsW.drew {E : Env} {st : St} {M D : Option Addr} {c1 c2 : Nat} {w wr : World} (h : LsW E st M D c1 c2 w wr) : LsW E st M D c1 c2 w wr.drew :=
  h.below (Below.refl wr.heap.size wr).drew
theorem LsW.start {E : Env} {st : St} {M D : Option Addr} {c1 c2 : Nat} {w : World} (hm : ReadsI w M E.m) (hd : ReadsI w D E.d) : LsW E st M D c1 c2 w ((w.alloc (.cells #[.int .i64 st.r.a, .int .i64 st.r.b, .int .i64 st.r.c, .int .i64 st.r.d] 23)).alloc (.cells #[.slice M E.m.length c1, .slice D E.d.length c2] 32)) := by
  have hb := bl_alloc (bl_alloc (Below.refl w.heap.size w) (.cells #[.int .i64 st.r.a, .int .i64 st.r.b, .int .i64 st.r.c, .int .i64 st.r.d] 23)) (.cells #[.slice M E.m.length c1, .slice D E.d.length c2] 32)
  refine ⟨(Blk.new w 23 #[.int .i64 st.r.a, .int .i64 st.r.b, .int .i64 st.r.c, .int .i64 st.r.d]).alloc _, ?_, hm.below hb, hd.below hb, hb⟩
  have := Blk.new (w.alloc (.cells #[.int .i64 st.r.a, .int .i64 st.r.b, .int .i64 st.r.c, .int .i64 st.r.d] 23)) 32 #[.slice M E.m.length c1, .slice D E.d.length c2]
  rwa [World.size_alloc] at this
set_option maxHeartbeats 4000000 in
theorem r_Least {E : Env} (hE : EnvOk E) (hlen : E.s.length ≤ 1000) : ∀ (k : Nat) (st : St), st.at_ ≤ E.s.length → E.s.length - st.at_ ≤ k → LeastAt E st := by
  intro k
  induction k with
  | zero =>
    intro st h1 h2 M D c1 c2 w hm hd
    have hs := str_size E.s
    have ha : decide (((str E.s).size : Int) ≤ (st.at_ : Int)) = true := decide_eq_true (by rw [hs]; omega)
    have han : decide ((str E.s).size ≤ st.at_) = true := decide_eq_true (by rw [hs]; omega)
    have HV := Lib.hid (show IsLeast E st 0 from ⟨⟨[], st, .nil st, by omega⟩, fun l e c w he => (way_bound hE w he).1⟩)
    have HB := Lib.hid (bl_alloc (bl_alloc (Below.refl w.heap.size w) (.cells #[.int .i64 st.r.a, .int .i64 st.r.b, .int .i64 st.r.c, .int .i64 st.r.d] 23)) (.cells #[.slice M E.m.length c1, .slice D E.d.length c2] 32))
    unfold rpV priceV
    clear hs h1 h2
    go_enter Try.func14, Try.ntmps14
    go_wp2
    go_ret
    exact ⟨⟨0, rfl, HV.out⟩, HB.out⟩
  | succ k IHk =>
    intro st h1 h2 M D c1 c2 w hm hd
    by_cases hl : st.at_ < E.s.length
    · have IH : ∀ st' : St, st.at_ < st'.at_ → st'.at_ ≤ E.s.length → LeastAt E st' := fun st' a b => IHk st' b (by omega)
      have hbeh := fun t hc w hm hd => r_behind hE st t hc hl hlen IH M D c1 c2 w hm hd
      have HBE := Lib.hid hbeh
      clear IH IHk h2 h1
      have hs := str_size E.s
      have ha : decide (((str E.s).size : Int) ≤ (st.at_ : Int)) = false := decide_eq_false (by rw [hs]; omega)
      have hbyte := run_byte E.s st.at_ (by omega) (by omega)
      have han : decide ((str E.s).size ≤ st.at_) = false := decide_eq_false (by rw [hs]; omega)
      rw [Int.toNat_natCast] at hbyte
      have hst := LsW.start (st := st) (c1 := c1) (c2 := c2) hm hd
      have HS := Lib.hid hst
      have hlit := HBE.out _ (.inl rfl) _ (hst.drew.rm) (hst.drew.rd)
      have p7 := Blk.cell hst.z7
      have p8 := Blk.cell hst.z8
      have p7t := hst.z7.lt
      have p8t := hst.z8.lt
      unfold rpV priceV litT tokV at hlit
      simp only at hlit
      unfold rpV priceV
      have HFI := Lib.hid (fun v (h : BehindOf E st (litT E st.at_) v) => LInv.first h)
      unfold litT at HFI
      obtain ⟨y, hy⟩ : ∃ y, y = E.s.getD st.at_ 0 := ⟨_, rfl⟩
      rw [← hy] at hlit hbyte HFI
      have hyw : IntKind.i64.wrap ((y.toNat : Nat) : Int) = (y.toNat : Int) := Go.IntWalk.i64_in _ (by have := UInt8.toNat_lt y; omega)
      clear hy
      have HSZ := Lib.hid hs
      clear hst hbeh hs hm hd
      go_enter Try.func14, Try.ntmps14
      go_upto_region 3 with (fail)
      generalize (w.alloc (.cells #[.int .i64 st.r.a, .int .i64 st.r.b, .int .i64 st.r.c, .int .i64 st.r.d] 23)).alloc (.cells #[.slice M E.m.length c1, .slice D E.d.length c2] 32) = w1 at *
      go_still_tail 10, (by kernel_rfl)
      change wpList _ _ _ _ _ w1.drew
      go_wp2_with fail
      refine hlit.mono ?_
      rintro e w2 ⟨⟨v, rfl, hv⟩, hb2⟩
      have hw2 := (HS.out.drew).below hb2
      have hI := HFI.out _ hv
      have HII := Lib.hid hI
      clear hv hI hb2 hlit p7 p8 p7t p8t hbyte
      go_wp2_with fail
      go_loopw [11, 12] (fun v11 v12 wr => ∃ (n : Nat) (b : Int), 2 ≤ n ∧ n ≤ 259 ∧ n ≤ E.s.length - st.at_ + 2 ∧ v11 = .int .i64 b ∧ v12 = .int .i64 n ∧ LInv E st (outP n) b ∧ LsW E st M D c1 c2 w wr) (fun _ v12 _ => 1300 - (intOf v12).toNat)
      case atStart => exact ⟨2, v, Nat.le_refl _, by omega, by omega, rfl, rfl, HII.out.weaken (fun t ho hq => by
        rcases okTok_bd (by omega) ho with h | h | h
        · exact h
        · rcases hq with hq | hq
          · exact hq
          · have := h.2.1; omega
        · rcases hq with hq | hq
          · exact hq
          · have := h.2.1; omega), hw2⟩
      case round =>
        obtain ⟨n, b, n2, n259, nl, rfl, rfl, hI, hw3⟩ := hrel
        have HII := Lib.hid hI
        have HW3 := Lib.hid hw3
        have e1 : IntKind.i64.wrap (((str E.s).size : Int) - (st.at_ : Int)) = ((E.s.length - st.at_ : Nat) : Int) := by rw [HSZ.out, show (E.s.length : Int) - (st.at_ : Int) = ((E.s.length - st.at_ : Nat) : Int) by omega]; exact Go.IntWalk.i64_in _ (by omega)
        obtain ⟨L, hL⟩ : ∃ L, L = E.s.length - st.at_ := ⟨_, rfl⟩
        rw [← hL] at e1
        have HL := Lib.hid hL
        have hL1 : L ≤ 1000 := by omega
        by_cases hn : n ≤ L ∧ n ≤ 258
        · have b1 : decide ((n : Int) ≤ (L : Int)) = true := decide_eq_true (by omega)
          have b1n : decide (n ≤ L) = true := decide_eq_true hn.1
          have b2 : decide ((n : Int) ≤ 258) = true := decide_eq_true (by omega)
          have b2n : decide (n ≤ 258) = true := decide_eq_true (by omega)
          have HN2 := Lib.hid (And.intro n2 hn)
          clear hI hw3 hL hn
          go_wp2_with fail
          go_loopw [11, 13] (fun v11 v13 wr => ∃ (x : Nat) (b : Int), 1 ≤ x ∧ x ≤ st.at_ + 1 ∧ v11 = .int .i64 b ∧ v13 = .int .i64 x ∧ LInv E st (copP n x) b ∧ LsW E st M D c1 c2 w wr) (fun _ v13 _ => 1300 - (intOf v13).toNat)
          case atStart => exact ⟨1, b, Nat.le_refl _, by omega, rfl, rfl, HII.out.weaken (fun t ho hq => by
            rcases hq with hq | hq | ⟨q1, q2, q3⟩
            · exact .inl hq
            · exact .inr hq
            · rcases okTok_bd (by omega) ho with h | h | h <;> omega), HW3.out⟩
          case round =>
            obtain ⟨x, b', x1, xs_, rfl, rfl, hI, hw4⟩ := hrel
            have HII2 := Lib.hid hI
            have HW4 := Lib.hid hw4
            have HXX := Lib.hid (And.intro x1 xs_)
            by_cases hx : x ≤ st.at_ ∧ (x : Int) ≤ E.win
            · have b3 : decide ((x : Int) ≤ (st.at_ : Int)) = true := decide_eq_true (by omega)
              have b3n : decide (x ≤ st.at_) = true := decide_eq_true hx.1
              have b4 : decide ((x : Int) ≤ E.win) = true := decide_eq_true hx.2
              have hcall := HBE.out (copyT n x) (.inr (.inr ⟨n, x, by have := HN2.out; omega, by have := HN2.out; omega, by have := HN2.out; have := HL.out; omega, x1, hx.1, hx.2, rfl⟩)) _ hw4.rm hw4.rd
              unfold rpV priceV copyT tokV at hcall
              simp only at hcall
              have p7 := Blk.cell hw4.z7
              have p8 := Blk.cell hw4.z8
              have p7t := hw4.z7.lt
              have p8t := hw4.z8.lt
              have e5 : IntKind.i64.wrap ((x : Int) + 1) = (x : Int) + 1 := Go.IntWalk.i64_in _ (by omega)
              have HX1 := Lib.hid hx.1
              clear hI hw4 hx x1 xs_
              go_wp2_with fail
              refine hcall.mono ?_
              rintro e w5 ⟨⟨v5, rfl, hv5⟩, hb5⟩
              have hw5 := HW4.out.below hb5
              have hI5 := Lib.hid ((HII2.out.step hE hv5).weaken (Q := copP n ((x : Int) + 1)) (fun t ho hq => by
                rcases hq with hq | hq | ⟨q1, q2, q3⟩
                · exact .inl (.inl hq)
                · exact .inl (.inr (.inl hq))
                · rcases okTok_bd (by omega) ho with h | h | h
                  · omega
                  · obtain ⟨_, _, _, _, _, _, _, n', x', rfl⟩ := h
                    simp only [copyT] at q2 q3
                    by_cases hxx : x' = x
                    · subst hxx
                      obtain rfl : n' = n := by omega
                      exact .inr rfl
                    · exact .inl (.inr (.inr ⟨rfl, q2, by simp only [copyT]; omega⟩))
                  · omega))
              clear hb5 hv5 hcall p7 p8 p7t p8t
              go_wp2_with fail
              refine (r_better _ _ _).mono ?_
              rintro e w6 ⟨rfl, rfl⟩
              go_wp2_with fail
              go_roundw
              case rel => exact ⟨x + 1, _, by omega, by have := HX1.out; omega, rfl, by go_num, by push_cast; exact hI5.out, hw5⟩
              case measure => have := HX1.out; simp [intOf]; omega
            · have hI6 := Lib.hid (hI.weaken (Q := repP n ((0 : Nat) : Int)) (fun t ho hq => by
                rcases hq with hq | hq | ⟨q1, q2⟩ | ⟨q1, q2, q3⟩
                · exact .inl hq
                · exact .inr (.inl hq)
                · rcases okTok_bd (by omega) ho with h | h | h
                  · omega
                  · exact .inr (.inr ⟨q1, q2, by omega⟩)
                  · omega
                · rcases okTok_bd (by omega) ho with h | h | h <;> omega))
              have hor : (decide ((x : Int) ≤ (st.at_ : Int)) = true ∧ decide (x ≤ st.at_) = true ∧ decide ((x : Int) ≤ E.win) = false) ∨ (decide ((x : Int) ≤ (st.at_ : Int)) = false ∧ decide (x ≤ st.at_) = false) := by
                by_cases q : x ≤ st.at_
                · exact .inl ⟨decide_eq_true (by omega), decide_eq_true q, decide_eq_false (by omega)⟩
                · exact .inr ⟨decide_eq_false (by omega), decide_eq_false q⟩
              clear hI hw4 hx x1 xs_
              rcases hor with ⟨b3, b3n, b4⟩ | ⟨b3, b3n⟩
              all_goals
                go_wp2_with fail
                go_loopw [11, 14] (fun v11 v14 wr => ∃ (k : Nat) (b : Int), k ≤ 4 ∧ v11 = .int .i64 b ∧ v14 = .int .i64 k ∧ LInv E st (repP n k) b ∧ LsW E st M D c1 c2 w wr) (fun _ v14 _ => 5 - (intOf v14).toNat)
                case atStart => exact ⟨0, b', by omega, rfl, rfl, hI6.out, HW4.out⟩
                case round =>
                  obtain ⟨k, b2', hk4, rfl, rfl, hI, hw7⟩ := hrel
                  have HII3 := Lib.hid hI
                  have HW7 := Lib.hid hw7
                  by_cases hk : k < 4
                  · have b5 : decide ((k : Int) < 4) = true := decide_eq_true (by omega)
                    have b5n : decide (k < 4) = true := decide_eq_true hk
                    have hcall := HBE.out (repT n k) (.inr (.inl ⟨n, k, hk, by have := HN2.out; omega, by have := HN2.out; omega, by have := HN2.out; have := HL.out; omega, rfl⟩)) _ hw7.rm hw7.rd
                    unfold rpV priceV repT tokV at hcall
                    simp only at hcall
                    have p7 := Blk.cell hw7.z7
                    have p8 := Blk.cell hw7.z8
                    have p7t := hw7.z7.lt
                    have p8t := hw7.z8.lt
                    have e5 : IntKind.i64.wrap ((k : Int) + 1) = (k : Int) + 1 := Go.IntWalk.i64_in _ (by omega)
                    have HK := Lib.hid hk
                    clear hI hw7 hk hk4
                    go_wp2_with fail
                    refine hcall.mono ?_
                    rintro e w5 ⟨⟨v5, rfl, hv5⟩, hb5⟩
                    have hw5 := HW7.out.below hb5
                    have hI5 := Lib.hid ((HII3.out.step hE hv5).weaken (Q := repP n ((k : Int) + 1)) (fun t ho hq => by
                      rcases hq with hq | hq | ⟨q1, q2⟩ | ⟨q1, q2, q3⟩
                      · exact .inl (.inl hq)
                      · exact .inl (.inr (.inl hq))
                      · exact .inl (.inr (.inr (.inl ⟨q1, q2⟩)))
                      · rcases okTok_bd (by omega) ho with h | h | h
                        · omega
                        · omega
                        · obtain ⟨_, _, _, _, _, _, n', k', rfl⟩ := h
                          simp only [repT] at q2 q3
                          by_cases hkk : k' = k
                          · subst hkk
                            obtain rfl : n' = n := by omega
                            exact .inr rfl
                          · exact .inl (.inr (.inr (.inr ⟨rfl, q2, by simp only [repT]; omega⟩)))))
                    clear hb5 hv5 hcall p7 p8 p7t p8t
                    go_wp2_with fail
                    refine (r_better _ _ _).mono ?_
                    rintro e w6 ⟨rfl, rfl⟩
                    go_wp2_with fail
                    go_roundw
                    case rel => exact ⟨k + 1, _, by have := HK.out; omega, rfl, by go_num, by push_cast; exact hI5.out, hw5⟩
                    case measure => have := HK.out; simp [intOf]; omega
                  · have b5 : decide ((k : Int) < 4) = false := decide_eq_false (by omega)
                    have b5n : decide (k < 4) = false := decide_eq_false hk
                    have hI7 := Lib.hid (hI.weaken (Q := outP ((n : Int) + 1)) (fun t ho hq => by
                      rcases hq with hq | hq
                      · exact .inl hq
                      · by_cases hh : t.len < n
                        · exact .inr (.inl hh)
                        · rcases okTok_bd (by omega) ho with h | h | h
                          · exact .inl h
                          · exact .inr (.inr (.inl ⟨h.1, by omega⟩))
                          · exact .inr (.inr (.inr ⟨h.1, by omega, by omega⟩))))
                    have e5 : IntKind.i64.wrap ((n : Int) + 1) = (n : Int) + 1 := Go.IntWalk.i64_in _ (by omega)
                    clear hI hw7 hk hk4
                    go_wp2_with fail
                    go_roundw
                    case rel => exact ⟨n + 1, b2', by omega, by have := HN2.out; omega, by have := HN2.out; have := HL.out; omega, rfl, by go_num, by push_cast; exact hI7.out, HW7.out⟩
                    case measure => have := HN2.out; simp [intOf]; omega
        · have HF := Lib.hid (hI.done hl (fun t ho => by
            rcases okTok_bd (by omega) ho with h | h | h
            · exact .inl h
            · exact .inr (by omega)
            · exact .inr (by omega)))
          have HB := Lib.hid hw3.hb
          by_cases c1 : n ≤ L
          · have b1 : decide ((n : Int) ≤ (L : Int)) = true := decide_eq_true (by omega)
            have b1n : decide (n ≤ L) = true := decide_eq_true c1
            have b2 : decide ((n : Int) ≤ 258) = false := decide_eq_false (by omega)
            have b2n : decide (n ≤ 258) = false := decide_eq_false (by omega)
            clear hI hw3 hL hn c1
            go_wp2
            go_ret
            exact ⟨⟨_, rfl, HF.out⟩, HB.out⟩
          · have b1 : decide ((n : Int) ≤ (L : Int)) = false := decide_eq_false (by omega)
            have b1n : decide (n ≤ L) = false := decide_eq_false c1
            clear hI hw3 hL hn c1
            go_wp2
            go_ret
            exact ⟨⟨_, rfl, HF.out⟩, HB.out⟩
    · exact IHk st h1 (by omega) M D c1 c2 w hm hd
end Go.Proofs.Ytndkgjoaljcijaa
