/- Chapter 26 (best): ways are the tokens that mean the block, and cost what they cost: the plain part. -/
import Derived.Test.YtndkgjoaljcijaaBsEnd
import Derived.Test.YtndkgjoaljcijaaPlain18a
set_option linter.unusedSimpArgs false
set_option linter.unusedVariables false
namespace Go.Proofs.Ytndkgjoaljcijaa

theorem take_snoc {s : List UInt8} {i : Nat} (h : i < s.length) : s.take i ++ [s.getD i 0] = s.take (i + 1) := by
  rw [List.take_succ_eq_append_getElem h, List.getD_eq_getElem?_getD, List.getElem?_eq_getElem h]; rfl
theorem cpy_back (s : List UInt8) (i d : Nat) (hd : 1 ≤ d) (hdi : d ≤ i) : ∀ n, i + n ≤ s.length → (∀ j, j < n → s.getD (i + j) 0 = s.getD (i - d + j) 0) → cpy d n (s.take i) = s.take (i + n)
  | 0, _, _ => rfl
  | n + 1, h, he => by
    rw [cpy_snoc, cpy_back s i d hd hdi n (by omega) (fun j hj => he j (by omega))]
    have hl : (s.take (i + n)).length = i + n := by rw [List.length_take]; omega
    have e1 : (s.take (i + n)).getD ((s.take (i + n)).length - d) 0 = s.getD (i + n) 0 := by
      rw [hl, he n (by omega), List.getD_eq_getElem?_getD, List.getD_eq_getElem?_getD, List.getElem?_take_of_lt (by omega), show i + n - d = i - d + n by omega]
    rw [e1, take_snoc (by omega)]
    rfl
theorem ofNat_toNat (x : UInt8) : UInt8.ofNat ((x.toNat : Int)).toNat = x := by
  rw [Int.toNat_natCast, UInt8.ofNat_toNat]
/-- One token's bytes. -/
theorem tok_bytes {E : Env} (hE : EnvOk E) {st : St} {t : Tok} (hl : st.at_ < E.s.length) (ht : okTok E st t) (l : List Tok) : applyT E.win (t :: l) (E.s.take st.at_) st.r = applyT E.win l (E.s.take (nxt st t).at_) (nxt st t).r := by
  have hu := okTok_use hE.win2 ht
  have hok := useE_zero hu
  have ho := hok.1
  have hlen : (E.s.take st.at_).length = st.at_ := by rw [List.length_take]; omega
  have hsz : (nxt st t).at_ = st.at_ + (tokSize t).toNat := rfl
  have hr : (nxt st t).r = useR st.r t := rfl
  rw [hsz, hr]
  unfold tokSize
  rw [if_pos ho]
  show (if useE st.r t ≠ 0 then _ else _) = _
  rw [if_neg (by omega)]
  have key : ∀ (x : Int) (n : Nat), 1 ≤ n → n ≤ shr E st.at_ x → copyE st.at_ n x E.win = 0 ∧ cpy x.toNat n (E.s.take st.at_) = E.s.take (st.at_ + n) := fun x n h1 h2 => by
    have hp := shr_pos (show 0 < shr E st.at_ x by omega)
    have h3 := shr_room E st.at_ x (by omega)
    have h4 := shr_le E st.at_ x
    refine ⟨?_, cpy_back _ _ _ (by omega) (by omega) n (by omega) (fun j hj => shr_eq (by omega))⟩
    have := hE.win1
    have := hE.win2
    unfold copyE
    rw [if_neg (by omega), if_neg (by omega)]
  rcases ht with rfl | ⟨n, k, _, h1, h2, rfl⟩ | ⟨n, x, h1, h2, rfl⟩
  · rw [if_pos (show (litT E st.at_).kind = 0 from rfl), if_pos (show (litT E st.at_).kind = 0 from rfl)]
    have e : (litT E st.at_).byte = ((E.s.getD st.at_ 0).toNat : Int) := rfl
    rw [e, ofNat_toNat, take_snoc hl]
    rfl
  · have hk0 : ¬ (repT n k).kind = 0 := by simp [repT]
    obtain ⟨k1, k2⟩ := key (st.r.get k) n (by omega) h2
    have e1 : useD st.r (repT n k) = st.r.get k := by
      unfold useD
      rw [if_pos hok, if_neg hk0, if_neg (by simp [repT])]; rfl
    rw [if_neg hk0, if_neg hk0, e1]
    have e2 : (repT n k).len = (n : Int) := rfl
    rw [e2, hlen, if_neg (by omega), Int.toNat_natCast, k2]
  · have hk0 : ¬ (copyT n x).kind = 0 := by simp [copyT]
    obtain ⟨k1, k2⟩ := key x n (by omega) h2
    have e1 : useD st.r (copyT n x) = (x : Int) := by
      unfold useD
      rw [if_pos hok, if_neg hk0, if_pos (by simp [copyT])]; rfl
    rw [if_neg hk0, if_neg hk0, e1]
    have e2 : (copyT n x).len = (n : Int) := rfl
    rw [e2, hlen, if_neg (by omega)]
    simp only [Int.toNat_natCast] at k2 ⊢
    rw [k2]
theorem way_apply {E : Env} (hE : EnvOk E) {s e : St} {l : List Tok} {c : Int} (w : Way E s l e c) : applyT E.win l (E.s.take s.at_) s.r = ⟨E.s.take e.at_, e.r, 0⟩ := by
  induction w with
  | nil s => rfl
  | cons hs ht w ih => rw [tok_bytes hE hs ht]; exact ih
theorem way_cost {E : Env} (hE : EnvOk E) {s e : St} {l : List Tok} {c : Int} (w : Way E s l e c) : costs E.m E.d l = c ∧ tokErr l = 0 := by
  induction w with
  | nil s => exact ⟨rfl, rfl⟩
  | @cons s e t l c hs ht w ih =>
    have ho := okTok_ok hE.win2 ht
    refine ⟨?_, ?_⟩
    · show cost E.m E.d t + costs E.m E.d l = _
      rw [ih.1]
    · unfold tokErr
      rw [if_pos (show tokCheck t = 0 from if_pos ho)]
      exact ih.2
theorem way_len {E : Env} (hE : EnvOk E) {s e : St} {l : List Tok} {c : Int} (w : Way E s l e c) : s.at_ + l.length ≤ e.at_ := by
  induction w with
  | nil s => simp
  | cons hs ht w ih =>
    have := nxt_ne hE hs ht
    rw [List.length_cons]; omega
/-! And the other way round. -/
theorem cpy_prefix (d : Nat) : ∀ (n : Nat) (h : List UInt8), h <+: cpy d n h
  | 0, h => List.prefix_refl h
  | n + 1, h => (List.prefix_append h _).trans (cpy_prefix d n _)
theorem apply_prefix (win : Int) : ∀ (l : List Tok) (h : List UInt8) (r : Rp), (applyT win l h r).err = 0 → h <+: (applyT win l h r).bytes
  | [], h, r, _ => List.prefix_refl h
  | t :: l, h, r, he => by
    unfold applyT at he ⊢
    split
    · rename_i q; rw [if_pos q] at he; exact absurd he q
    · rename_i q
      rw [if_neg q] at he
      split
      · rename_i q2; rw [if_pos q2] at he; exact (List.prefix_append h _).trans (apply_prefix win l _ _ he)
      · rename_i q2
        rw [if_neg q2] at he
        split
        · rename_i q3; rw [if_pos q3] at he; exact absurd he q3
        · rename_i q3; rw [if_neg q3] at he; exact (cpy_prefix _ _ h).trans (apply_prefix win l _ _ he)
theorem snoc_left {l : List UInt8} {x : UInt8} {i : Nat} (h : i < l.length) : (l ++ [x]).getD i 0 = l.getD i 0 := by rw [List.getD_eq_getElem?_getD, List.getD_eq_getElem?_getD, List.getElem?_append_left h]
theorem snoc_last {l : List UInt8} {x : UInt8} : (l ++ [x]).getD l.length 0 = x := by rw [List.getD_eq_getElem?_getD, List.getElem?_append_right (Nat.le_refl _), Nat.sub_self]; rfl
theorem cpy_get (d : Nat) (hd : 1 ≤ d) : ∀ (n : Nat) (h : List UInt8), d ≤ h.length → ∀ j, j < n → (cpy d n h).getD (h.length + j) 0 = (cpy d n h).getD (h.length - d + j) 0
  | 0, h, _, j, hj => by omega
  | n + 1, h, hdh, j, hj => by
    rw [cpy_snoc]
    have hl := cpy_length d n h
    by_cases e : j = n
    · subst e
      have e1 : h.length + j = (cpy d j h).length := hl.symm
      rw [e1, snoc_last, snoc_left (by omega), show (cpy d j h).length - d = h.length - d + j by omega]
    · have ih := cpy_get d hd n h hdh j (by omega)
      rw [snoc_left (by omega), snoc_left (by omega)]
      exact ih
theorem prefix_getD {a b : List UInt8} (h : a <+: b) {i : Nat} (hi : i < a.length) : b.getD i 0 = a.getD i 0 := by
  obtain ⟨c, rfl⟩ := h
  rw [List.getD_eq_getElem?_getD, List.getD_eq_getElem?_getD, List.getElem?_append_left hi]
theorem apply_way {E : Env} (hE : EnvOk E) : ∀ (l : List Tok) (st : St), st.at_ ≤ E.s.length → (applyT E.win l (E.s.take st.at_) st.r).err = 0 → (applyT E.win l (E.s.take st.at_) st.r).bytes = E.s → ∃ e, Way E st l e (costs E.m E.d l) ∧ e.at_ = E.s.length
  | [], st, hl, he, hb => by
    refine ⟨st, .nil st, ?_⟩
    have hb' : E.s.take st.at_ = E.s := hb
    have := congrArg List.length hb'
    rw [List.length_take] at this
    omega
  | t :: l, st, hl, he, hb => by
    have hlen : (E.s.take st.at_).length = st.at_ := by rw [List.length_take]; omega
    have hu : useE st.r t = 0 := Classical.byContradiction fun q => by
      unfold applyT at he
      rw [if_pos q] at he
      exact absurd he q
    have hok := useE_zero hu
    have ho := hok.1
    have fin : okTok E st t → st.at_ < E.s.length → ∃ e, Way E st (t :: l) e (costs E.m E.d (t :: l)) ∧ e.at_ = E.s.length := fun ht hs => by
      have hn := nxt_ne hE hs ht
      rw [tok_bytes hE hs ht] at he hb
      obtain ⟨e, hw, hel⟩ := apply_way hE l (nxt st t) hn.2 he hb
      exact ⟨e, .cons hs ht hw, hel⟩
    have he0 := he
    have hb0 := hb
    unfold applyT at he hb
    rw [if_neg (by omega)] at he hb
    by_cases hk : t.kind = 0
    · rw [if_pos hk] at he hb
      have hp := apply_prefix _ _ _ _ he
      rw [hb] at hp
      have hpl := hp.length_le
      simp only [List.length_append, hlen, List.length_singleton] at hpl
      have hg := prefix_getD hp (i := st.at_) (by simp [hlen])
      rw [List.getD_eq_getElem?_getD (l := _ ++ _), List.getElem?_append_right (by omega), hlen, Nat.sub_self] at hg
      simp only [List.getElem?_cons_zero, Option.getD_some] at hg
      refine fin (.inl ?_) (by omega)
      rcases ho with ⟨_, q1, q2, q3, q4, q5⟩ | q | q
      · obtain ⟨tk, tb, tl, td, tr⟩ := t
        simp only at hk q1 q2 q3 q4 q5 hg
        subst hk q3 q4 q5
        unfold litT
        rw [hg]
        congr 1
        have : (UInt8.ofNat tb.toNat).toNat = tb.toNat := by rw [UInt8.toNat_ofNat']; omega
        rw [this]; omega
      · omega
      · omega
    · rw [if_neg hk] at he hb
      by_cases hc : copyE (E.s.take st.at_).length t.len (useD st.r t) E.win = 0
      · rw [if_neg (by omega)] at he hb
        obtain ⟨z1, z2, z3, z4, z5, z6, z7⟩ := copyE_zero hc
        rw [hlen] at z7
        have hp := apply_prefix _ _ _ _ he
        rw [hb] at hp
        have hpl := hp.length_le
        rw [cpy_length, hlen] at hpl
        have hgs : ∀ j, j < t.len.toNat → E.s.getD (st.at_ + j) 0 = E.s.getD (st.at_ - (useD st.r t).toNat + j) 0 := fun j hj => by
          have h1 := cpy_get (useD st.r t).toNat (by omega) t.len.toNat (E.s.take st.at_) (by omega) j hj
          rw [hlen] at h1
          rw [prefix_getD hp (by rw [cpy_length, hlen]; omega), prefix_getD hp (by rw [cpy_length, hlen]; omega)]
          exact h1
        have hshr : t.len.toNat ≤ shr E st.at_ (useD st.r t) := shr_most ⟨by omega, by omega, by omega⟩ (by omega) (by omega) hgs
        rcases ho with q | ⟨q1, q2, q3, q4, q5, q6, q7⟩ | ⟨q1, q2, q3, q4, q5, q6, q7⟩
        · omega
        · have e1 : useD st.r t = t.dist := by
            unfold useD
            rw [if_pos hok, if_neg hk, if_pos q1]
          rw [e1] at hshr
          refine fin (.inr (.inr ⟨t.len.toNat, t.dist.toNat, by omega, by rw [show ((t.dist.toNat : Nat) : Int) = t.dist by omega]; exact hshr, ?_⟩)) (by omega)
          obtain ⟨tk, tb, tl, td, tr⟩ := t
          simp only at *
          subst q1 q4 q5
          unfold copyT
          congr 1 <;> omega
        · have e1 : useD st.r t = st.r.get t.rep := by
            unfold useD
            rw [if_pos hok, if_neg hk, if_neg (by omega)]
          rw [e1] at hshr
          refine fin (.inr (.inl ⟨t.len.toNat, t.rep.toNat, by omega, by omega, by rw [show ((t.rep.toNat : Nat) : Int) = t.rep by omega]; exact hshr, ?_⟩)) (by omega)
          obtain ⟨tk, tb, tl, td, tr⟩ := t
          simp only at *
          subst q1 q4 q5
          unfold repT
          congr 1 <;> omega
      · rw [if_pos hc] at he
        exact absurd he hc
end Go.Proofs.Ytndkgjoaljcijaa
