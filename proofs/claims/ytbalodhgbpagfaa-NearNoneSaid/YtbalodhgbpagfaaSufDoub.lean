/- Package suffix: doubled: by a walk. -/
import Derived.Test.YtbalodhgbpagfaaSufCount
import Derived.Test.YtbalodhgbpagfaaBytes
set_option linter.unusedSimpArgs false
set_option linter.unusedVariables false
set_option maxRecDepth 100000
namespace Go.Proofs.Ytbalodhgbpagfaa
open Go.RowKit

/-- The ranks, in a variable of their own. -/
structure RkW (w : World) (br gr : Nat) (n : Nat) (rks : List Nat) : Prop where
  box : Blk w br 35 #[.slice (some ⟨gr, 0, none⟩) n n]
  row : BlkI w gr (nz rks)
  len : rks.length = n
theorem RkW.below {w w' : World} {br gr n B : Nat} {rks : List Nat} (h : RkW w br gr n rks) (hb : Below B w w') (h1 : br < B) (h2 : gr < B) : RkW w' br gr n rks := ⟨h.box.below hb h1, h.row.below' hb h2, h.len⟩
set_option maxHeartbeats 4000000 in
theorem p_dfirst {w : World} {br gr n : Nat} {rks : List Nat} (h : RkW w br gr n rks) (p : Nat) (hp : p < n) (hn : n ≤ 1000000000) :
    Calls Try.prog 29 #[.int .i64 p, .pointer (some ⟨br, 0, none⟩)] w fun e w' => e = .returned (.int .i64 ((rks.getD p 0 : Nat) : Int)) ∧ w = w' := by
  have c1 := Blk.cell h.box 0
  have c2 := h.row.atN p (by rw [h.len]; exact hp)
  have p1 : (p : Int) < (n : Int) := by omega
  generalize rks.getD p 0 = y at *
  clear h
  go_enter Try.func29, Try.ntmps29
  go_wp2
  go_ret
  exact ⟨rfl, rfl⟩
set_option maxHeartbeats 4000000 in
theorem p_dinit {w : World} {br gr n : Nat} {rks : List Nat} (h : RkW w br gr n rks) (p : Nat) (hp : p < n) (hn : n ≤ 1000000000) :
    Calls Try.prog 27 #[.int .i64 p, .pointer (some ⟨br, 0, none⟩)] w fun e w' => e = .returned (.int .i64 ((rks.getD p 0 : Nat) : Int)) ∧ w = w' := by
  have c1 := Blk.cell h.box 0
  have c2 := h.row.atN p (by rw [h.len]; exact hp)
  have p1 : (p : Int) < (n : Int) := by omega
  generalize rks.getD p 0 = y at *
  clear h
  go_enter Try.func27, Try.ntmps27
  go_wp2
  go_ret
  exact ⟨rfl, rfl⟩
def secN (n k : Nat) (rks : List Nat) (p : Nat) : Nat := if n ≤ p + k then 0 else rks.getD (p + k) 0
set_option maxHeartbeats 4000000 in
theorem p_dsecond {w : World} {br gr bs bn n k : Nat} {rks : List Nat} (h : RkW w br gr n rks) (hs : Blk w bs 3 #[.int .i64 k]) (hnn : Blk w bn 3 #[.int .i64 n]) (p : Nat) (hp : p < n) (hn : n ≤ 1000000000) (hk : k ≤ 1000000000) :
    Calls Try.prog 28 #[.int .i64 p, .pointer (some ⟨bs, 0, none⟩), .pointer (some ⟨bn, 0, none⟩), .pointer (some ⟨br, 0, none⟩)] w fun e w' => e = .returned (.int .i64 ((secN n k rks p : Nat) : Int)) ∧ w = w' := by
  have c1 := Blk.cell h.box 0
  have c3 := Blk.cell hs 0
  have c4 := Blk.cell hnn 0
  have e1 : IntKind.i64.wrap ((n : Int) - (p : Int)) = (n : Int) - (p : Int) := Go.IntWalk.i64_in _ (by omega)
  have e2 : IntKind.i64.wrap ((n : Int) - (p : Int) - 1) = (n : Int) - (p : Int) - 1 := Go.IntWalk.i64_in _ (by omega)
  by_cases q : n ≤ p + k
  · have b1 : decide ((n : Int) - (p : Int) - 1 < (k : Int)) = true := decide_eq_true (by omega)
    have HR : Hid (secN n k rks p = 0) := Lib.hid (if_pos q)
    clear h hs hnn q
    go_enter Try.func28, Try.ntmps28
    go_wp2
    go_ret
    exact ⟨by rw [HR.out]; rfl, rfl⟩
  · have b1 : decide ((n : Int) - (p : Int) - 1 < (k : Int)) = false := decide_eq_false (by omega)
    have HR : Hid (secN n k rks p = rks.getD (p + k) 0) := Lib.hid (if_neg q)
    have c2 := h.row.atN (p + k) (by rw [h.len]; omega)
    obtain ⟨z, hz⟩ : ∃ z, z = p + k := ⟨_, rfl⟩
    rw [← hz] at c2 HR
    generalize rks.getD z 0 = y at *
    have e3 : IntKind.i64.wrap ((p : Int) + (k : Int)) = (z : Int) := by rw [show (p : Int) + (k : Int) = z by omega]; exact Go.IntWalk.i64_in _ (by omega)
    have z1 : (z : Int) < (n : Int) := by omega
    have z0 : 0 ≤ (z : Int) := by omega
    clear h hs hnn q hz
    go_enter Try.func28, Try.ntmps28
    go_wp2
    go_ret
    exact ⟨by rw [HR.out]; rfl, rfl⟩
def codesB (s : List UInt8) : List Nat := s.map UInt8.toNat
theorem codesB_len (s : List UInt8) : (codesB s).length = s.length := by simp [codesB]
theorem codesB_get (s : List UInt8) {i : Nat} (h : i < s.length) : (codesB s).getD i 0 = (s.getD i 0).toNat := by
  rw [getD_get _ _ (by rw [codesB_len]; exact h), getD_get _ _ h]
  simp [codesB]
theorem codesB_le (s : List UInt8) : ∀ x ∈ codesB s, x ≤ 255 := fun x hx => by
  obtain ⟨b, _, rfl⟩ := List.mem_map.1 hx
  have := UInt8.toNat_lt b
  omega
structure DW (w wr : World) (s : List UInt8) (ga gr br bn : Nat) (a rks : List Nat) : Prop where
  nb : Blk wr bn 3 #[.int .i64 s.length]
  rk : RkW wr br gr s.length rks
  ar : BlkI wr ga (nz a)
  al : a.length = s.length
  ne : ga ≠ gr ∧ ga ≠ br ∧ ga ≠ bn ∧ gr ≠ br ∧ gr ≠ bn ∧ br ≠ bn
  lo : w.heap.size ≤ ga ∧ w.heap.size ≤ gr ∧ w.heap.size ≤ br ∧ w.heap.size ≤ bn
  hb : Below w.heap.size w wr
section
variable {w wr w' : World} {s : List UInt8} {ga gr br bn : Nat} {a rks : List Nat}
theorem DW.below (h : DW w wr s ga gr br bn a rks) (hb : Below wr.heap.size wr w') : DW w w' s ga gr br bn a rks :=
  ⟨h.nb.below hb h.nb.lt, h.rk.below hb h.rk.box.lt h.rk.row.lt', h.ar.below' hb h.ar.lt', h.al, h.ne, h.lo, bl_then h.hb h.hb.size hb⟩
theorem DW.drew (h : DW w wr s ga gr br bn a rks) : DW w wr.drew s ga gr br bn a rks := h.below (Below.refl wr.heap.size wr).drew
theorem DW.newA (h : DW w wr s ga gr br bn a rks) {ga' : Nat} {a' : List Nat} (hb : Below wr.heap.size wr w') (hg : wr.heap.size ≤ ga') (hr : BlkI w' ga' (nz a')) (hl : a'.length = s.length) : DW w w' s ga' gr br bn a' rks := by
  have l1 := h.rk.row.lt'
  have l2 := h.rk.box.lt
  have l3 := h.nb.lt
  have l4 := h.hb.size
  obtain ⟨n1, n2, n3, n4, n5, n6⟩ := h.ne
  obtain ⟨m1, m2, m3, m4⟩ := h.lo
  exact ⟨h.nb.below hb l3, h.rk.below hb l2 l1, hr, hl, by omega, by omega, bl_then h.hb h.hb.size hb⟩
theorem DW.setA (h : DW w wr s ga gr br bn a rks) (i x : Nat) : DW w (wr.setCell ⟨ga, i, none⟩ (.int .i64 (x : Int))) s ga gr br bn (a.set i x) rks := by
  obtain ⟨n1, n2, n3, n4, n5, n6⟩ := h.ne
  exact ⟨h.nb.far (p := ⟨ga, i, none⟩) (fun e => n3 e.symm) _, ⟨h.rk.box.far (p := ⟨ga, i, none⟩) (fun e => n2 e.symm) _, h.rk.row.other (p := ⟨ga, i, none⟩) (fun e => n1 e.symm) _, h.rk.len⟩, h.ar.setN i x, by rw [List.length_set]; exact h.al, h.ne, h.lo, h.hb.setCell h.lo.1 _⟩
theorem DW.setR (h : DW w wr s ga gr br bn a rks) (i x : Nat) : DW w (wr.setCell ⟨gr, i, none⟩ (.int .i64 (x : Int))) s ga gr br bn a (rks.set i x) := by
  obtain ⟨n1, n2, n3, n4, n5, n6⟩ := h.ne
  exact ⟨h.nb.far (p := ⟨gr, i, none⟩) (fun e => n5 e.symm) _, ⟨h.rk.box.far (p := ⟨gr, i, none⟩) (fun e => n4 e.symm) _, h.rk.row.setN i x, by rw [List.length_set]; exact h.rk.len⟩, h.ar.other (p := ⟨gr, i, none⟩) n1 _, h.al, h.ne, h.lo, h.hb.setCell h.lo.2.1 _⟩
end
def upTo (i j : Nat) : Nat := if j < i then j else 0
def codeTo (t : List Nat) (i j : Nat) : Nat := if j < i then t.getD j 0 + 1 else 0
theorem upTo_step (m i : Nat) : (tab m (upTo i)).set i i = tab m (upTo (i + 1)) := by
  rw [tab_set]
  refine tab_ext (fun j hj => ?_)
  unfold upd upTo
  by_cases q : j = i
  · subst q; rw [if_pos rfl, if_pos (by omega)]
  · rw [if_neg q]
    by_cases q2 : j < i
    · rw [if_pos q2, if_pos (by omega)]
    · rw [if_neg q2, if_neg (by omega)]
theorem codeTo_step (t : List Nat) (m i : Nat) : (tab m (codeTo t i)).set i (t.getD i 0 + 1) = tab m (codeTo t (i + 1)) := by
  rw [tab_set]
  refine tab_ext (fun j hj => ?_)
  unfold upd codeTo
  by_cases q : j = i
  · subst q; rw [if_pos rfl, if_pos (by omega)]
  · rw [if_neg q]
    by_cases q2 : j < i
    · rw [if_pos q2, if_pos (by omega)]
    · rw [if_neg q2, if_neg (by omega)]
theorem tab_up (m : Nat) : tab m (upTo m) = List.range m := by
  unfold tab
  conv => rhs; rw [← List.map_id (List.range m)]
  exact List.map_congr_left (fun j hj => if_pos (List.mem_range.1 hj))
theorem DW.start (w : World) (s : List UInt8) : DW w ((((w.alloc (.cells #[.int .i64 s.length] 3)).alloc (.cells (ivals (List.replicate s.length 0)).toArray 3)).alloc (.cells (ivals (List.replicate s.length 0)).toArray 3)).alloc (.cells #[.slice (some ⟨w.heap.size + 1 + 1, 0, none⟩) s.length s.length] 35)) s (w.heap.size + 1) (w.heap.size + 1 + 1) (w.heap.size + 1 + 1 + 1) w.heap.size (tab s.length (upTo 0)) (tab s.length (codeTo (codesB s) 0)) := by
  have z : ∀ f : Nat → Nat, (∀ j, f j = 0) → tab s.length f = List.replicate s.length 0 := fun f hf => by rw [tab_zero]; exact tab_ext (fun j _ => hf j)
  rw [z (upTo 0) (fun j => by unfold upTo; rw [if_neg (by omega)]), z (codeTo (codesB s) 0) (fun j => by unfold codeTo; rw [if_neg (by omega)])]
  have h1 := BlkI.madeN (w.alloc (.cells #[.int .i64 s.length] 3)) s.length
  have h2 := BlkI.madeN ((w.alloc (.cells #[.int .i64 s.length] 3)).alloc (.cells (ivals (List.replicate s.length 0)).toArray 3)) s.length
  have h3 := Blk.new (((w.alloc (.cells #[.int .i64 s.length] 3)).alloc (.cells (ivals (List.replicate s.length 0)).toArray 3)).alloc (.cells (ivals (List.replicate s.length 0)).toArray 3)) 35 #[.slice (some ⟨w.heap.size + 1 + 1, 0, none⟩) s.length s.length]
  rw [World.size_alloc] at h1
  rw [World.size_alloc, World.size_alloc] at h2
  rw [World.size_alloc, World.size_alloc, World.size_alloc] at h3
  refine ⟨(((Blk.new w _ _).alloc _).alloc _).alloc _, ⟨h3, h2.alloc' _, List.length_replicate⟩, (h1.alloc' _).alloc' _, List.length_replicate, by omega, by omega, bl_alloc (bl_alloc (bl_alloc (bl_alloc (Below.refl _ _) _) _) _) _⟩
/-- One round of the sorting. -/
structure DoubI (t : List Nat) (k many : Nat) (a rks : List Nat) : Prop where
  rank : RankOk t k many (fun p => rks.getD p 0)
  perm : a.Perm (List.range t.length)
  up : a.Pairwise (fun x y => rks.getD x 0 ≤ rks.getD y 0)
  k1 : 1 ≤ k
  many : many ≤ 300 + t.length
theorem secN_eq (s : List UInt8) (k : Nat) (rks : List Nat) (p : Nat) : secN s.length k rks p = secR (codesB s) k (fun p => rks.getD p 0) p := by
  unfold secN secR
  rw [codesB_len]
section
variable {w wr w' : World} {s : List UInt8} {ga gr br bn : Nat} {a rks : List Nat}
theorem DW.newR (h : DW w wr s ga gr br bn a rks) {gn : Nat} {ys : List Nat} (hr : BlkI wr gn (nz ys)) (hl : ys.length = s.length) (hn : gn ≠ ga ∧ gn ≠ br ∧ gn ≠ bn) (hlo : w.heap.size ≤ gn) : DW w (wr.setCell ⟨br, 0, none⟩ (.slice (some ⟨gn, 0, none⟩) s.length s.length)) s ga gn br bn a ys := by
  obtain ⟨n1, n2, n3, n4, n5, n6⟩ := h.ne
  refine ⟨h.nb.far (p := ⟨br, 0, none⟩) (fun e => n6 e.symm) _, ⟨h.rk.box.set_ 0 _, hr.other (p := ⟨br, 0, none⟩) hn.2.1 _, hl⟩, h.ar.other (p := ⟨br, 0, none⟩) n2 _, h.al, by omega, ?_, h.hb.setCell h.lo.2.2.1 _⟩
  have := h.lo
  omega
end
structure NextI (F G : Nat → Nat) (a : List Nat) (n i : Nat) (ys : List Nat) : Prop where
  len : ys.length = n
  val : ∀ x, x < i → ys.getD (a.getD x 0) 0 = cntM F G a (x + 1) - 1
theorem NextI.start (F G : Nat → Nat) (a : List Nat) (n : Nat) : NextI F G a n 0 (List.replicate n 0) := ⟨List.length_replicate, fun x h => by omega⟩
theorem NextI.step {F G : Nat → Nat} {a ys : List Nat} {n i : Nat} (h : NextI F G a n i ys) (hn : a.Nodup) (hi : i < a.length) (hp : a.getD i 0 < n) : NextI F G a n (i + 1) (ys.set (a.getD i 0) (cntM F G a (i + 1) - 1)) := by
  refine ⟨by rw [List.length_set]; exact h.len, fun x hx => ?_⟩
  by_cases q : x = i
  · subst q
    rw [getD_set_same _ _ _ (by rw [h.len]; exact hp)]
  · rw [getD_set_other _ _ _ (fun e => q (by
      rw [getD_get _ _ (by omega), getD_get _ _ hi] at e
      exact (List.getElem_inj hn).1 e))]
    exact h.val x (by omega)
def DoubW (w wr : World) (s : List UInt8) (br bn : Nat) (v4 v7 v8 : Value) : Prop := ∃ k many a rks ga gr bs, v4 = .slice (some ⟨ga, 0, none⟩) s.length s.length ∧ v7 = .int .i64 (many : Nat) ∧ v8 = .pointer (some ⟨bs, 0, none⟩) ∧ Blk wr bs 3 #[.int .i64 (k : Nat)] ∧ (bs ≠ br ∧ bs ≠ bn ∧ bs ≠ ga ∧ bs ≠ gr) ∧ w.heap.size ≤ bs ∧ DW w wr s ga gr br bn a rks ∧ DoubI (codesB s) k many a rks ∧ k ≤ 2 * s.length + 1
def stepOf (wr : World) : Value → Nat
  | .pointer (some a) => match wr.cell? a with
    | some (.int _ z) => z.toNat
    | _ => 0
  | _ => 0
theorem stepOf_blk {wr : World} {bs k : Nat} (h : Blk wr bs 3 #[.int .i64 (k : Nat)]) : stepOf wr (.pointer (some ⟨bs, 0, none⟩)) = k := by
  have := Blk.cell h 0
  simp [stepOf, this]
theorem doub_start {t : List Nat} {rk0 : List Nat} (h : RankOk t 1 257 (fun p => rk0.getD p 0)) : DoubI t 1 257 (cntS 257 (fun p => rk0.getD p 0) (List.range t.length)) rk0 := by
  refine ⟨h, cntS_all (fun p hp => (h.bd p (List.mem_range.1 hp)).2), ?_, Nat.le_refl _, by omega⟩
  exact (cntS_sorted (R := fun _ _ => True) (List.pairwise_of_forall (fun _ _ => trivial))).imp (fun h => by omega)
set_option maxHeartbeats 4000000 in
theorem p_doubled (s : List UInt8) (hl : s.length ≤ 10000) (w : World) :
    Calls Try.prog 18 #[.string (str s)] w fun e w' => ∃ a, IsSA (codesB s) a ∧ GivesN w a e w' := by
  have hsz := str_size s
  have hmk := fun w : World => run_zerosB w s.length (by omega)
  have hmf : ∀ (fn : Fn) (first cap : Array Value) (w : World), (Instr.makeFunc fn first cap).run Try.prog w = .ok (.func fn first cap) w := fun _ _ _ _ => rfl
  have HST := Lib.hid (DW.start w s)
  have HSZ := Lib.hid hsz
  go_enter Try.func18, Try.ntmps18
  go_wp2_with fail
  go_loopw [22] (fun v22 wr => ∃ i : Nat, i ≤ s.length ∧ v22 = .int .i64 i ∧ DW w wr s (w.heap.size + 1) (w.heap.size + 1 + 1) (w.heap.size + 1 + 1 + 1) w.heap.size (tab s.length (upTo i)) (tab s.length (codeTo (codesB s) i))) (fun v22 _ => s.length - (intOf v22).toNat)
  case atStart => exact ⟨0, Nat.zero_le _, rfl, HST.out⟩
  case round =>
    obtain ⟨i, hi, rfl, hD⟩ := hrel
    by_cases hil : i < s.length
    · have hi1 : (i : Int) < (s.length : Int) := by omega
      have c1 := hD.ar.atN i (by rw [tab_length]; exact hil)
      have f1_ := hD.ar.frozen' i
      have hD1 := hD.setA i i
      rw [upTo_step] at hD1
      have hcg := codesB_get s hil
      have hD2 := hD1.setR i ((codesB s).getD i 0 + 1)
      rw [codeTo_step, hcg] at hD2
      push_cast at hD2
      have HD2 := Lib.hid hD2
      clear hD2
      have c2 := Blk.cell hD1.rk.box 0
      have c3 := hD1.rk.row.atN i (by rw [tab_length]; exact hil)
      have f3_ := hD1.rk.row.frozen' i
      have hby := run_byte s (i : Int) (by omega) (by omega)
      rw [Int.toNat_natCast] at hby
      have hyl := UInt8.toNat_lt (s.getD i 0)
      generalize (s.getD i 0).toNat = y at *
      generalize (tab s.length (upTo i)).getD i 0 = y1 at *
      generalize (tab s.length (codeTo (codesB s) i)).getD i 0 = y2 at *
      have e1 : IntKind.i64.wrap (y : Int) = (y : Int) := Go.IntWalk.i64_in _ (by omega)
      have e2 : IntKind.i64.wrap ((y : Int) + 1) = (y : Int) + 1 := Go.IntWalk.i64_in _ (by omega)
      have e4 : IntKind.i64.wrap ((i : Int) + 1) = (i : Int) + 1 := Go.IntWalk.i64_in _ (by omega)
      have l1 := hD.ar.lt'
      have l2 : w.heap.size + 1 + 1 < (wr.setCell ⟨w.heap.size + 1, i, none⟩ (.int .i64 (i : Int))).heap.size := hD1.rk.row.lt'
      have l3 : w.heap.size + 1 + 1 + 1 < (wr.setCell ⟨w.heap.size + 1, i, none⟩ (.int .i64 (i : Int))).heap.size := hD1.rk.box.lt
      clear hD hD1 hcg hsz
      go_upto_region 8 with (fail)
      generalize wr.setCell ⟨w.heap.size + 1, i, none⟩ (.int .i64 (i : Int)) = wr1 at *
      clear c1 f1_ l1
      go_region
      all_goals go_wp2_with fail
      all_goals
        go_roundw
        case rel => exact ⟨i + 1, by omega, by go_num, HD2.out.drew⟩
        case measure => simp [intOf]; omega
    · obtain rfl : i = s.length := by omega
      rw [tab_up] at hD
      obtain ⟨wz, rfl⟩ : ∃ wz, wz = wr := ⟨_, rfl⟩
      obtain ⟨rk0, hrk0⟩ : ∃ rk0, rk0 = tab s.length (codeTo (codesB s) s.length) := ⟨_, rfl⟩
      rw [← hrk0] at hD
      have hrkg : ∀ p, p < s.length → rk0.getD p 0 = (codesB s).getD p 0 + 1 := fun p hp => by
        rw [hrk0, tab_get _ hp]
        exact if_pos hp
      have hfst := rank_first (codesB s) (codesB_le s)
      have HR0 : Hid (RankOk (codesB s) 1 257 (fun p => rk0.getD p 0)) := Lib.hid (by
        have hh : ∀ p, p < (codesB s).length → rk0.getD p 0 = (codesB s).getD p 0 + 1 := fun p hp => hrkg p (by rwa [codesB_len] at hp)
        exact ⟨fun p q hp hq => by rw [hh p hp, hh q hq]; exact hfst.lt p q hp hq, fun p q hp hq => by rw [hh p hp, hh q hq]; exact hfst.eq p q hp hq, fun p hp => by rw [hh p hp]; exact hfst.bd p hp⟩)
      have hcount := p_counted (some ⟨w.heap.size + 1, 0, none⟩) s.length (List.range s.length) 257 27 #[.pointer (some ⟨w.heap.size + 1 + 1 + 1, 0, none⟩)] (fun p => rk0.getD p 0) wz (fun _ _ => by kernel_rfl) hD.ar.readsN (by rw [List.length_range]; omega) (by omega) (fun p hp => (HR0.out.bd p (by rw [codesB_len]; exact List.mem_range.1 hp)).2)
        (fun p hp w' hb => p_dinit (hD.rk.below hb hD.rk.box.lt hD.rk.row.lt') p (List.mem_range.1 hp) (by omega))
      rw [List.length_range] at hcount
      have HD := Lib.hid hD
      clear hD hfst hrkg hrk0 hil hi
      go_wp2_with fail
      refine hcount.mono ?_
      rintro e w1 ⟨ga, hga, rfl, hgr, hb1⟩
      have hcl : (cntS 257 (fun p => rk0.getD p 0) (List.range s.length)).length = s.length := by
        rw [(cntS_all (fun p hp => (HR0.out.bd p (by rw [codesB_len]; exact List.mem_range.1 hp)).2)).length_eq, List.length_range]
      have hD1 := HD.out.newA hb1 hga hgr hcl
      have HDI := Lib.hid (doub_start HR0.out)
      rw [codesB_len] at HDI
      rw [hcl]
      obtain ⟨a0, ha0⟩ : ∃ a0, a0 = cntS 257 (fun p => rk0.getD p 0) (List.range s.length) := ⟨_, rfl⟩
      rw [← ha0] at hD1 HDI
      have HS : Hid (DoubW w (w1.alloc (.cells #[.int .i64 1] 3)) s (w.heap.size + 1 + 1 + 1) w.heap.size (.slice (some ⟨ga, 0, none⟩) s.length s.length) (.int .i64 257) (.pointer (some ⟨w1.heap.size, 0, none⟩))) := Lib.hid (by
        have l1 := hD1.rk.row.lt'
        have l2 := hD1.rk.box.lt
        have l3 := hD1.nb.lt
        have l4 := hD1.ar.lt'
        exact ⟨1, 257, a0, rk0, ga, _, w1.heap.size, rfl, rfl, rfl, Blk.new w1 _ _, by omega, hD1.hb.size, hD1.below (bl_alloc (Below.refl w1.heap.size w1) _), HDI.out, by omega⟩)
      clear hD1 hcl hgr hb1 hcount HDI ha0 hga
      go_wp2_with fail
      go_loopw [4, 7, 8] (fun v4 v7 v8 wr => DoubW w wr s (w.heap.size + 1 + 1 + 1) w.heap.size v4 v7 v8) (fun _ _ v8 wr => 2 * s.length + 2 - stepOf wr v8)
      case atStart => exact HS.out
      case round =>
        obtain ⟨k, many, a, rks, ga, gr, bs, rfl, rfl, rfl, hbs, hne, hlo, hD, hI, hk⟩ := hrel
        have hI1 := hI.rank
        have hlen := codesB_len s
        have hal := hD.al
        have hrk0 := hD.rk
        have hbd2 : ∀ p ∈ a, p < s.length := fun p hp => by rw [← hlen]; exact List.mem_range.1 (hI.perm.mem_iff.1 hp)
        have hsb : ∀ p ∈ a, secN s.length k rks p < many := fun p hp => by rw [secN_eq]; exact secR_bd hI1 p (by rw [hlen]; exact hbd2 p hp)
        have hkk := hI.k1
        have hmm := hI.many
        rw [hlen] at hmm
        have cs := Blk.cell hbs 0
        have cn := Blk.cell hD.nb 0
        have ls := hbs.lt
        have ln := hD.nb.lt
        have HI := Lib.hid hI
        have HD := Lib.hid hD
        have HBS := Lib.hid hbs
        have HNE := Lib.hid (And.intro hne hlo)
        have hfs : (fun p => secN s.length k rks p) = secR (codesB s) k (fun p => rks.getD p 0) := funext fun p => secN_eq s k rks p
        have HFS := Lib.hid hfs
        clear hne hlo hfs
        have key : ∀ (ga' : Nat) (a' : List Nat) (wv : World), DW w wv s ga' gr (w.heap.size + 1 + 1 + 1) w.heap.size a' rks → Below wr.heap.size wr wv → a'.Perm (List.range (codesB s).length) → a'.Pairwise (pairLe (fun p => rks.getD p 0) (secR (codesB s) k (fun p => rks.getD p 0))) → True := fun _ _ _ _ _ _ _ => trivial
        have hab : (∃ (ga' : Nat) (a' : List Nat), k < s.length ∧ True) ∨ ¬ k < s.length := by
          by_cases q : k < s.length
          · exact .inl ⟨0, [], q, trivial⟩
          · exact .inr q
        by_cases hks : k < s.length
        · have b1 : decide ((k : Int) < (s.length : Int)) = true := decide_eq_true (by omega)
          have b1n : decide (k < s.length) = true := decide_eq_true hks
          have hc1 := p_counted (some ⟨ga, 0, none⟩) s.length a many 28 #[.pointer (some ⟨bs, 0, none⟩), .pointer (some ⟨w.heap.size, 0, none⟩), .pointer (some ⟨w.heap.size + 1 + 1 + 1, 0, none⟩)] (secN s.length k rks) wr (fun _ _ => by kernel_rfl) hD.ar.readsN (by omega) (by omega) hsb
            (fun p hp w' hb => p_dsecond (hrk0.below hb hrk0.box.lt hrk0.row.lt') (hbs.below hb hbs.lt) (hD.nb.below hb hD.nb.lt) p (hbd2 p hp) (by omega) (by omega))
          rw [hal] at hc1
          clear hD hI hI1 hrk0 hbs
          go_wp2_with fail
          refine hc1.mono ?_
          rintro e w2 ⟨g2, hg2, rfl, hr2, hb2⟩
          have hl1 : (cntS many (secN s.length k rks) a).length = s.length := by rw [(cntS_all hsb).length_eq]; exact hal
          have hD2 := HD.out.newA hb2 hg2 hr2 hl1
          have hm1 : ∀ p ∈ cntS many (secN s.length k rks) a, p < s.length := fun p hp => hbd2 p ((cntS_mem hsb p).1 hp)
          have hsb2 : ∀ p ∈ cntS many (secN s.length k rks) a, rks.getD p 0 < many := fun p hp => (HI.out.rank.bd p (by rw [hlen]; exact hm1 p hp)).2
          have hc2 := p_counted (some ⟨g2, 0, none⟩) s.length (cntS many (secN s.length k rks) a) many 29 #[.pointer (some ⟨w.heap.size + 1 + 1 + 1, 0, none⟩)] (fun p => rks.getD p 0) w2 (fun _ _ => by kernel_rfl) hD2.ar.readsN (by omega) (by omega) hsb2
            (fun p hp w' hb => p_dfirst (hD2.rk.below hb hD2.rk.box.lt hD2.rk.row.lt') p (hm1 p hp) (by omega))
          rw [hl1] at hc2
          rw [hl1]
          have cs2 := Blk.cell (HBS.out.below hb2 ls) 0
          have hbs2 := HBS.out.below hb2 ls
          clear hr2 hc1 hb2
          go_wp2_with fail
          refine hc2.mono ?_
          rintro e w3 ⟨g3, hg3, rfl, hr3, hb3⟩
          have hl2 : (cntS many (fun p => rks.getD p 0) (cntS many (secN s.length k rks) a)).length = s.length := by rw [(cntS_all hsb2).length_eq]; exact hl1
          have hD3 := hD2.newA hb3 hg3 hr3 hl2
          have hbs3 := hbs2.below hb3 hbs2.lt
          have HSP := Lib.hid (sort_pairs HI.out.rank HI.out.perm)
          rw [← HFS.out] at HSP
          rw [hl2]
          obtain ⟨a', ha'⟩ : ∃ a', a' = cntS many (fun p => rks.getD p 0) (cntS many (secN s.length k rks) a) := ⟨_, rfl⟩
          rw [← ha'] at hD3
          have HPP : Hid (a'.Perm (List.range (codesB s).length) ∧ a'.Pairwise (pairLe (fun p => rks.getD p 0) (secR (codesB s) k (fun p => rks.getD p 0)))) := Lib.hid (by
            have := HSP.out
            rw [← HFS.out]
            rw [ha']
            exact this)
          clear hr3 hc2 hb3 hl2 ha' hl1 hD2 hm1 hsb2 hbs2 cs2 cs cn HSP hbd2 hsb
          have hn3 : a'.Nodup := HPP.out.1.nodup_iff.2 List.nodup_range
          have ha3 : a'.length = s.length := hD3.al
          have hm3 : ∀ i, i < s.length → a'.getD i 0 < s.length := fun i hi => by
            rw [getD_get _ _ (by omega), ← hlen]
            exact List.mem_range.1 (HPP.out.1.mem_iff.1 (List.getElem_mem _))
          have HM3 := Lib.hid (And.intro hn3 (And.intro ha3 hm3))
          have c3 := Blk.cell hD3.nb 0
          have s3 := Blk.cell hbs3 0
          have l3a := hD3.nb.lt
          have l3b := hbs3.lt
          have HD3 := Lib.hid hD3
          have HBS3 := Lib.hid hbs3
          have hgn : g3 < w3.heap.size ∧ gr < w3.heap.size ∧ w.heap.size + 1 + 1 + 1 < w3.heap.size ∧ w.heap.size < w3.heap.size ∧ bs < w3.heap.size := ⟨hD3.ar.lt', hD3.rk.row.lt', hD3.rk.box.lt, l3a, l3b⟩
          have HGN := Lib.hid hgn
          clear hD3 hbs3 hn3 ha3 hm3 hgn
          go_wp2_with fail
          go_loopw [7, 60] (fun v7 v60 wr => ∃ (i : Nat) (ys : List Nat), i ≤ s.length ∧ v60 = .int .i64 i ∧ v7 = .int .i64 (cntM (fun p => rks.getD p 0) (secN s.length k rks) a' i : Nat) ∧ BlkI wr w3.heap.size (nz ys) ∧ NextI (fun p => rks.getD p 0) (secN s.length k rks) a' s.length i ys ∧ DW w wr s g3 gr (w.heap.size + 1 + 1 + 1) w.heap.size a' rks ∧ Blk wr bs 3 #[.int .i64 (k : Nat)]) (fun _ v60 _ => s.length - (intOf v60).toNat)
          case atStart => exact ⟨0, _, Nat.zero_le _, rfl, rfl, BlkI.madeN w3 s.length, NextI.start _ _ _ _, HD3.out.below (bl_alloc (Below.refl w3.heap.size w3) _), HBS3.out.alloc _⟩
          case round =>
            obtain ⟨i, ys, hi, rfl, rfl, hg, hN, hD, hbs⟩ := hrel
            by_cases hil : i < s.length
            · have hi1 : (i : Int) < (s.length : Int) := by omega
              have c4 := hD.ar.atN i (by rw [HM3.out.2.1]; exact hil)
              have hp := HM3.out.2.2 i hil
              have hN2 := hN.step HM3.out.1 (by rw [HM3.out.2.1]; exact hil) hp
              have hcs := cntM_succ (fun p => rks.getD p 0) (secN s.length k rks) a' i
              have hc2 := cntM_two (fun p => rks.getD p 0) (secN s.length k rks) a' i
              have hcm := (cntM_mono (fun p => rks.getD p 0) (secN s.length k rks) a' 0 (i + 1)).2
              rw [show cntM (fun p => rks.getD p 0) (secN s.length k rks) a' 0 = 1 from rfl, Nat.zero_add] at hcm
              have hfp := fun w' hb => p_dfirst (w := w') (hD.rk.below hb hD.rk.box.lt hD.rk.row.lt') (a'.getD i 0) hp (by omega)
              have hsp := fun w' hb => p_dsecond (w := w') (hD.rk.below hb hD.rk.box.lt hD.rk.row.lt') (hbs.below hb hbs.lt) (hD.nb.below hb hD.nb.lt) (a'.getD i 0) hp (by omega) (by omega)
              have c5 := hg.atN (a'.getD i 0) (by rw [hN.len]; exact hp)
              have f5 := hg.frozen' (a'.getD i 0)
              have g1 := hg.lt'
              have HN : Hid (∀ (wq : World) (hq : Below wr.heap.size wr wq) (z : Nat), BlkI (wq.setCell ⟨w3.heap.size, a'.getD i 0, none⟩ (.int .i64 (z : Int))) w3.heap.size (nz (ys.set (a'.getD i 0) z)) ∧ DW w (wq.setCell ⟨w3.heap.size, a'.getD i 0, none⟩ (.int .i64 (z : Int))) s g3 gr (w.heap.size + 1 + 1 + 1) w.heap.size a' rks ∧ Blk (wq.setCell ⟨w3.heap.size, a'.getD i 0, none⟩ (.int .i64 (z : Int))) bs 3 #[.int .i64 (k : Nat)]) := Lib.hid (fun wq hq z => by
                have hg5 := HGN.out
                have hlo := hD.lo
                have hD := hD.below hq
                refine ⟨(hg.below' hq hg.lt').setN _ _, ⟨hD.nb.far (p := ⟨w3.heap.size, _, none⟩) (by show w.heap.size ≠ w3.heap.size; omega) _, ⟨hD.rk.box.far (p := ⟨w3.heap.size, _, none⟩) (by show w.heap.size + 1 + 1 + 1 ≠ w3.heap.size; omega) _, hD.rk.row.other (p := ⟨w3.heap.size, _, none⟩) (by show gr ≠ w3.heap.size; omega) _, hD.rk.len⟩, hD.ar.other (p := ⟨w3.heap.size, _, none⟩) (by show g3 ≠ w3.heap.size; omega) _, hD.al, hD.ne, hD.lo, hD.hb.setCell (by show w.heap.size ≤ w3.heap.size; omega) _⟩, (hbs.below hq hbs.lt).far (p := ⟨w3.heap.size, _, none⟩) (by show bs ≠ w3.heap.size; omega) _⟩)
              have e4 : IntKind.i64.wrap ((i : Int) + 1) = (i : Int) + 1 := Go.IntWalk.i64_in _ (by omega)
              have hD0 := hD
              obtain ⟨z, hz⟩ : ∃ z, z = cntM (fun p => rks.getD p 0) (secN s.length k rks) a' (i + 1) - 1 := ⟨_, rfl⟩
              rw [← hz] at hN2
              have HN2 := Lib.hid hN2
              have hz2 : (cntM (fun p => rks.getD p 0) (secN s.length k rks) a' (i + 1) : Int) = (z : Int) + 1 := by omega
              have e5 : IntKind.i64.wrap ((cntM (fun p => rks.getD p 0) (secN s.length k rks) a' (i + 1) : Int) - 1) = (z : Int) := by rw [hz2, show (z : Int) + 1 - 1 = z by omega]; exact Go.IntWalk.i64_in _ (by omega)
              by_cases hi0 : i = 0
              · have b0 : ((i : Int) == 0) = true := by rw [beq_iff_eq]; omega
                have b0n : (i == 0) = true := by rw [beq_iff_eq]; exact hi0
                rw [if_pos (.inl hi0)] at hcs
                rw [hcs] at e5
                have HCS := Lib.hid hcs
                generalize cntM (fun p => rks.getD p 0) (secN s.length k rks) a' i = cm at *
                generalize a'.getD i 0 = p at *
                generalize ys.getD p 0 = y0 at *
                have e6 : IntKind.i64.wrap ((cm : Int) + 1) = (cm : Int) + 1 := Go.IntWalk.i64_in _ (by omega)
                have p1 : (p : Int) < (s.length : Int) := by omega
                rw [hcs, Nat.add_sub_cancel] at hz
                have e7 : IntKind.i64.wrap (cm : Int) = (z : Int) := by rw [hz]; exact Go.IntWalk.i64_in _ (by omega)
                clear e5
                have g2 := hD0.ar.lt'
                clear hD hD0 hg hN hN2 hfp hsp hcs hbs hz hz2 hi0
                go_upto_region 23 with (fail)
                go_quiet (fail)
                all_goals go_wp2_with fail
                all_goals
                  go_roundw
                  case rel => exact ⟨i + 1, _, by omega, by go_num, by rw [HCS.out]; rfl, (HN.out _ (bl_drewN (Below.refl _ _) _) z).1, HN2.out, (HN.out _ (bl_drewN (Below.refl _ _) _) z).2.1, (HN.out _ (bl_drewN (Below.refl _ _) _) z).2.2⟩
                  case measure => simp [intOf]; omega
              · obtain ⟨j, hj⟩ : ∃ j, i = j + 1 := ⟨i - 1, by omega⟩
                have b0 : ((i : Int) == 0) = false := by rw [beq_eq_false_iff_ne]; omega
                have b0n : (i == 0) = false := by rw [beq_eq_false_iff_ne]; exact hi0
                have hq := HM3.out.2.2 j (by omega)
                have c6 := hD.ar.atN j (by rw [HM3.out.2.1]; omega)
                have hfq := fun w' hb => p_dfirst (w := w') (hD.rk.below hb hD.rk.box.lt hD.rk.row.lt') (a'.getD j 0) hq (by omega)
                have hsq := fun w' hb => p_dsecond (w := w') (hD.rk.below hb hD.rk.box.lt hD.rk.row.lt') (hbs.below hb hbs.lt) (hD.nb.below hb hD.nb.lt) (a'.getD j 0) hq (by omega) (by omega)
                rw [show i - 1 = j by omega] at hcs
                have e8 : IntKind.i64.wrap ((i : Int) - 1) = (j : Int) := by rw [show (i : Int) - 1 = j by omega]; exact Go.IntWalk.i64_in _ (by omega)
                have j1 : (j : Int) < (s.length : Int) := by omega
                have g2 := hD0.ar.lt'
                have HCS := Lib.hid hcs
                generalize hcm1 : cntM (fun p => rks.getD p 0) (secN s.length k rks) a' (i + 1) = cm1 at *
                have HC1 := Lib.hid hcm1
                clear hcm1
                generalize cntM (fun p => rks.getD p 0) (secN s.length k rks) a' i = cm at *
                generalize a'.getD i 0 = p at *
                generalize a'.getD j 0 = q at *
                have HK : Hid (∀ w', Below wr.heap.size wr w' → w'.cell? ⟨g3, j, none⟩ = some (.int .i64 (q : Int)) ∧ Below wr.heap.size wr w') := Lib.hid fun w' hh => ⟨(hh.cell (p := ⟨g3, j, none⟩) g2).trans c6, hh⟩
                generalize ys.getD p 0 = y0 at *
                have p1 : (p : Int) < (s.length : Int) := by omega
                have q1 : (q : Int) < (s.length : Int) := by omega
                have hen3 : ∀ (args : Array Value) (w : World), (callFunc 29 args).run Try.prog w = .ok (.enter 29 args) w := fun _ _ => by kernel_rfl
                have hen2 : ∀ (args : Array Value) (w : World), (callFunc 28 args).run Try.prog w = .ok (.enter 28 args) w := fun _ _ => by kernel_rfl
                replace hcs : cm1 = if i = 0 ∨ rks.getD p 0 ≠ rks.getD q 0 ∨ secN s.length k rks p ≠ secN s.length k rks q then cm + 1 else cm := hcs
                by_cases hA : rks.getD p 0 = rks.getD q 0
                · by_cases hB : secN s.length k rks p = secN s.length k rks q
                  · rw [if_neg (by omega)] at hcs
                    rw [hA] at hfp
                    rw [hB] at hsp
                    generalize rks.getD q 0 = fq at *
                    generalize secN s.length k rks q = sq at *
                    have b1 : ((fq : Int) != (fq : Int)) = false := by simp
                    have b2 : ((sq : Int) != (sq : Int)) = false := by simp
                    have e9 : IntKind.i64.wrap ((cm : Int) - 1) = (z : Int) := by rw [← hcs]; exact e5
                    have HZ := Lib.hid (And.intro hcs hi)
                    clear hD hD0 hg hN hN2 hcs hbs hz hz2 hi0 hA hB e5 hj hi HK
                    have hfp2 : ∀ n, Calls Try.prog 29 #[.int .i64 (p : Int), .pointer (some ⟨w.heap.size + 1 + 1 + 1, 0, none⟩)] (wr.drewN n) fun e w' => e = .returned (.int .i64 (fq : Int)) ∧ w' = wr.drewN n := fun n => (hfp (wr.drewN n) (bl_drewN (Below.refl _ _) n)).mono fun e w' h => ⟨h.1, h.2.symm⟩
                    have hfq2 : ∀ n, Calls Try.prog 29 #[.int .i64 (q : Int), .pointer (some ⟨w.heap.size + 1 + 1 + 1, 0, none⟩)] (wr.drewN n) fun e w' => e = .returned (.int .i64 (fq : Int)) ∧ w' = wr.drewN n := fun n => (hfq (wr.drewN n) (bl_drewN (Below.refl _ _) n)).mono fun e w' h => ⟨h.1, h.2.symm⟩
                    have hsp2 : ∀ n, Calls Try.prog 28 #[.int .i64 (p : Int), .pointer (some ⟨bs, 0, none⟩), .pointer (some ⟨w.heap.size, 0, none⟩), .pointer (some ⟨w.heap.size + 1 + 1 + 1, 0, none⟩)] (wr.drewN n) fun e w' => e = .returned (.int .i64 (sq : Int)) ∧ w' = wr.drewN n := fun n => (hsp (wr.drewN n) (bl_drewN (Below.refl _ _) n)).mono fun e w' h => ⟨h.1, h.2.symm⟩
                    have hsq2 : ∀ n, Calls Try.prog 28 #[.int .i64 (q : Int), .pointer (some ⟨bs, 0, none⟩), .pointer (some ⟨w.heap.size, 0, none⟩), .pointer (some ⟨w.heap.size + 1 + 1 + 1, 0, none⟩)] (wr.drewN n) fun e w' => e = .returned (.int .i64 (sq : Int)) ∧ w' = wr.drewN n := fun n => (hsq (wr.drewN n) (bl_drewN (Below.refl _ _) n)).mono fun e w' h => ⟨h.1, h.2.symm⟩
                    clear hfp hfq hsp hsq
                    go_upto_region 23 with (fail)
                    go_quiet ((first | (go_at_call 29; with_reducible exact Calls.quiet_of_same (hfp2 _)) | (go_at_call 29; with_reducible exact Calls.quiet_of_same (hfq2 _)) | (go_at_call 28; with_reducible exact Calls.quiet_of_same (hsp2 _)) | (go_at_call 28; with_reducible exact Calls.quiet_of_same (hsq2 _))))
                    all_goals go_wp2_with fail
                    all_goals
                      go_roundw
                      case rel => exact ⟨i + 1, _, by have := HZ.out.2; omega, by go_num, by rw [HC1.out, HZ.out.1] <;> rfl, (HN.out _ (bl_drewN (Below.refl _ _) _) z).1, HN2.out, (HN.out _ (bl_drewN (Below.refl _ _) _) z).2.1, (HN.out _ (bl_drewN (Below.refl _ _) _) z).2.2⟩
                      case measure => simp [intOf]; omega
                  · rw [if_pos (by omega)] at hcs
                    rw [hA] at hfp
                    generalize rks.getD q 0 = fq at *
                    generalize hsq0 : secN s.length k rks q = sq at *
                    generalize hsp0 : secN s.length k rks p = sp at *
                    have b1 : ((fq : Int) != (fq : Int)) = false := by simp
                    have b2 : ((sp : Int) != (sq : Int)) = true := by simp only [bne_iff_ne]; omega
                    have b2n : (sp != sq) = true := by simp only [bne_iff_ne]; exact hB
                    have e6 : IntKind.i64.wrap ((cm : Int) + 1) = (cm : Int) + 1 := Go.IntWalk.i64_in _ (by omega)
                    have e9 : IntKind.i64.wrap (cm : Int) = (z : Int) := by rw [show (cm : Int) = z by omega]; exact Go.IntWalk.i64_in _ (by omega)
                    have HZ := Lib.hid (And.intro hcs hi)
                    clear hD hD0 hg hN hN2 hcs hbs hz hz2 hi0 hA hB e5 hj hi HK hsq0 hsp0
                    have hfp2 : ∀ n, Calls Try.prog 29 #[.int .i64 (p : Int), .pointer (some ⟨w.heap.size + 1 + 1 + 1, 0, none⟩)] (wr.drewN n) fun e w' => e = .returned (.int .i64 (fq : Int)) ∧ w' = wr.drewN n := fun n => (hfp (wr.drewN n) (bl_drewN (Below.refl _ _) n)).mono fun e w' h => ⟨h.1, h.2.symm⟩
                    have hfq2 : ∀ n, Calls Try.prog 29 #[.int .i64 (q : Int), .pointer (some ⟨w.heap.size + 1 + 1 + 1, 0, none⟩)] (wr.drewN n) fun e w' => e = .returned (.int .i64 (fq : Int)) ∧ w' = wr.drewN n := fun n => (hfq (wr.drewN n) (bl_drewN (Below.refl _ _) n)).mono fun e w' h => ⟨h.1, h.2.symm⟩
                    have hsp2 : ∀ n, Calls Try.prog 28 #[.int .i64 (p : Int), .pointer (some ⟨bs, 0, none⟩), .pointer (some ⟨w.heap.size, 0, none⟩), .pointer (some ⟨w.heap.size + 1 + 1 + 1, 0, none⟩)] (wr.drewN n) fun e w' => e = .returned (.int .i64 (sp : Int)) ∧ w' = wr.drewN n := fun n => (hsp (wr.drewN n) (bl_drewN (Below.refl _ _) n)).mono fun e w' h => ⟨h.1, h.2.symm⟩
                    have hsq2 : ∀ n, Calls Try.prog 28 #[.int .i64 (q : Int), .pointer (some ⟨bs, 0, none⟩), .pointer (some ⟨w.heap.size, 0, none⟩), .pointer (some ⟨w.heap.size + 1 + 1 + 1, 0, none⟩)] (wr.drewN n) fun e w' => e = .returned (.int .i64 (sq : Int)) ∧ w' = wr.drewN n := fun n => (hsq (wr.drewN n) (bl_drewN (Below.refl _ _) n)).mono fun e w' h => ⟨h.1, h.2.symm⟩
                    clear hfp hfq hsp hsq
                    go_upto_region 23 with (fail)
                    go_quiet ((first | (go_at_call 29; with_reducible exact Calls.quiet_of_same (hfp2 _)) | (go_at_call 29; with_reducible exact Calls.quiet_of_same (hfq2 _)) | (go_at_call 28; with_reducible exact Calls.quiet_of_same (hsp2 _)) | (go_at_call 28; with_reducible exact Calls.quiet_of_same (hsq2 _))))
                    all_goals go_wp2_with fail
                    all_goals
                      go_roundw
                      case rel => exact ⟨i + 1, _, by have := HZ.out.2; omega, by go_num, by rw [HC1.out, HZ.out.1] <;> rfl, (HN.out _ (bl_drewN (Below.refl _ _) _) z).1, HN2.out, (HN.out _ (bl_drewN (Below.refl _ _) _) z).2.1, (HN.out _ (bl_drewN (Below.refl _ _) _) z).2.2⟩
                      case measure => simp [intOf]; omega
                · rw [if_pos (by omega)] at hcs
                  generalize hfq0 : rks.getD q 0 = fq at *
                  generalize hfp0 : rks.getD p 0 = fp at *
                  have b1 : ((fp : Int) != (fq : Int)) = true := by simp only [bne_iff_ne]; omega
                  have b1n : (fp != fq) = true := by simp only [bne_iff_ne]; exact hA
                  have e6 : IntKind.i64.wrap ((cm : Int) + 1) = (cm : Int) + 1 := Go.IntWalk.i64_in _ (by omega)
                  have e9 : IntKind.i64.wrap (cm : Int) = (z : Int) := by rw [show (cm : Int) = z by omega]; exact Go.IntWalk.i64_in _ (by omega)
                  have HZ := Lib.hid (And.intro hcs hi)
                  clear hD hD0 hg hN hN2 hcs hbs hz hz2 hi0 hA e5 hj hi HK hfq0 hfp0
                  have hfp2 : ∀ n, Calls Try.prog 29 #[.int .i64 (p : Int), .pointer (some ⟨w.heap.size + 1 + 1 + 1, 0, none⟩)] (wr.drewN n) fun e w' => e = .returned (.int .i64 (fp : Int)) ∧ w' = wr.drewN n := fun n => (hfp (wr.drewN n) (bl_drewN (Below.refl _ _) n)).mono fun e w' h => ⟨h.1, h.2.symm⟩
                  have hfq2 : ∀ n, Calls Try.prog 29 #[.int .i64 (q : Int), .pointer (some ⟨w.heap.size + 1 + 1 + 1, 0, none⟩)] (wr.drewN n) fun e w' => e = .returned (.int .i64 (fq : Int)) ∧ w' = wr.drewN n := fun n => (hfq (wr.drewN n) (bl_drewN (Below.refl _ _) n)).mono fun e w' h => ⟨h.1, h.2.symm⟩
                  clear hfp hfq hsp hsq
                  go_upto_region 23 with (fail)
                  go_quiet ((first | (go_at_call 29; with_reducible exact Calls.quiet_of_same (hfp2 _)) | (go_at_call 29; with_reducible exact Calls.quiet_of_same (hfq2 _))))
                  all_goals go_wp2_with fail
                  all_goals
                    go_roundw
                    case rel => exact ⟨i + 1, _, by have := HZ.out.2; omega, by go_num, by rw [HC1.out, HZ.out.1] <;> rfl, (HN.out _ (bl_drewN (Below.refl _ _) _) z).1, HN2.out, (HN.out _ (bl_drewN (Below.refl _ _) _) z).2.1, (HN.out _ (bl_drewN (Below.refl _ _) _) z).2.2⟩
                    case measure => simp [intOf]; omega
            · obtain rfl : i = s.length := by omega
              have hsn : secN s.length k rks = secR (codesB s) k (fun p => rks.getD p 0) := HFS.out
              have hvl := hN.val
              rw [hsn] at hvl
              have hrr := rank_round HI.out.rank hkk HPP.out.1 HPP.out.2 (rk' := fun p => ys.getD p 0) (fun x hx => hvl x (by rw [HM3.out.2.1] at hx; exact hx))
              have HDN := Lib.hid (fun he => rank_done HI.out.rank hkk HPP.out.1 HPP.out.2 he)
              rw [HM3.out.2.1, ← hsn] at hrr
              rw [HM3.out.2.1, ← hsn, hlen] at HDN
              have hcm := (cntM_mono (fun p => rks.getD p 0) (secN s.length k rks) a' 0 s.length).2
              rw [show cntM (fun p => rks.getD p 0) (secN s.length k rks) a' 0 = 1 from rfl, Nat.zero_add] at hcm
              have hg5 := HGN.out
              have hlo := hD.lo
              have hD9 := hD.newR (gn := w3.heap.size) hg hN.len (by omega) (by omega)
              have hbs9 : Blk (wr.setCell ⟨w.heap.size + 1 + 1 + 1, 0, none⟩ (.slice (some ⟨w3.heap.size, 0, none⟩) s.length s.length)) bs 3 #[.int .i64 (k : Nat)] := hbs.far (p := ⟨w.heap.size + 1 + 1 + 1, 0, none⟩) (fun e => HNE.out.1.1 e) _
              have cb := Blk.cell hD.rk.box 0
              have fb := hD.rk.box.frozen 0
              have lb := hD.rk.box.lt
              have HRR := Lib.hid hrr
              have hgl := hg.lt'
              generalize hcme : cntM (fun p => rks.getD p 0) (secN s.length k rks) a' s.length = cm at *
              have HCM := Lib.hid hcm
              clear hrr hD hbs hg hN hvl hil hi hsn hcme
              go_upto_region 28 with (fail)
              generalize wr.setCell ⟨w.heap.size + 1 + 1 + 1, 0, none⟩ (.slice (some ⟨w3.heap.size, 0, none⟩) s.length s.length) = w9 at *
              have c9 := Blk.cell hbs9 0
              have n9 := Blk.cell hD9.nb 0
              have l9 := hbs9.lt
              have m9 := hD9.nb.lt
              clear cb fb lb
              by_cases hend : s.length < cm ∨ s.length ≤ k
              · have HFIN := Lib.hid (And.intro (HDN.out hend) (And.intro hD9.lo.1 (And.intro hD9.ar hD9.hb)))
                have hal9 := hD9.al
                have HAL := Lib.hid hal9
                by_cases hx : s.length < cm
                · have x1 : decide ((s.length : Int) < (cm : Int)) = true := decide_eq_true (by omega)
                  have x1n : decide (s.length < cm) = true := decide_eq_true hx
                  clear hD9 hbs9 hend hx hal9 hcm
                  go_wp2
                  go_ret
                  exact ⟨a', HFIN.out.1, g3, HFIN.out.2.1, by rw [HAL.out]; rfl, HFIN.out.2.2.1, HFIN.out.2.2.2⟩
                · have x1 : decide ((s.length : Int) < (cm : Int)) = false := decide_eq_false (by omega)
                  have x1n : decide (s.length < cm) = false := decide_eq_false hx
                  have x2 : decide ((s.length : Int) ≤ (k : Int)) = true := decide_eq_true (by omega)
                  have x2n : decide (s.length ≤ k) = true := decide_eq_true (by omega)
                  clear hD9 hbs9 hend hx hal9 hcm
                  go_wp2
                  go_ret
                  exact ⟨a', HFIN.out.1, g3, HFIN.out.2.1, by rw [HAL.out]; rfl, HFIN.out.2.2.1, HFIN.out.2.2.2⟩
              · have x1 : decide ((s.length : Int) < (cm : Int)) = false := decide_eq_false (by omega)
                have x1n : decide (s.length < cm) = false := decide_eq_false (by omega)
                have x2 : decide ((s.length : Int) ≤ (k : Int)) = false := decide_eq_false (by omega)
                have x2n : decide (s.length ≤ k) = false := decide_eq_false (by omega)
                obtain ⟨k2, hk2⟩ : ∃ k2, k2 = k + k := ⟨_, rfl⟩
                have ek : IntKind.i64.wrap ((k : Int) * 2) = (k2 : Int) := by rw [show (k : Int) * 2 = k2 by omega]; exact Go.IntWalk.i64_in _ (by omega)
                have HNEW : Hid (DoubW w (w9.alloc (.cells #[.int .i64 (k2 : Nat)] 3)) s (w.heap.size + 1 + 1 + 1) w.heap.size (.slice (some ⟨g3, 0, none⟩) s.length s.length) (.int .i64 (cm : Nat)) (.pointer (some ⟨w9.heap.size, 0, none⟩)) ∧ stepOf (w9.alloc (.cells #[.int .i64 (k2 : Nat)] 3)) (.pointer (some ⟨w9.heap.size, 0, none⟩)) = k2) := Lib.hid (by
                  have hB2 : Blk (w9.alloc (.cells #[.int .i64 (k2 : Nat)] 3)) w9.heap.size 3 #[.int .i64 (k2 : Nat)] := Blk.new w9 _ _
                  refine ⟨⟨k2, cm, a', ys, g3, w3.heap.size, w9.heap.size, rfl, rfl, rfl, hB2, ?_, by omega, hD9.below (bl_alloc (Below.refl w9.heap.size w9) _), ?_, by omega⟩, stepOf_blk hB2⟩
                  · have l1 := hD9.rk.row.lt'
                    have l2 := hD9.rk.box.lt
                    have l4 := hD9.ar.lt'
                    omega
                  · rw [hk2]
                    exact ⟨HRR.out.1, HPP.out.1, HRR.out.2, by omega, by rw [hlen]; have := HCM.out; omega⟩)
                have HST2 := Lib.hid (And.intro (stepOf_blk HBS.out) (And.intro hk2 hkk))
                clear hD9 hbs9 hend hk2
                go_wp2_with fail
                go_roundw
                case rel => exact HNEW.out.1
                case measure =>
                  rw [show _ = k2 from HNEW.out.2]
                  have h1 := HST2.out.1
                  have h2 := HST2.out.2
                  rw [h1]
                  omega
        · have b1 : decide ((k : Int) < (s.length : Int)) = false := decide_eq_false (by omega)
          have b1n : decide (k < s.length) = false := decide_eq_false hks
          have HPP : Hid (a.Perm (List.range (codesB s).length) ∧ a.Pairwise (pairLe (fun p => rks.getD p 0) (secR (codesB s) k (fun p => rks.getD p 0)))) := Lib.hid ⟨hI.perm, pairs_whole hI1 hI.perm hI.up (by rw [hlen]; omega)⟩
          obtain ⟨g3, rfl⟩ : ∃ g3, g3 = ga := ⟨_, rfl⟩
          obtain ⟨w3, rfl⟩ : ∃ w3, w3 = wr := ⟨_, rfl⟩
          obtain ⟨a', rfl⟩ : ∃ a', a' = a := ⟨_, rfl⟩
          have hD3 := hD
          have hbs3 := hbs
          clear hD hI hI1 hrk0 hbs hbd2 hsb
          have hn3 : a'.Nodup := HPP.out.1.nodup_iff.2 List.nodup_range
          have ha3 : a'.length = s.length := hD3.al
          have hm3 : ∀ i, i < s.length → a'.getD i 0 < s.length := fun i hi => by
            rw [getD_get _ _ (by omega), ← hlen]
            exact List.mem_range.1 (HPP.out.1.mem_iff.1 (List.getElem_mem _))
          have HM3 := Lib.hid (And.intro hn3 (And.intro ha3 hm3))
          have c3 := Blk.cell hD3.nb 0
          have s3 := Blk.cell hbs3 0
          have l3a := hD3.nb.lt
          have l3b := hbs3.lt
          have HD3 := Lib.hid hD3
          have HBS3 := Lib.hid hbs3
          have hgn : g3 < w3.heap.size ∧ gr < w3.heap.size ∧ w.heap.size + 1 + 1 + 1 < w3.heap.size ∧ w.heap.size < w3.heap.size ∧ bs < w3.heap.size := ⟨hD3.ar.lt', hD3.rk.row.lt', hD3.rk.box.lt, l3a, l3b⟩
          have HGN := Lib.hid hgn
          clear hD3 hbs3 hn3 ha3 hm3 hgn
          go_wp2_with fail
          go_loopw [7, 60] (fun v7 v60 wr => ∃ (i : Nat) (ys : List Nat), i ≤ s.length ∧ v60 = .int .i64 i ∧ v7 = .int .i64 (cntM (fun p => rks.getD p 0) (secN s.length k rks) a' i : Nat) ∧ BlkI wr w3.heap.size (nz ys) ∧ NextI (fun p => rks.getD p 0) (secN s.length k rks) a' s.length i ys ∧ DW w wr s g3 gr (w.heap.size + 1 + 1 + 1) w.heap.size a' rks ∧ Blk wr bs 3 #[.int .i64 (k : Nat)]) (fun _ v60 _ => s.length - (intOf v60).toNat)
          case atStart => exact ⟨0, _, Nat.zero_le _, rfl, rfl, BlkI.madeN w3 s.length, NextI.start _ _ _ _, HD3.out.below (bl_alloc (Below.refl w3.heap.size w3) _), HBS3.out.alloc _⟩
          case round =>
            obtain ⟨i, ys, hi, rfl, rfl, hg, hN, hD, hbs⟩ := hrel
            by_cases hil : i < s.length
            · have hi1 : (i : Int) < (s.length : Int) := by omega
              have c4 := hD.ar.atN i (by rw [HM3.out.2.1]; exact hil)
              have hp := HM3.out.2.2 i hil
              have hN2 := hN.step HM3.out.1 (by rw [HM3.out.2.1]; exact hil) hp
              have hcs := cntM_succ (fun p => rks.getD p 0) (secN s.length k rks) a' i
              have hc2 := cntM_two (fun p => rks.getD p 0) (secN s.length k rks) a' i
              have hcm := (cntM_mono (fun p => rks.getD p 0) (secN s.length k rks) a' 0 (i + 1)).2
              rw [show cntM (fun p => rks.getD p 0) (secN s.length k rks) a' 0 = 1 from rfl, Nat.zero_add] at hcm
              have hfp := fun w' hb => p_dfirst (w := w') (hD.rk.below hb hD.rk.box.lt hD.rk.row.lt') (a'.getD i 0) hp (by omega)
              have hsp := fun w' hb => p_dsecond (w := w') (hD.rk.below hb hD.rk.box.lt hD.rk.row.lt') (hbs.below hb hbs.lt) (hD.nb.below hb hD.nb.lt) (a'.getD i 0) hp (by omega) (by omega)
              have c5 := hg.atN (a'.getD i 0) (by rw [hN.len]; exact hp)
              have f5 := hg.frozen' (a'.getD i 0)
              have g1 := hg.lt'
              have HN : Hid (∀ (wq : World) (hq : Below wr.heap.size wr wq) (z : Nat), BlkI (wq.setCell ⟨w3.heap.size, a'.getD i 0, none⟩ (.int .i64 (z : Int))) w3.heap.size (nz (ys.set (a'.getD i 0) z)) ∧ DW w (wq.setCell ⟨w3.heap.size, a'.getD i 0, none⟩ (.int .i64 (z : Int))) s g3 gr (w.heap.size + 1 + 1 + 1) w.heap.size a' rks ∧ Blk (wq.setCell ⟨w3.heap.size, a'.getD i 0, none⟩ (.int .i64 (z : Int))) bs 3 #[.int .i64 (k : Nat)]) := Lib.hid (fun wq hq z => by
                have hg5 := HGN.out
                have hlo := hD.lo
                have hD := hD.below hq
                refine ⟨(hg.below' hq hg.lt').setN _ _, ⟨hD.nb.far (p := ⟨w3.heap.size, _, none⟩) (by show w.heap.size ≠ w3.heap.size; omega) _, ⟨hD.rk.box.far (p := ⟨w3.heap.size, _, none⟩) (by show w.heap.size + 1 + 1 + 1 ≠ w3.heap.size; omega) _, hD.rk.row.other (p := ⟨w3.heap.size, _, none⟩) (by show gr ≠ w3.heap.size; omega) _, hD.rk.len⟩, hD.ar.other (p := ⟨w3.heap.size, _, none⟩) (by show g3 ≠ w3.heap.size; omega) _, hD.al, hD.ne, hD.lo, hD.hb.setCell (by show w.heap.size ≤ w3.heap.size; omega) _⟩, (hbs.below hq hbs.lt).far (p := ⟨w3.heap.size, _, none⟩) (by show bs ≠ w3.heap.size; omega) _⟩)
              have e4 : IntKind.i64.wrap ((i : Int) + 1) = (i : Int) + 1 := Go.IntWalk.i64_in _ (by omega)
              have hD0 := hD
              obtain ⟨z, hz⟩ : ∃ z, z = cntM (fun p => rks.getD p 0) (secN s.length k rks) a' (i + 1) - 1 := ⟨_, rfl⟩
              rw [← hz] at hN2
              have HN2 := Lib.hid hN2
              have hz2 : (cntM (fun p => rks.getD p 0) (secN s.length k rks) a' (i + 1) : Int) = (z : Int) + 1 := by omega
              have e5 : IntKind.i64.wrap ((cntM (fun p => rks.getD p 0) (secN s.length k rks) a' (i + 1) : Int) - 1) = (z : Int) := by rw [hz2, show (z : Int) + 1 - 1 = z by omega]; exact Go.IntWalk.i64_in _ (by omega)
              by_cases hi0 : i = 0
              · have b0 : ((i : Int) == 0) = true := by rw [beq_iff_eq]; omega
                have b0n : (i == 0) = true := by rw [beq_iff_eq]; exact hi0
                rw [if_pos (.inl hi0)] at hcs
                rw [hcs] at e5
                have HCS := Lib.hid hcs
                generalize cntM (fun p => rks.getD p 0) (secN s.length k rks) a' i = cm at *
                generalize a'.getD i 0 = p at *
                generalize ys.getD p 0 = y0 at *
                have e6 : IntKind.i64.wrap ((cm : Int) + 1) = (cm : Int) + 1 := Go.IntWalk.i64_in _ (by omega)
                have p1 : (p : Int) < (s.length : Int) := by omega
                rw [hcs, Nat.add_sub_cancel] at hz
                have e7 : IntKind.i64.wrap (cm : Int) = (z : Int) := by rw [hz]; exact Go.IntWalk.i64_in _ (by omega)
                clear e5
                have g2 := hD0.ar.lt'
                clear hD hD0 hg hN hN2 hfp hsp hcs hbs hz hz2 hi0
                go_upto_region 23 with (fail)
                go_quiet (fail)
                all_goals go_wp2_with fail
                all_goals
                  go_roundw
                  case rel => exact ⟨i + 1, _, by omega, by go_num, by rw [HCS.out]; rfl, (HN.out _ (bl_drewN (Below.refl _ _) _) z).1, HN2.out, (HN.out _ (bl_drewN (Below.refl _ _) _) z).2.1, (HN.out _ (bl_drewN (Below.refl _ _) _) z).2.2⟩
                  case measure => simp [intOf]; omega
              · obtain ⟨j, hj⟩ : ∃ j, i = j + 1 := ⟨i - 1, by omega⟩
                have b0 : ((i : Int) == 0) = false := by rw [beq_eq_false_iff_ne]; omega
                have b0n : (i == 0) = false := by rw [beq_eq_false_iff_ne]; exact hi0
                have hq := HM3.out.2.2 j (by omega)
                have c6 := hD.ar.atN j (by rw [HM3.out.2.1]; omega)
                have hfq := fun w' hb => p_dfirst (w := w') (hD.rk.below hb hD.rk.box.lt hD.rk.row.lt') (a'.getD j 0) hq (by omega)
                have hsq := fun w' hb => p_dsecond (w := w') (hD.rk.below hb hD.rk.box.lt hD.rk.row.lt') (hbs.below hb hbs.lt) (hD.nb.below hb hD.nb.lt) (a'.getD j 0) hq (by omega) (by omega)
                rw [show i - 1 = j by omega] at hcs
                have e8 : IntKind.i64.wrap ((i : Int) - 1) = (j : Int) := by rw [show (i : Int) - 1 = j by omega]; exact Go.IntWalk.i64_in _ (by omega)
                have j1 : (j : Int) < (s.length : Int) := by omega
                have g2 := hD0.ar.lt'
                have HCS := Lib.hid hcs
                generalize hcm1 : cntM (fun p => rks.getD p 0) (secN s.length k rks) a' (i + 1) = cm1 at *
                have HC1 := Lib.hid hcm1
                clear hcm1
                generalize cntM (fun p => rks.getD p 0) (secN s.length k rks) a' i = cm at *
                generalize a'.getD i 0 = p at *
                generalize a'.getD j 0 = q at *
                have HK : Hid (∀ w', Below wr.heap.size wr w' → w'.cell? ⟨g3, j, none⟩ = some (.int .i64 (q : Int)) ∧ Below wr.heap.size wr w') := Lib.hid fun w' hh => ⟨(hh.cell (p := ⟨g3, j, none⟩) g2).trans c6, hh⟩
                generalize ys.getD p 0 = y0 at *
                have p1 : (p : Int) < (s.length : Int) := by omega
                have q1 : (q : Int) < (s.length : Int) := by omega
                have hen3 : ∀ (args : Array Value) (w : World), (callFunc 29 args).run Try.prog w = .ok (.enter 29 args) w := fun _ _ => by kernel_rfl
                have hen2 : ∀ (args : Array Value) (w : World), (callFunc 28 args).run Try.prog w = .ok (.enter 28 args) w := fun _ _ => by kernel_rfl
                replace hcs : cm1 = if i = 0 ∨ rks.getD p 0 ≠ rks.getD q 0 ∨ secN s.length k rks p ≠ secN s.length k rks q then cm + 1 else cm := hcs
                by_cases hA : rks.getD p 0 = rks.getD q 0
                · by_cases hB : secN s.length k rks p = secN s.length k rks q
                  · rw [if_neg (by omega)] at hcs
                    rw [hA] at hfp
                    rw [hB] at hsp
                    generalize rks.getD q 0 = fq at *
                    generalize secN s.length k rks q = sq at *
                    have b1 : ((fq : Int) != (fq : Int)) = false := by simp
                    have b2 : ((sq : Int) != (sq : Int)) = false := by simp
                    have e9 : IntKind.i64.wrap ((cm : Int) - 1) = (z : Int) := by rw [← hcs]; exact e5
                    have HZ := Lib.hid (And.intro hcs hi)
                    clear hD hD0 hg hN hN2 hcs hbs hz hz2 hi0 hA hB e5 hj hi HK
                    have hfp2 : ∀ n, Calls Try.prog 29 #[.int .i64 (p : Int), .pointer (some ⟨w.heap.size + 1 + 1 + 1, 0, none⟩)] (wr.drewN n) fun e w' => e = .returned (.int .i64 (fq : Int)) ∧ w' = wr.drewN n := fun n => (hfp (wr.drewN n) (bl_drewN (Below.refl _ _) n)).mono fun e w' h => ⟨h.1, h.2.symm⟩
                    have hfq2 : ∀ n, Calls Try.prog 29 #[.int .i64 (q : Int), .pointer (some ⟨w.heap.size + 1 + 1 + 1, 0, none⟩)] (wr.drewN n) fun e w' => e = .returned (.int .i64 (fq : Int)) ∧ w' = wr.drewN n := fun n => (hfq (wr.drewN n) (bl_drewN (Below.refl _ _) n)).mono fun e w' h => ⟨h.1, h.2.symm⟩
                    have hsp2 : ∀ n, Calls Try.prog 28 #[.int .i64 (p : Int), .pointer (some ⟨bs, 0, none⟩), .pointer (some ⟨w.heap.size, 0, none⟩), .pointer (some ⟨w.heap.size + 1 + 1 + 1, 0, none⟩)] (wr.drewN n) fun e w' => e = .returned (.int .i64 (sq : Int)) ∧ w' = wr.drewN n := fun n => (hsp (wr.drewN n) (bl_drewN (Below.refl _ _) n)).mono fun e w' h => ⟨h.1, h.2.symm⟩
                    have hsq2 : ∀ n, Calls Try.prog 28 #[.int .i64 (q : Int), .pointer (some ⟨bs, 0, none⟩), .pointer (some ⟨w.heap.size, 0, none⟩), .pointer (some ⟨w.heap.size + 1 + 1 + 1, 0, none⟩)] (wr.drewN n) fun e w' => e = .returned (.int .i64 (sq : Int)) ∧ w' = wr.drewN n := fun n => (hsq (wr.drewN n) (bl_drewN (Below.refl _ _) n)).mono fun e w' h => ⟨h.1, h.2.symm⟩
                    clear hfp hfq hsp hsq
                    go_upto_region 23 with (fail)
                    go_quiet ((first | (go_at_call 29; with_reducible exact Calls.quiet_of_same (hfp2 _)) | (go_at_call 29; with_reducible exact Calls.quiet_of_same (hfq2 _)) | (go_at_call 28; with_reducible exact Calls.quiet_of_same (hsp2 _)) | (go_at_call 28; with_reducible exact Calls.quiet_of_same (hsq2 _))))
                    all_goals go_wp2_with fail
                    all_goals
                      go_roundw
                      case rel => exact ⟨i + 1, _, by have := HZ.out.2; omega, by go_num, by rw [HC1.out, HZ.out.1] <;> rfl, (HN.out _ (bl_drewN (Below.refl _ _) _) z).1, HN2.out, (HN.out _ (bl_drewN (Below.refl _ _) _) z).2.1, (HN.out _ (bl_drewN (Below.refl _ _) _) z).2.2⟩
                      case measure => simp [intOf]; omega
                  · rw [if_pos (by omega)] at hcs
                    rw [hA] at hfp
                    generalize rks.getD q 0 = fq at *
                    generalize hsq0 : secN s.length k rks q = sq at *
                    generalize hsp0 : secN s.length k rks p = sp at *
                    have b1 : ((fq : Int) != (fq : Int)) = false := by simp
                    have b2 : ((sp : Int) != (sq : Int)) = true := by simp only [bne_iff_ne]; omega
                    have b2n : (sp != sq) = true := by simp only [bne_iff_ne]; exact hB
                    have e6 : IntKind.i64.wrap ((cm : Int) + 1) = (cm : Int) + 1 := Go.IntWalk.i64_in _ (by omega)
                    have e9 : IntKind.i64.wrap (cm : Int) = (z : Int) := by rw [show (cm : Int) = z by omega]; exact Go.IntWalk.i64_in _ (by omega)
                    have HZ := Lib.hid (And.intro hcs hi)
                    clear hD hD0 hg hN hN2 hcs hbs hz hz2 hi0 hA hB e5 hj hi HK hsq0 hsp0
                    have hfp2 : ∀ n, Calls Try.prog 29 #[.int .i64 (p : Int), .pointer (some ⟨w.heap.size + 1 + 1 + 1, 0, none⟩)] (wr.drewN n) fun e w' => e = .returned (.int .i64 (fq : Int)) ∧ w' = wr.drewN n := fun n => (hfp (wr.drewN n) (bl_drewN (Below.refl _ _) n)).mono fun e w' h => ⟨h.1, h.2.symm⟩
                    have hfq2 : ∀ n, Calls Try.prog 29 #[.int .i64 (q : Int), .pointer (some ⟨w.heap.size + 1 + 1 + 1, 0, none⟩)] (wr.drewN n) fun e w' => e = .returned (.int .i64 (fq : Int)) ∧ w' = wr.drewN n := fun n => (hfq (wr.drewN n) (bl_drewN (Below.refl _ _) n)).mono fun e w' h => ⟨h.1, h.2.symm⟩
                    have hsp2 : ∀ n, Calls Try.prog 28 #[.int .i64 (p : Int), .pointer (some ⟨bs, 0, none⟩), .pointer (some ⟨w.heap.size, 0, none⟩), .pointer (some ⟨w.heap.size + 1 + 1 + 1, 0, none⟩)] (wr.drewN n) fun e w' => e = .returned (.int .i64 (sp : Int)) ∧ w' = wr.drewN n := fun n => (hsp (wr.drewN n) (bl_drewN (Below.refl _ _) n)).mono fun e w' h => ⟨h.1, h.2.symm⟩
                    have hsq2 : ∀ n, Calls Try.prog 28 #[.int .i64 (q : Int), .pointer (some ⟨bs, 0, none⟩), .pointer (some ⟨w.heap.size, 0, none⟩), .pointer (some ⟨w.heap.size + 1 + 1 + 1, 0, none⟩)] (wr.drewN n) fun e w' => e = .returned (.int .i64 (sq : Int)) ∧ w' = wr.drewN n := fun n => (hsq (wr.drewN n) (bl_drewN (Below.refl _ _) n)).mono fun e w' h => ⟨h.1, h.2.symm⟩
                    clear hfp hfq hsp hsq
                    go_upto_region 23 with (fail)
                    go_quiet ((first | (go_at_call 29; with_reducible exact Calls.quiet_of_same (hfp2 _)) | (go_at_call 29; with_reducible exact Calls.quiet_of_same (hfq2 _)) | (go_at_call 28; with_reducible exact Calls.quiet_of_same (hsp2 _)) | (go_at_call 28; with_reducible exact Calls.quiet_of_same (hsq2 _))))
                    all_goals go_wp2_with fail
                    all_goals
                      go_roundw
                      case rel => exact ⟨i + 1, _, by have := HZ.out.2; omega, by go_num, by rw [HC1.out, HZ.out.1] <;> rfl, (HN.out _ (bl_drewN (Below.refl _ _) _) z).1, HN2.out, (HN.out _ (bl_drewN (Below.refl _ _) _) z).2.1, (HN.out _ (bl_drewN (Below.refl _ _) _) z).2.2⟩
                      case measure => simp [intOf]; omega
                · rw [if_pos (by omega)] at hcs
                  generalize hfq0 : rks.getD q 0 = fq at *
                  generalize hfp0 : rks.getD p 0 = fp at *
                  have b1 : ((fp : Int) != (fq : Int)) = true := by simp only [bne_iff_ne]; omega
                  have b1n : (fp != fq) = true := by simp only [bne_iff_ne]; exact hA
                  have e6 : IntKind.i64.wrap ((cm : Int) + 1) = (cm : Int) + 1 := Go.IntWalk.i64_in _ (by omega)
                  have e9 : IntKind.i64.wrap (cm : Int) = (z : Int) := by rw [show (cm : Int) = z by omega]; exact Go.IntWalk.i64_in _ (by omega)
                  have HZ := Lib.hid (And.intro hcs hi)
                  clear hD hD0 hg hN hN2 hcs hbs hz hz2 hi0 hA e5 hj hi HK hfq0 hfp0
                  have hfp2 : ∀ n, Calls Try.prog 29 #[.int .i64 (p : Int), .pointer (some ⟨w.heap.size + 1 + 1 + 1, 0, none⟩)] (wr.drewN n) fun e w' => e = .returned (.int .i64 (fp : Int)) ∧ w' = wr.drewN n := fun n => (hfp (wr.drewN n) (bl_drewN (Below.refl _ _) n)).mono fun e w' h => ⟨h.1, h.2.symm⟩
                  have hfq2 : ∀ n, Calls Try.prog 29 #[.int .i64 (q : Int), .pointer (some ⟨w.heap.size + 1 + 1 + 1, 0, none⟩)] (wr.drewN n) fun e w' => e = .returned (.int .i64 (fq : Int)) ∧ w' = wr.drewN n := fun n => (hfq (wr.drewN n) (bl_drewN (Below.refl _ _) n)).mono fun e w' h => ⟨h.1, h.2.symm⟩
                  clear hfp hfq hsp hsq
                  go_upto_region 23 with (fail)
                  go_quiet ((first | (go_at_call 29; with_reducible exact Calls.quiet_of_same (hfp2 _)) | (go_at_call 29; with_reducible exact Calls.quiet_of_same (hfq2 _))))
                  all_goals go_wp2_with fail
                  all_goals
                    go_roundw
                    case rel => exact ⟨i + 1, _, by have := HZ.out.2; omega, by go_num, by rw [HC1.out, HZ.out.1] <;> rfl, (HN.out _ (bl_drewN (Below.refl _ _) _) z).1, HN2.out, (HN.out _ (bl_drewN (Below.refl _ _) _) z).2.1, (HN.out _ (bl_drewN (Below.refl _ _) _) z).2.2⟩
                    case measure => simp [intOf]; omega
            · obtain rfl : i = s.length := by omega
              have hsn : secN s.length k rks = secR (codesB s) k (fun p => rks.getD p 0) := HFS.out
              have hvl := hN.val
              rw [hsn] at hvl
              have hrr := rank_round HI.out.rank hkk HPP.out.1 HPP.out.2 (rk' := fun p => ys.getD p 0) (fun x hx => hvl x (by rw [HM3.out.2.1] at hx; exact hx))
              have HDN := Lib.hid (fun he => rank_done HI.out.rank hkk HPP.out.1 HPP.out.2 he)
              rw [HM3.out.2.1, ← hsn] at hrr
              rw [HM3.out.2.1, ← hsn, hlen] at HDN
              have hcm := (cntM_mono (fun p => rks.getD p 0) (secN s.length k rks) a' 0 s.length).2
              rw [show cntM (fun p => rks.getD p 0) (secN s.length k rks) a' 0 = 1 from rfl, Nat.zero_add] at hcm
              have hg5 := HGN.out
              have hlo := hD.lo
              have hD9 := hD.newR (gn := w3.heap.size) hg hN.len (by omega) (by omega)
              have hbs9 : Blk (wr.setCell ⟨w.heap.size + 1 + 1 + 1, 0, none⟩ (.slice (some ⟨w3.heap.size, 0, none⟩) s.length s.length)) bs 3 #[.int .i64 (k : Nat)] := hbs.far (p := ⟨w.heap.size + 1 + 1 + 1, 0, none⟩) (fun e => HNE.out.1.1 e) _
              have cb := Blk.cell hD.rk.box 0
              have fb := hD.rk.box.frozen 0
              have lb := hD.rk.box.lt
              have HRR := Lib.hid hrr
              have hgl := hg.lt'
              generalize hcme : cntM (fun p => rks.getD p 0) (secN s.length k rks) a' s.length = cm at *
              have HCM := Lib.hid hcm
              clear hrr hD hbs hg hN hvl hil hi hsn hcme
              go_upto_region 28 with (fail)
              generalize wr.setCell ⟨w.heap.size + 1 + 1 + 1, 0, none⟩ (.slice (some ⟨w3.heap.size, 0, none⟩) s.length s.length) = w9 at *
              have c9 := Blk.cell hbs9 0
              have n9 := Blk.cell hD9.nb 0
              have l9 := hbs9.lt
              have m9 := hD9.nb.lt
              clear cb fb lb
              by_cases hend : s.length < cm ∨ s.length ≤ k
              · have HFIN := Lib.hid (And.intro (HDN.out hend) (And.intro hD9.lo.1 (And.intro hD9.ar hD9.hb)))
                have hal9 := hD9.al
                have HAL := Lib.hid hal9
                by_cases hx : s.length < cm
                · have x1 : decide ((s.length : Int) < (cm : Int)) = true := decide_eq_true (by omega)
                  have x1n : decide (s.length < cm) = true := decide_eq_true hx
                  clear hD9 hbs9 hend hx hal9 hcm
                  go_wp2
                  go_ret
                  exact ⟨a', HFIN.out.1, g3, HFIN.out.2.1, by rw [HAL.out]; rfl, HFIN.out.2.2.1, HFIN.out.2.2.2⟩
                · have x1 : decide ((s.length : Int) < (cm : Int)) = false := decide_eq_false (by omega)
                  have x1n : decide (s.length < cm) = false := decide_eq_false hx
                  have x2 : decide ((s.length : Int) ≤ (k : Int)) = true := decide_eq_true (by omega)
                  have x2n : decide (s.length ≤ k) = true := decide_eq_true (by omega)
                  clear hD9 hbs9 hend hx hal9 hcm
                  go_wp2
                  go_ret
                  exact ⟨a', HFIN.out.1, g3, HFIN.out.2.1, by rw [HAL.out]; rfl, HFIN.out.2.2.1, HFIN.out.2.2.2⟩
              · have x1 : decide ((s.length : Int) < (cm : Int)) = false := decide_eq_false (by omega)
                have x1n : decide (s.length < cm) = false := decide_eq_false (by omega)
                have x2 : decide ((s.length : Int) ≤ (k : Int)) = false := decide_eq_false (by omega)
                have x2n : decide (s.length ≤ k) = false := decide_eq_false (by omega)
                obtain ⟨k2, hk2⟩ : ∃ k2, k2 = k + k := ⟨_, rfl⟩
                have ek : IntKind.i64.wrap ((k : Int) * 2) = (k2 : Int) := by rw [show (k : Int) * 2 = k2 by omega]; exact Go.IntWalk.i64_in _ (by omega)
                have HNEW : Hid (DoubW w (w9.alloc (.cells #[.int .i64 (k2 : Nat)] 3)) s (w.heap.size + 1 + 1 + 1) w.heap.size (.slice (some ⟨g3, 0, none⟩) s.length s.length) (.int .i64 (cm : Nat)) (.pointer (some ⟨w9.heap.size, 0, none⟩)) ∧ stepOf (w9.alloc (.cells #[.int .i64 (k2 : Nat)] 3)) (.pointer (some ⟨w9.heap.size, 0, none⟩)) = k2) := Lib.hid (by
                  have hB2 : Blk (w9.alloc (.cells #[.int .i64 (k2 : Nat)] 3)) w9.heap.size 3 #[.int .i64 (k2 : Nat)] := Blk.new w9 _ _
                  refine ⟨⟨k2, cm, a', ys, g3, w3.heap.size, w9.heap.size, rfl, rfl, rfl, hB2, ?_, by omega, hD9.below (bl_alloc (Below.refl w9.heap.size w9) _), ?_, by omega⟩, stepOf_blk hB2⟩
                  · have l1 := hD9.rk.row.lt'
                    have l2 := hD9.rk.box.lt
                    have l4 := hD9.ar.lt'
                    omega
                  · rw [hk2]
                    exact ⟨HRR.out.1, HPP.out.1, HRR.out.2, by omega, by rw [hlen]; have := HCM.out; omega⟩)
                have HST2 := Lib.hid (And.intro (stepOf_blk HBS.out) (And.intro hk2 hkk))
                clear hD9 hbs9 hend hk2
                go_wp2_with fail
                go_roundw
                case rel => exact HNEW.out.1
                case measure =>
                  rw [show _ = k2 from HNEW.out.2]
                  have h1 := HST2.out.1
                  have h2 := HST2.out.2
                  rw [h1]
                  omega
end Go.Proofs.Ytbalodhgbpagfaa
