/- Package suffix: Ranks: by a walk of a range over a function. -/
import Derived.Test.YtbalodhgbpagfaaSufEq
import Derived.CallsIn
import Derived.RangeFuncBox
import Derived.RangeFuncLeaves
import Derived.Shelf.Abstract
import Derived.WalkKit
import Derived.OwnWalkIn
import Derived.TacticsInMore
import Derived.LoopNIn
import Derived.LoopIn
set_option linter.unusedSimpArgs false
set_option linter.unusedVariables false
set_option maxRecDepth 100000
namespace Go.Proofs.Ytbalodhgbpagfaa
open Go.RowKit Go.Shelf
attribute [local go_sem] Oper.semAt_some

/-- The places from behind, each with its number. -/
def backs (l : List Nat) : List (Nat × Nat) := (List.range l.length).reverse.map (fun k => (k, l.getD k 0))
theorem backs_len (l : List Nat) : (backs l).length = l.length := by simp [backs]
theorem backs_get (l : List Nat) {c : Nat} (h : c < l.length) : (backs l)[c]'(by rw [backs_len]; exact h) = (l.length - 1 - c, l.getD (l.length - 1 - c) 0) := by
  simp only [backs, List.getElem_map, List.getElem_reverse, List.getElem_range, List.length_range]
theorem backs_take (l : List Nat) {c : Nat} (h : c < l.length) : (backs l).take (c + 1) = (backs l).take c ++ [(l.length - 1 - c, l.getD (l.length - 1 - c) 0)] := by
  rw [List.take_succ_eq_append_getElem (by rw [backs_len]; exact h), backs_get l h]
set_option maxHeartbeats 2000000 in
theorem s_back1 (F : Fence) (n : Nat) (h7 : F.fn 30) (hro : F.round = none) (hn : 1 ≤ n) (l Bs cap : Nat) (A : Option Addr) (zs : List Nat) (hlen : zs.length ≤ 1000000) (Kp : World → World → Prop) (hKt : ∀ {a b c : World}, Kp a b → Kp b c → Kp a c) (J Jx : List (Nat × Nat) → World → Prop)
    (hY : ∀ pre (x : Nat × Nat) W, J pre W → pre.length < zs.length → YieldAt F (n - 1) Try.prog l #[.int .i64 (x.1 : Int), .int .i64 (x.2 : Int)] W fun e W' =>
      (e = .returned (.bool true) ∧ J (pre ++ [x]) W' ∧ Kp W W') ∨ (e = .returned (.bool false) ∧ Jx (pre ++ [x]) W'))
    (W : World) (hBs : ∀ W', Kp W W' → W'.cell? ⟨Bs, 0, none⟩ = some (.slice A zs.length cap)) (hc : ∀ W', Kp W W' → ReadsI W' A (nz zs)) (hK0 : Kp W W) (h0 : J [] W) :
    CallsIn F n Try.prog 30 #[.func (.yield l) #[] #[], .pointer (some ⟨Bs, 0, none⟩)] W fun e W' => (∃ v, e = .returned v) ∧
      ((∃ ys, ys = backs zs ∧ J ys W') ∨ (∃ pre, pre <+: backs zs ∧ Jx pre W')) := by
  have c0 := hBs W hK0
  have e1 : IntKind.i64.wrap ((zs.length : Int) - 1) = (zs.length : Int) - 1 := Go.IntWalk.i64_in _ (by omega)
  refine callsIn_of_wp Try.func30 rfl h7 ?_ hro
  simp only [Try.ntmps30, List.size_toArray, List.length_cons, List.length_nil, Nat.reduceAdd, Nat.reduceSub, Array.replicate_succ, Array.replicate_zero, List.push_toArray, List.append_toArray, List.nil_append, List.cons_append]
  gi_wp2
  gi_loopw [3] (fun i wr => ∃ c : Nat, c ≤ zs.length ∧ i = .int .i64 ((zs.length : Int) - 1 - (c : Int)) ∧ J ((backs zs).take c) wr ∧ Kp W wr)
    (fun i _ => (intOf i + 1).toNat)
  case atStart => exact ⟨0, Nat.zero_le _, by simp, h0, hK0⟩
  case round =>
    obtain ⟨c, hcl, rfl, hJs, hnx⟩ := hrel
    have hbox := hBs wr hnx
    by_cases hlt : c < zs.length
    · obtain ⟨j, hj⟩ : ∃ j, j = zs.length - 1 - c := ⟨_, rfl⟩
      obtain ⟨ad, rfl, had, hcx⟩ := (hc wr hnx).atN j (by omega)
      have hT := backs_take zs hlt
      rw [← hj] at hT
      obtain ⟨fn, tmps, assign, body, hy, hR⟩ := hY _ (j, zs.getD j 0) wr hJs (by rw [List.length_take, backs_len]; omega)
      have HT := Lib.hid hT
      have hji : (zs.length : Int) - 1 - (c : Int) = (j : Int) := by omega
      simp only at hy hR
      rw [hji]
      generalize zs.getD j 0 = x at *
      have j0 : (0 : Int) ≤ (j : Int) := by omega
      have j1 : (j : Int) < (zs.length : Int) := by omega
      have e2 : IntKind.i64.wrap ((j : Int) - 1) = (j : Int) - 1 := Go.IntWalk.i64_in _ (by omega)
      have HNX := Lib.hid hnx
      have HJ := Lib.hid (And.intro hj hji)
      clear hnx hT hj hji
      gi_wp2
      refine hR.mono ?_
      rintro e W3 (⟨rfl, hJ3, hk3⟩ | ⟨rfl, hJx3⟩)
      · gi_wp2
        go_roundw
        case rel => exact ⟨c + 1, by omega, by have h9 := HJ.out.2; rw [show (zs.length : Int) - 1 - ((c + 1 : Nat) : Int) = (j : Int) - 1 by omega], by rw [HT.out]; exact hJ3, hKt HNX.out hk3⟩
        case measure => simp [intOf]
      · gi_wp2
        refine bodyPost_ret (results_none rfl _ _ _) rfl ?_
        exact ⟨⟨_, rfl⟩, .inr ⟨_, by rw [← HT.out]; exact List.take_prefix _ _, hJx3⟩⟩
    · obtain rfl : c = zs.length := by omega
      have hll := backs_len zs
      rw [List.take_of_length_le (by omega)] at hJs
      have b0 : (zs.length : Int) - 1 - (zs.length : Int) = -1 := by omega
      rw [b0]
      clear b0 hll
      gi_wp2
      go_end0
      exact ⟨⟨_, rfl⟩, .inl ⟨_, rfl, hJs⟩⟩
theorem s_back (F : Fence) (n : Nat) (h5 : F.fn 19) (hro : F.round = none) (a : Option Addr) (len cap : Nat) (w : World) :
    CallsIn F n Try.prog 19 #[.slice a len cap] w fun e w' => e = .returned (.func (.func 30) #[] #[.pointer (some ⟨w.heap.size, 0, none⟩)]) ∧ w' = w.alloc (.cells #[.slice a len cap] 35) := by
  refine callsIn_of_wp Try.func19 rfl h5 ?_ hro
  simp only [Try.ntmps19, List.size_toArray, List.length_cons, List.length_nil, Nat.reduceAdd, Nat.reduceSub, Array.replicate_succ, Array.replicate_zero, List.push_toArray, List.append_toArray, List.nil_append, List.cons_append]
  gi_wp2
  go_ret
  exact ⟨rfl, rfl⟩
/-- What Ranks holds while it runs. -/
structure RanksI (w : World) (ob og : Nat) (A : Option Addr) (cap : Nat) (l : List Nat) (pre : List (Nat × Nat)) (W : World) : Prop where
  st : ∃ xs : List Int, xs.length = l.length ∧ BlkI W og xs ∧ (pre <+: backs l → ∀ k, l.length - pre.length ≤ k → k < l.length → xs[l.getD k 0]? = some (k : Int))
  out : Blk W ob 35 #[.slice (some ⟨og, 0, none⟩) l.length l.length]
  arg : Blk W w.heap.size 35 #[.slice A l.length cap]
  hb : Below w.heap.size w W
theorem ranks_own {w : World} {ob og cap B : Nat} {A : Option Addr} {l : List Nat} (hB : w.heap.size ≤ B) : OwnFrom B (fun (pre : List (Nat × Nat)) W => RanksI w ob og A cap l pre W) := by
  intro pre W W' row hI hg hr
  have ne : ∀ {g : Nat} {t : TypeId} {cs : Array Value}, Blk W g t cs → some g ≠ row := fun {g t cs} h e => by
    obtain ⟨_, o, ho, hc⟩ := hr g e.symm
    unfold Blk at h
    rw [h] at ho
    cases ho
    cases hc
  obtain ⟨xs, h1, h2, h3⟩ := hI.st
  exact ⟨⟨xs, h1, Blk.grown h2 hg (ne h2), h3⟩, hI.out.grown hg (ne hI.out), hI.arg.grown hg (ne hI.arg), hI.hb.grown hg hI.hb.size (fun k e => by have := (hr k e).1; omega)⟩
def RanksGive (w : World) (l : List Nat) (e : Ending) (w' : World) : Prop := ∃ g xs, w.heap.size ≤ g ∧ e = .returned (.slice (some ⟨g, 0, none⟩) l.length l.length) ∧ BlkI w' g xs ∧ xs.length = l.length ∧ (∀ k, k < l.length → xs[l.getD k 0]? = some (k : Int)) ∧ Below w.heap.size w w'
set_option maxHeartbeats 4000000 in
theorem s_ranks (F : Fence) (n : Nat) (h3 : F.fn 13) (h4 : F.fn 19) (h5 : F.fn 30) (hro : F.round = none) (hn : 4 ≤ n) (A : Option Addr) (cap : Nat) (l : List Nat) (hlen : l.length ≤ 1000000) (hlt' : ∀ x ∈ l, x < l.length) (hnd : l.Nodup) (w : World) (hA : ReadsI w A (nz l)) :
    CallsIn F n Try.prog 13 #[.slice A l.length cap] w (RanksGive w l) := by
  have h1 : 1 ≤ n := by omega
  have hmk := fun w : World => run_zerosB w l.length (by omega)
  refine callsIn_of_wp_marks Try.func13 rfl h3 ?_ hro
  simp only [Try.ntmps13, List.size_toArray, List.length_cons, List.length_nil, Nat.reduceAdd, Nat.reduceSub, Array.replicate_succ, Array.replicate_zero, List.push_toArray, List.append_toArray, List.nil_append, List.cons_append]
  have HST : Hid (RanksI w (w.heap.size + 1 + 1) (w.heap.size + 1) A cap l [] (((w.alloc (.cells #[.slice A l.length cap] 35)).alloc (.cells (ivals (List.replicate l.length 0)).toArray 3)).alloc (.cells #[.slice (some ⟨w.heap.size + 1, 0, none⟩) l.length l.length] 35))) := Lib.hid (by
    have g1 := BlkI.made (w.alloc (.cells #[.slice A l.length cap] 35)) l.length
    have g2 := Blk.new ((w.alloc (.cells #[.slice A l.length cap] 35)).alloc (.cells (ivals (List.replicate l.length 0)).toArray 3)) 35 #[.slice (some ⟨w.heap.size + 1, 0, none⟩) l.length l.length]
    rw [World.size_alloc] at g1
    rw [World.size_alloc, World.size_alloc] at g2
    exact ⟨⟨_, List.length_replicate, g1.alloc' _, fun _ k a b => by simp at a; omega⟩, g2, ((Blk.new w _ _).alloc _).alloc _, bl_alloc (bl_alloc (bl_alloc (Below.refl _ _) _) _) _⟩)
  gi_wp2
  gi_loopw [12] (fun v12 wr => ∃ i : Nat, i ≤ l.length ∧ v12 = .int .i64 i ∧ RanksI w (w.heap.size + 1 + 1) (w.heap.size + 1) A cap l [] wr) (fun v12 _ => l.length - (intOf v12).toNat)
  case atStart => exact ⟨0, Nat.zero_le _, rfl, HST.out⟩
  case round =>
    obtain ⟨i, hi, rfl, hI⟩ := hrel
    have c1 := Blk.cell hI.out 0
    have l1 := hI.out.lt
    by_cases hil : i < l.length
    · obtain ⟨xs, hx, hg, _⟩ := hI.st
      have c2 := hg.at_ i (by omega)
      have f2 := hg.frozen' i
      have l2 := hg.lt'
      have i1 : (i : Int) < (l.length : Int) := by omega
      have e4 : IntKind.i64.wrap ((i : Int) + 1) = (i : Int) + 1 := Go.IntWalk.i64_in _ (by omega)
      have HN : Hid (RanksI w (w.heap.size + 1 + 1) (w.heap.size + 1) A cap l [] (wr.setCell ⟨w.heap.size + 1, i, none⟩ (.int .i64 (-1)))) := Lib.hid
        ⟨⟨_, by rw [List.length_set]; exact hx, hg.set_ i (-1), fun _ k a b => by simp at a; omega⟩, hI.out.far (p := ⟨w.heap.size + 1, i, none⟩) (by show w.heap.size + 1 + 1 ≠ w.heap.size + 1; omega) _, hI.arg.far (p := ⟨w.heap.size + 1, i, none⟩) (by show w.heap.size ≠ w.heap.size + 1; omega) _, hI.hb.setCell (by show w.heap.size ≤ w.heap.size + 1; omega) _⟩
      generalize xs[i]'(by omega) = y at *
      clear hI hg hx
      gi_wp2
      go_roundw
      case rel => exact ⟨i + 1, by omega, by go_num, HN.out⟩
      case measure => simp [intOf]; omega
    · obtain rfl : i = l.length := by omega
      have c3 := Blk.cell hI.arg 0
      have l3 := hI.arg.lt
      have HI := Lib.hid hI
      clear hI hi hil
      gi_wp2_with (gi_at_call 19; refine (s_back F (n - 1) h4 hro A l.length cap _).mono ?_; rintro e w' ⟨rfl, rfl⟩)
      obtain ⟨wz, rfl⟩ : ∃ wz, wz = wr := ⟨_, rfl⟩
      have hB0 := bl_alloc (Below.refl wz.heap.size wz) (.cells #[.slice A l.length cap] 35)
      have hBx := Blk.new wz 35 #[.slice A l.length cap]
      obtain ⟨w1, hw1⟩ : ∃ w1, w1 = wz.alloc (.cells #[.slice A l.length cap] 35) := ⟨_, rfl⟩
      rw [← hw1] at hB0 hBx ⊢
      have hws : w1.heap.size = wz.heap.size + 1 := by rw [hw1, World.size_alloc]
      have hI1 : RanksI w (w.heap.size + 1 + 1) (w.heap.size + 1) A cap l [] w1 := ranks_own (B := w.heap.size) (Nat.le_refl _) [] wz w1 none HI.out (by rw [hw1]; exact World.grownBy_alloc _ _ none) (fun r e => by cases e)
      have hwz : w.heap.size < wz.heap.size := HI.out.arg.lt
      have hwzo : w.heap.size + 1 + 1 < wz.heap.size := HI.out.out.lt
      clear hw1
      refine wpIn_rangeFunc_ownG (α := Nat × Nat) (w0 := w1) (N := l.length) (encs := fun x => #[.int .i64 (x.1 : Int), .int .i64 (x.2 : Int)]) (Kp := fun a b => Below w.heap.size a b ∧ ∀ cs, Blk a wz.heap.size 35 cs → Blk b wz.heap.size 35 cs) (S := fun ys => ys = backs l) (Sp := fun pre => pre <+: backs l) hro h1 (gf := 30) (lb := #[.pointer (some ⟨wz.heap.size, 0, none⟩)]) rfl h5 (enters_of Try.func30 (by kernel_rfl) rfl)
        ?seq ?kt ?kb (Below.refl _ _) (fun _ => rfl) (fun pre W => RanksI w (w.heap.size + 1 + 1) (w.heap.size + 1) A cap l pre W) (fun _ _ _ => False) (ranks_own (by omega)) (fun _ _ _ _ _ hs _ _ => hs) hI1 ?a1 ?assign ?body ?done ?stop
      case kt => exact fun h k => ⟨h.1.trans k.1, fun cs q => k.2 cs (h.2 cs q)⟩
      case kb =>
        intro W lb o o' hl ho hcell _
        refine ⟨(Below.refl w.heap.size W).grown (grownBy_putObj' W lb o') (by have := (Array.getElem?_eq_some_iff.1 ho).1; omega) (fun k e => by cases e; omega), fun cs q => ?_⟩
        exact Blk.grown q (grownBy_putObj' W lb o') (fun e => by cases e; omega)
      case seq =>
        intro lb J Jx W hW _ _ hY h0
        have hBW : Blk W wz.heap.size 35 #[.slice A l.length cap] := hBx.below hW (by omega)
        refine s_back1 F (n - 1) h5 hro (by omega) lb wz.heap.size cap A l hlen (fun a b => Below w.heap.size a b ∧ ∀ cs, Blk a wz.heap.size 35 cs → Blk b wz.heap.size 35 cs) (fun h k => ⟨h.1.trans k.1, fun cs q => k.2 cs (h.2 cs q)⟩) J Jx hY W (fun W' hk => Blk.cell (hk.2 _ hBW) 0) (fun W' hk => ?_) ⟨Below.refl _ _, fun cs q => q⟩ h0
        exact hA.below (((hI1.hb).trans (hW.mono (by omega))).trans hk.1)
      case a1 => exact fun x => { tmps := #[.slice A l.length cap, .pointer (some ⟨w.heap.size, 0, none⟩), .slice none 0 0, .pointer (some ⟨w.heap.size + 1 + 1, 0, none⟩), u4, .int .i64 (x.1 : Int), .int .i64 (x.2 : Int), .slice A l.length cap, .int .i64 l.length, .slice (some ⟨w.heap.size + 1, 0, none⟩) l.length l.length, .slice (some ⟨w.heap.size + 1, 0, none⟩) l.length l.length, .int .i64 l.length, .int .i64 l.length, .bool false, u14, u15, u16, u17, u18, .slice A l.length cap, .func (.func 30) #[] #[.pointer (some ⟨wz.heap.size, 0, none⟩)], .int .i64 (x.1 : Int), .int .i64 (x.2 : Int), undef, undef, undef, undef, undef, undef, undef, undef, undef, undef, undef, undef, undef], defers := [] }
      case assign =>
        intro lb x W K hK
        gi_wp2
        exact hK
      case body =>
        rintro lb pre ⟨x1, x2⟩ W hI hlt
        simp only
        have c1 := Blk.cell hI.out 0
        have c2 := Blk.cell hI.arg 0
        obtain ⟨xs, hx, hg, hv⟩ := hI.st
        have HI := Lib.hid (And.intro hI (And.intro hx (And.intro hg hv)))
        clear hv
        by_cases hx2 : x2 < l.length
        · have c3 := hg.at_ x2 (by omega)
          have f3 := hg.frozen' x2
          have b1 : (x2 : Int) < (l.length : Int) := by omega
          have b0 : (0 : Int) ≤ (x2 : Int) := by omega
          have HN : Hid (RanksI w (w.heap.size + 1 + 1) (w.heap.size + 1) A cap l (pre ++ [(x1, x2)]) (W.setCell ⟨w.heap.size + 1, x2, none⟩ (.int .i64 (x1 : Int)))) := Lib.hid (by
            refine ⟨⟨_, by rw [List.length_set]; exact hx, hg.set_ x2 (x1 : Int), fun hp k hk1 hk2 => ?_⟩, hI.out.far (p := ⟨w.heap.size + 1, x2, none⟩) (by show w.heap.size + 1 + 1 ≠ w.heap.size + 1; omega) _, hI.arg.far (p := ⟨w.heap.size + 1, x2, none⟩) (by show w.heap.size ≠ w.heap.size + 1; omega) _, hI.hb.setCell (by show w.heap.size ≤ w.heap.size + 1; omega) _⟩
            have hp1 : pre <+: backs l := (List.prefix_append _ _).trans hp
            have hp2 := List.prefix_iff_eq_take.1 hp
            rw [List.length_append, List.length_cons, List.length_nil, Nat.zero_add, backs_take l hlt] at hp2
            have hlast := (List.append_inj' hp2 rfl).2
            simp only [List.cons.injEq, Prod.mk.injEq, and_true] at hlast
            obtain ⟨rfl, rfl⟩ := hlast
            rw [List.length_append, List.length_cons, List.length_nil] at hk1
            by_cases q : k = l.length - 1 - pre.length
            · subst q
              rw [List.getElem?_set_self (by omega)]
            · rw [List.getElem?_set_ne (fun e => q (by
                rw [getD_get _ _ (by omega), getD_get _ _ hk2] at e
                exact ((List.getElem_inj hnd).1 e).symm))]
              exact HI.out.2.2.2 hp1 k (by omega) hk2)
          generalize xs[x2]'(by omega) = y at *
          have hl1 : w.heap.size + 1 < W.heap.size := hg.lt'
          have hl2 : w.heap.size + 1 + 1 < W.heap.size := hI.out.lt
          have hl3 : w.heap.size < W.heap.size := hI.arg.lt
          clear hI hx hg
          gi_wp2
          exact ⟨(KeepsOthers.setCell _ _ _).from _, ⟨(Below.refl w.heap.size W).setCell (by show w.heap.size ≤ w.heap.size + 1; omega) _, fun cs q => Blk.far q (by show wz.heap.size ≠ w.heap.size + 1; omega) _⟩, HN.out⟩
        · have b1 : decide ((x2 : Int) < (l.length : Int)) = false := decide_eq_false (by omega)
          have b1n : decide (x2 < l.length) = false := decide_eq_false hx2
          have b0 : (0 : Int) ≤ (x2 : Int) := by omega
          have HN : Hid (RanksI w (w.heap.size + 1 + 1) (w.heap.size + 1) A cap l (pre ++ [(x1, x2)]) W) := Lib.hid (by
            refine ⟨⟨_, hx, hg, fun hp => ?_⟩, hI.out, hI.arg, hI.hb⟩
            have hp2 := List.prefix_iff_eq_take.1 hp
            rw [List.length_append, List.length_cons, List.length_nil, Nat.zero_add, backs_take l hlt] at hp2
            have hlast := (List.append_inj' hp2 rfl).2
            simp only [List.cons.injEq, Prod.mk.injEq, and_true] at hlast
            exfalso
            have := hlt' _ (show l.getD (l.length - 1 - pre.length) 0 ∈ l by rw [getD_get _ _ (by omega)]; exact List.getElem_mem _)
            omega)
          have hl2 : w.heap.size + 1 + 1 < W.heap.size := hI.out.lt
          have hl3 : w.heap.size < W.heap.size := hI.arg.lt
          clear hI hx hg
          gi_wp2
          exact ⟨KeepsFrom.refl _ _, ⟨Below.refl _ _, fun cs q => q⟩, HN.out⟩
      case stop =>
        rintro D c pre W _ _ h _
        exact h.elim
      case done =>
        rintro D ys W hD rfl hI hK
        have c1 := Blk.cell hI.out 0
        have l1 := hI.out.lt
        obtain ⟨xs, hx, hg, hv⟩ := hI.st
        have HV := Lib.hid (And.intro hx (And.intro hg (And.intro (hv List.prefix_rfl) hI.hb)))
        clear hv hg hI
        gi_wp2
        refine ⟨by simp, .inl ⟨_, _, rfl, run_takeDeferred hK, ?_⟩⟩
        obtain ⟨h1, h2, h3, h4⟩ := HV.out
        refine ⟨_, results_tmp rfl _ _ _, w.heap.size + 1, xs, by omega, rfl, ?_, h1, fun k hk => h3 k (by rw [backs_len]; omega) hk, ?_⟩
        · exact Blk.grown h2 (grownBy_putObj' W D _) (fun e => by cases e; omega)
        · exact h4.grown (grownBy_putObj' W D _) h4.size (fun k e => by cases e; omega)
theorem p_Ranks (A : Option Addr) (cap : Nat) (l : List Nat) (hlen : l.length ≤ 1000000) (hlt' : ∀ x ∈ l, x < l.length) (hnd : l.Nodup) (w : World) (hA : ReadsI w A (nz l)) :
    Calls Try.prog 13 #[.slice A l.length cap] w (RanksGive w l) :=
  (callsIn_wide (n := 6)).1 (s_ranks Fence.wide 6 trivial trivial trivial rfl (by omega) A cap l hlen hlt' hnd w hA)
theorem ranks_sa {t a : List Nat} (ha : IsSA t a) {xs : List Int} (hl : xs.length = a.length) (h : ∀ k, k < a.length → xs[a.getD k 0]? = some (k : Int)) : xs = nz (tab a.length (rankOf a)) := by
  refine List.ext_getElem (by rw [nz_length, tab_length]; exact hl) (fun x h1 h2 => ?_)
  have hx : x < t.length := by rw [hl, ha.len] at h1; exact h1
  have hr := rank_lt ha hx
  have hg := rank_get ha hx
  have h3 := h (rankOf a x) hr
  rw [getD_get _ _ hr, hg, List.getElem?_eq_getElem h1] at h3
  rw [nz_get _ (by rw [tab_length]; omega), tab_get _ (by omega)]
  injection h3
theorem p_Ranks_sa (A : Option Addr) (cap : Nat) (t a : List Nat) (ha : IsSA t a) (hlen : a.length ≤ 1000000) (w : World) (hA : ReadsI w A (nz a)) :
    Calls Try.prog 13 #[.slice A a.length cap] w (GivesN w (tab a.length (rankOf a))) := by
  refine (p_Ranks A cap a hlen (fun x hx => by rw [ha.len]; exact (ha.mem x).1 hx) ha.nodup w hA).mono ?_
  rintro e w' ⟨g, xs, h1, rfl, h2, h3, h4, h5⟩
  have := ranks_sa ha h3 h4
  subst this
  exact ⟨g, h1, by rw [tab_length], h2, h5⟩
end Go.Proofs.Ytbalodhgbpagfaa
