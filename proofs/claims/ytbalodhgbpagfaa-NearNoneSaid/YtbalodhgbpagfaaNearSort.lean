/- The library's SortFunc at matches, the longest first. -/
import Derived.Test.YtbalodhgbpagfaaMtRow
import Derived.Test.YtbalodhgbpagfaaNearMeet
import Derived.Test.YtbalodhgbpagfaaSh21
import Derived.IntWalk
set_option linter.unusedSimpArgs false
set_option linter.unusedVariables false
set_option maxRecDepth 100000
namespace Go.Proofs.Ytbalodhgbpagfaa
open Go.RowKit Go.Sort Go.Lib

abbrev MtB := { m : Mt // m.len ≤ 100000 }
instance : Inhabited MtB := ⟨⟨mt0, by decide⟩⟩
def encM (m : MtB) : List Value := mtCells m.1
def cfM (x y : MtB) : Int := (y.1.len : Int) - (x.1.len : Int)
theorem ltM (x y : MtB) : ltOf cfM x y = decide (y.1.len < x.1.len) := by
  unfold ltOf cfM
  rw [decide_eq_decide]
  omega
theorem swoM : SWO (ltOf cfM) where
  irrefl x := by rw [ltM]; simp
  trans x y z h1 h2 := by rw [ltM] at *; simp only [decide_eq_true_eq] at *; omega
  ntrans x y z h1 h2 := by rw [ltM] at *; simp only [decide_eq_false_iff_not] at *; omega
def vM (l : List MtB) : List Mt := l.map (·.1)
theorem flatM_get (l : List MtB) (j : Nat) (hj : j < l.length * 2) : (flatK encM 2 l.toArray)[j]! = ((mvals (vM l))[j]?).getD default := by
  rw [get_flatK _ _ _ _ (by simpa using hj)]
  have hi : j / 2 < l.length := by omega
  have e : j = j / 2 * 2 + j % 2 := by omega
  have hi2 : j / 2 < (vM l).length := by simpa [vM] using hi
  have e1 : (mvals (vM l))[j]? = (mtCells (vM l)[j / 2])[j % 2]? := by
    conv => lhs; rw [e]
    exact mvals_get (vM l) (j / 2) (j % 2) hi2 (by omega)
  rw [e1]
  have e2 : l.toArray[j / 2]! = l[j / 2] := by simp [hi]
  rw [e2, List.getElem!_eq_getElem?_getD]
  simp [vM, encM]
theorem holds_mt {w : World} {base g o cap : Nat} {l : List MtB} (h : RowM w base (.slice (some ⟨g, o, none⟩) l.length cap) (vM l)) : HoldsK encM 2 w g o l.toArray := by
  intro j hj
  have hl : (vM l).length = l.length := by simp [vM]
  have hj' : j < l.length * 2 := by simpa using hj
  obtain ⟨u, hu⟩ : ∃ u, (mvals (vM l))[j]? = some u := ⟨_, List.getElem?_eq_getElem (by rw [mvals_length, hl]; exact hj')⟩
  have hrow : Row w base 31 2 (.slice (some ⟨g, o, none⟩) l.length cap) l.length (mvals (vM l)) := by
    have := h; unfold RowM at this; rwa [hl] at this
  refine ⟨?_, Row.frozen hrow rfl j hj'⟩
  have hc := Row.cells hrow rfl j u hu
  rw [addr_add] at hc
  rw [hc, flatM_get l j hj', hu]
  rfl
theorem heap_putRowK (w : World) (g o n : Nat) (d : Array MtB) (os : Array Obj) {cur : Array Value} {e : TypeId} {m : Nat × Nat} (h : w.heap[g]? = some (.cells cur e m)) : ∃ cur', (sortWorldK encM 2 w g o n d os).heap[g]? = some (.cells cur' e m) ∧ cur'.size = cur.size := by
  have hg := heap_lt h
  unfold sortWorldK
  rw [Go.Sort.heap_grow_old _ _ (by simp [putRowK, putRow, mapBlock, Sort.ahead]; exact hg)]
  simp only [putRowK, putRow, mapBlock, Sort.ahead, Array.getElem?_modify, if_true, h, Option.map_some, onCells]
  exact ⟨_, rfl, by simp [putCells]⟩
theorem grownBy_sortM (w : World) (g o n : Nat) (d : Array MtB) (os : Array Obj) : w.grownBy (sortWorldK encM 2 w g o n d os) (some g) := by
  refine ⟨rfl, rfl, rfl, by simp [sortWorldK, putRowK, putRow, mapBlock, Sort.ahead, grow], fun k hk hne => ?_⟩
  have : g ≠ k := fun e => hne (by rw [e])
  unfold sortWorldK
  rw [Go.Sort.heap_grow_old _ _ (by simp [putRowK, putRow, mapBlock, Sort.ahead]; exact hk)]
  simp [putRowK, putRow, mapBlock, Sort.ahead, Array.getElem?_modify, this]
theorem row_sortM {w : World} {base g o c n : Nat} {l l' : List MtB} {os : Array Obj} (h : RowM w base (.slice (some ⟨g, o, none⟩) l.length c) (vM l)) (hl : l'.length = l.length) : RowM (sortWorldK encM 2 w g o n l'.toArray os) base (.slice (some ⟨g, o, none⟩) l.length c) (vM l') := by
  have hH := holds_mt h
  have hl1 : (vM l).length = l.length := by simp [vM]
  have hl2 : (vM l').length = l.length := by simp [vM, hl]
  obtain ⟨h1, h2⟩ := h
  refine ⟨by rw [mvals_length], ?_⟩
  rcases h2 with ⟨hv, hz⟩ | ⟨g', o', cap, cur, m, hv, hb, hh, hn, hm, hr, hx, hk⟩
  · simp at hv
  · simp only [Value.slice.injEq, Option.some.injEq, Addr.mk.injEq, and_true] at hv
    obtain ⟨⟨rfl, rfl⟩, hnn, rfl⟩ := hv
    obtain ⟨cur', s1, s2⟩ := heap_putRowK w g o n l'.toArray os hh
    have hH2 := holdsK_sortWorldK_c encM 2 w g o l.toArray l'.toArray n os hH (heap_lt hh) (by simp [hl])
    right
    refine ⟨g, o, c, cur', m, by rw [hl2], hb, s1, by rw [hl2]; omega, hm, by omega, ?_, hk⟩
    rw [hl2]
    have hsl : (mvals (vM l')).length = l.length * 2 := by rw [mvals_length, hl2]
    have hcl : cur'.toList.length = cur'.size := Array.length_toList
    apply List.ext_getElem?
    intro j
    by_cases hj : j < l.length * 2
    · rw [List.getElem?_take_of_lt hj, List.getElem?_drop]
      have := (hH2 j (by simpa [hl] using hj)).1
      rw [heap_cell' s1, flatM_get l' j (by rw [hl]; exact hj)] at this
      rw [Array.getElem?_toList, show o + j = o + j from rfl]
      simp only [id] at this
      rw [this]
      rw [List.getElem?_eq_getElem (by rw [hsl]; exact hj)]
      rfl
    · rw [List.getElem?_eq_none (by rw [List.length_take]; omega), List.getElem?_eq_none (by rw [hsl]; omega)]
theorem p_cmpM (x y : MtB) (W : World) : Calls Try.prog 23 #[.agg (encM x).toArray, .agg (encM y).toArray] W fun e w' => e = .returned (.int .i64 (cfM x y)) ∧ ∃ q os', w' = grow (W.drewN q) os' := by
  obtain ⟨⟨xl, xd⟩, hx⟩ := x
  obtain ⟨⟨yl, yd⟩, hy⟩ := y
  have hx1 : xl ≤ 100000 := hx
  have hy1 : yl ≤ 100000 := hy
  show Calls Try.prog 23 #[.agg #[.int .i64 (xl : Nat), .int .i64 (xd : Nat)], .agg #[.int .i64 (yl : Nat), .int .i64 (yd : Nat)]] W fun e w' => e = .returned (.int .i64 ((yl : Int) - (xl : Int))) ∧ ∃ q os', w' = grow (W.drewN q) os'
  clear hx hy
  go_enter Try.func23, Try.ntmps23
  go_wp2
  go_ret
  refine ⟨rfl, 0, #[.cells #[.int .i64 (xl : Nat), .int .i64 (xd : Nat)] 31, .cells #[.int .i64 (yl : Nat), .int .i64 (yd : Nat)] 31], ?_⟩
  rw [alloc_eq_grow, alloc_eq_grow, grow_grow]
  rfl
def SortedM (w : World) (base : Nat) (v : Value) (out : List Mt) (e : Ending) (w' : World) : Prop := e = .returned (.tuple #[]) ∧ ∃ all : List Mt, RowM w' base v all ∧ all.Perm out ∧ all.Pairwise (fun x y => y.len < x.len) ∧ w.grownBy w' v.ownBlock
theorem vM_pmap (out : List Mt) (hb : ∀ m ∈ out, m.len ≤ 100000) : vM (out.pmap Subtype.mk hb) = out := by
  unfold vM
  rw [List.map_pmap]
  simp
theorem p_SortM (w : World) (base : Nat) (v : Value) (out : List Mt) (h : RowM w base v out) (hl : out.length ≤ 1000000) (hb : ∀ m ∈ out, m.len ≤ 100000) (hd : out.Pairwise (fun x y => x.len ≠ y.len)) :
    Calls Try.prog 22 #[v, .func (.func 23) #[] #[]] w (SortedM w base v out) := by
  by_cases h0 : out = []
  · subst h0
    obtain ⟨A, c, rfl, _⟩ := Row.slice h
    have hcon := AnyF.slices_SortFunc_none { Try.sf22 with } A c (.func (.func 23) #[] #[]) w
    change Calls Try.prog 22 _ _ _ at hcon
    refine hcon.mono ?_
    rintro e w' ⟨rfl, rfl⟩
    exact ⟨rfl, [], h, List.Perm.refl _, List.Pairwise.nil, World.grownBy.refl _ _⟩
  · obtain ⟨g, o, c, rfl, hbase, hg, hlc⟩ := RowM.form h (List.length_pos_iff.2 h0)
    obtain ⟨L, hv⟩ : ∃ L : List MtB, vM L = out := ⟨_, vM_pmap out hb⟩
    have hpl : L.length = out.length := by rw [← hv]; simp [vM]
    have hr : RowM w base (.slice (some ⟨g, o, none⟩) L.length c) (vM L) := by rw [hv, hpl]; exact h
    have hcon : Calls Try.prog 22 #[.slice (some ⟨g, o, none⟩) L.length c, .func (.func 23) #[] #[]] w fun e w' => e = .returned (.tuple #[]) ∧ ∃ d' n os, PermIn 0 L.toArray.size L.toArray d' ∧ SortedIn (ltOf cfM) 0 L.toArray.size d' ∧ w' = sortWorldK encM 2 w g o n d' os :=
      AnyQ.slices_SortFunc Try.sf22 2 Try.isAgg31 Try.sizeOf31 encM (fun _ => rfl) (fun x v hv => by simp [encM, mtCells] at hv; rcases hv with rfl | rfl <;> rfl) cfM swoM 23 #[] g o c L.toArray w (enters_of Try.func23 (by kernel_rfl) rfl) (fun m os dk _ x y => p_cmpM x y _) (holds_mt hr) hg (by simp; omega)
    rw [hpl] at hcon
    refine hcon.mono ?_
    rintro e w' ⟨rfl, d', n, os, hp, hs, rfl⟩
    obtain ⟨l', rfl⟩ : ∃ l' : List MtB, d' = l'.toArray := ⟨d'.toList, rfl⟩
    obtain ⟨p1, _, p3⟩ := hp
    have hl' : l'.length = L.length := by simpa using p1
    have e1 : l'.toArray.extract 0 L.toArray.size = l'.toArray := by rw [← p1]; exact Array.extract_size
    rw [e1, Array.extract_size] at p3
    have p4 : l'.Perm L := p3
    have hrs := row_sortM (n := n) (os := os) hr hl'
    rw [hpl] at hrs
    have hpm : (vM l').Perm out := by rw [← hv]; exact p4.map _
    refine ⟨rfl, vM l', hrs, hpm, ?_, grownBy_sortM w g o n _ os⟩
    have hd2 : (vM l').Pairwise (fun x y => x.len ≠ y.len) := (hpm.pairwise_iff (fun h => h.symm)).2 hd
    refine List.Pairwise.imp ?_ (List.Pairwise.and (?_ : (vM l').Pairwise (fun x y => ¬ x.len < y.len)) hd2)
    · intro a b hab
      have h1 := hab.1
      have h2 := hab.2
      omega
    · rw [List.pairwise_iff_getElem]
      intro i j hi hj hij
      have hi' : i < l'.length := by simpa [vM] using hi
      have hj' : j < l'.length := by simpa [vM] using hj
      have := hs i j (Nat.zero_le _) hij (by simp; omega)
      rw [getElem!_pos l'.toArray j (by simpa using hj'), getElem!_pos l'.toArray i (by simpa using hi'), ltM] at this
      simpa [vM] using this
end Go.Proofs.Ytbalodhgbpagfaa
