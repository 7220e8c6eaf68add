/- slices.SortFunc at clauses: the kit's contract laid here, and the closure's walk. The numbers of functions and types are this seat's. -/
import Derived.Test.YtkdhckiljfjanaaSyV
import Derived.Test.YtkdhckiljfjanaaT
import Derived.Test.YtkdhckiljfjanaaProg
import Derived.Shelf.SlSortCmp.NoneTotal
import Derived.Deep.RegionHeld3
import Derived.RangeFuncRecord
namespace Go.Proofs
open Go.Shelf Go.RowKit Go.Lib Go.Sort
def Try.sort9_ren : Go.Shelf.Ren := ⟨fun | 6 => 9 | 15 => 16 | 14 => 15 | 28 => 27 | 29 => 28 | 20 => 19 | 21 => 20 | 22 => 21 | 23 => 22 | 24 => 23 | 25 => 24 | 26 => 25 | 27 => 26 | 46 => 29 | 47 => 30 | 48 => 31 | 49 => 32 | 50 => 33 | 57 => 34 | n => n, fun | 22 => 23 | 24 => 34 | 25 => 38 | 3 => 3 | 39 => 39 | 0 => 0 | 53 => 32 | 55 => 57 | 4 => 4 | 46 => 49 | 45 => 48 | 50 => 53 | 5 => 5 | 9 => 9 | 66 => 58 | 70 => 62 | 76 => 64 | 77 => 65 | n => n, fun | n => n⟩
theorem Try.sort9 : Go.Proofs.SlLaysF0.n6 Try.prog Try.sort9_ren := {
  mixed := by kernel_rfl
  f6 := ⟨Try.f9.name, by decide, Try.func9.trans (congrArg some (by kernel_rfl))⟩
  f14 := ⟨Try.f15.name, by decide, Try.func15.trans (congrArg some (by kernel_rfl))⟩
  f15 := Try.func16.trans (congrArg some (by kernel_rfl))
  f20 := ⟨Try.f19.name, by decide, Try.func19.trans (congrArg some (by kernel_rfl))⟩
  f21 := ⟨Try.f20.name, by decide, Try.func20.trans (congrArg some (by kernel_rfl))⟩
  f22 := ⟨Try.f21.name, by decide, Try.func21.trans (congrArg some (by kernel_rfl))⟩
  f23 := ⟨Try.f22.name, by decide, Try.func22.trans (congrArg some (by kernel_rfl))⟩
  f24 := ⟨Try.f23.name, by decide, Try.func23.trans (congrArg some (by kernel_rfl))⟩
  f25 := ⟨Try.f24.name, by decide, Try.func24.trans (congrArg some (by kernel_rfl))⟩
  f26 := ⟨Try.f25.name, by decide, Try.func25.trans (congrArg some (by kernel_rfl))⟩
  f27 := ⟨Try.f26.name, by decide, Try.func26.trans (congrArg some (by kernel_rfl))⟩
  f28 := Try.func27.trans (congrArg some (by kernel_rfl))
  f29 := Try.func28.trans (congrArg some (by kernel_rfl))
  f46 := ⟨Try.f29.name, by decide, Try.func29.trans (congrArg some (by kernel_rfl))⟩
  f47 := Try.func30.trans (congrArg some (by kernel_rfl))
  f48 := Try.func31.trans (congrArg some (by kernel_rfl))
  f49 := ⟨Try.f32.name, by decide, Try.func32.trans (congrArg some (by kernel_rfl))⟩
  f50 := ⟨Try.f33.name, by decide, Try.func33.trans (congrArg some (by kernel_rfl))⟩
  f57 := ⟨Try.f34.name, by decide, Try.func34.trans (congrArg some (by kernel_rfl))⟩
  t0 := Try.underlying0
  a0 := Try.isAgg0
  z0 := Try.sizeOf0
  v0 := Try.zeroValue0
  t3 := Try.underlying3
  a3 := Try.isAgg3
  z3 := Try.sizeOf3
  v3 := Try.zeroValue3
  t4 := Try.underlying4
  a4 := Try.isAgg4
  z4 := Try.sizeOf4
  v4 := Try.zeroValue4
  t5 := Try.underlying5
  a5 := Try.isAgg5
  z5 := Try.sizeOf5
  v5 := Try.zeroValue5
  t9 := Try.underlying9
  a9 := Try.isAgg9
  z9 := Try.sizeOf9
  v9 := Try.zeroValue9
  t22 := Try.underlying23
  a22 := Try.isAgg23
  z22 := Try.sizeOf23
  v22 := Try.zeroValue23
  t25 := Try.underlying38
  a25 := Try.isAgg38
  z25 := Try.sizeOf38
  v25 := Try.zeroValue38
  t39 := Try.underlying39
  a39 := Try.isAgg39
  z39 := Try.sizeOf39
  v39 := Try.zeroValue39
  t45 := Try.underlying48
  a45 := Try.isAgg48
  z45 := Try.sizeOf48
  v45 := Try.zeroValue48
  t46 := Try.underlying49
  a46 := Try.isAgg49
  z46 := Try.sizeOf49
  v46 := Try.zeroValue49
  t50 := Try.underlying53
  a50 := Try.isAgg53
  z50 := Try.sizeOf53
  v50 := Try.zeroValue53
  t53 := Try.underlying32
  a53 := Try.isAgg32
  z53 := Try.sizeOf32
  v53 := Try.zeroValue32
  t55 := Try.underlying57
  a55 := Try.isAgg57
  z55 := Try.sizeOf57
  v55 := Try.zeroValue57
  t66 := Try.underlying58
  a66 := Try.isAgg58
  z66 := Try.sizeOf58
  v66 := Try.zeroValue58
  t70 := Try.underlying62
  a70 := Try.isAgg62
  z70 := Try.sizeOf62
  v70 := Try.zeroValue62
  t76 := Try.underlying64
  a76 := Try.isAgg64
  z76 := Try.sizeOf64
  v76 := Try.zeroValue64
  t77 := Try.underlying65
  a77 := Try.isAgg65
  z77 := Try.sizeOf65
  v77 := Try.zeroValue65 }
end Go.Proofs
namespace Go.Proofs.Ytkdhckiljfjanaa.Sy
set_option linter.unusedVariables false
section
open Go.Shelf Go.RowKit Go.Lib Go.Sort
instance : Inhabited Clause := ⟨⟨0#32, 0#32⟩⟩
def cmpU (a b : Nat) : Int := if a < b then -1 else if b < a then 1 else 0
def sortCf (x y : Clause) : Int := if cmpU x.yes.toNat y.yes.toNat ≠ 0 then cmpU x.yes.toNat y.yes.toNat else cmpU x.no.toNat y.no.toNat

theorem nan_eq (x : Nat) (W : World) : Calls Try.prog 17 #[.int .u32 (x : Int)] W fun e w' => e = .returned (.bool false) ∧ w' = W := by
  go_enter Try.func17, Try.ntmps17
  go_wp2
  go_ret
  exact ⟨by simp, rfl⟩
theorem compare_eq (x y : Nat) (W : World) : Calls Try.prog 12 #[.int .u32 (x : Int), .int .u32 (y : Int)] W fun e w' => e = .returned (.int .i64 (cmpU x y)) ∧ w' = W := by
  unfold cmpU
  have e17 : ∀ args w, (callFunc 17 args).run Try.prog w = .ok (.enter 17 args) w := enters_of Try.func17 (by kernel_rfl) rfl
  go_enter Try.func12, Try.ntmps12
  go_wp2_with (go_at_fn 17; refine (nan_eq _ _).mono ?_; rintro e w' ⟨rfl, rfl⟩)
  all_goals go_ret
  all_goals exact ⟨by simp_all, rfl⟩
theorem or_eq (b : Nat) (x y : Int) (W : World) (h0 : W.cell? ⟨b, 0, none⟩ = some (.int .i64 x)) (h1 : W.cell? ⟨b, 1, none⟩ = some (.int .i64 y)) : Calls Try.prog 11 #[.slice (some ⟨b, 0, none⟩) 2 2] W fun e w' => e = .returned (.int .i64 (if x ≠ 0 then x else y)) ∧ w' = W := by
  obtain ⟨r, hr⟩ : ∃ r, r = (if x ≠ 0 then x else y) := ⟨_, rfl⟩
  rw [← hr]
  go_enter Try.func11, Try.ntmps11
  go_wp2
  refine wp_loop_rounds 3 ?_
  rw [rounds_succ]
  by_cases hx : x = 0
  · subst hx
    rw [if_neg (by simp)] at hr
    subst hr
    go_wp2
    rw [rounds_succ]
    by_cases hy : r = 0
    · subst hy
      go_wp2
      rw [rounds_succ]
      go_wp2
      go_ret
      exact ⟨rfl, rfl⟩
    · have hb : (r != 0) = true := by simpa using hy
      go_wp2
      go_ret
      exact ⟨rfl, rfl⟩
  · rw [if_pos hx] at hr
    subst hr
    have hb : (r != 0) = true := by simpa using hx
    go_wp2
    go_ret
    exact ⟨rfl, rfl⟩
theorem or_eq' (b : Nat) (x y r : Int) (hr : r = if x ≠ 0 then x else y) (W : World) (h0 : W.cell? ⟨b, 0, none⟩ = some (.int .i64 x)) (h1 : W.cell? ⟨b, 1, none⟩ = some (.int .i64 y)) : Calls Try.prog 11 #[.slice (some ⟨b, 0, none⟩) 2 2] W fun e w' => e = .returned (.int .i64 r) ∧ w' = W := by
  rw [hr]
  exact or_eq b x y W h0 h1
theorem third_at (W : World) (A B : Obj) (u v : Value) (t : TypeId) : (((W.alloc A).alloc B).alloc (.cells #[u, v] t)).drew.cell? ⟨W.heap.size + 1 + 1, 0, none⟩ = some u ∧ (((W.alloc A).alloc B).alloc (.cells #[u, v] t)).drew.cell? ⟨W.heap.size + 1 + 1, 1, none⟩ = some v := by
  have h : (((W.alloc A).alloc B).alloc (.cells #[u, v] t)).drew.heap[W.heap.size + 1 + 1]? = some (.cells #[u, v] t) := by
    have := World.alloc_heap_new ((W.alloc A).alloc B) (.cells #[u, v] t)
    rw [World.size_alloc, World.size_alloc] at this
    exact this
  constructor
  · simp only [World.cell?, h]; rfl
  · simp only [World.cell?, h]; rfl
set_option maxRecDepth 100000 in
set_option maxHeartbeats 4000000 in
theorem sort_clo (x y : Clause) (W : World) : Calls Try.prog 10 #[.agg #[.int .u32 (x.yes.toNat : Int), .int .u32 (x.no.toNat : Int)], .agg #[.int .u32 (y.yes.toNat : Int), .int .u32 (y.no.toNat : Int)]] W fun e w' => e = .returned (.int .i64 (sortCf x y)) ∧ ∃ q os', w' = Go.Sort.grow (W.drewN q) os' := by
  unfold sortCf
  generalize x.yes.toNat = a
  generalize x.no.toNat = b
  generalize y.yes.toNat = c
  generalize y.no.toNat = d
  obtain ⟨r, hr⟩ : ∃ r, r = if cmpU a c ≠ 0 then cmpU a c else cmpU b d := ⟨_, rfl⟩
  rw [← hr]
  have hor := fun blk W' h0 h1 => or_eq' blk (cmpU a c) (cmpU b d) r hr W' h0 h1
  clear hr
  go_enter Try.func10, Try.ntmps10
  go_wp2
  go_region_held3 (fun w' => w'.cell? ⟨W.heap.size, 0, none⟩ = some (.int .u32 (a : Int)) ∧ w'.cell? ⟨W.heap.size, 1, none⟩ = some (.int .u32 (b : Int)) ∧ w'.cell? ⟨W.heap.size + 1, 0, none⟩ = some (.int .u32 (c : Int)) ∧ w'.cell? ⟨W.heap.size + 1, 1, none⟩ = some (.int .u32 (d : Int))) (go_keep)
    (first | (go_at_call 12; refine (compare_eq _ _ _).mono ?_; rintro e w' ⟨rfl, rfl⟩) | (go_at_call 11; refine (hor _ _ (third_at _ _ _ _ _ _).1 (third_at _ _ _ _ _ _).2).mono ?_; rintro e w' ⟨rfl, rfl⟩))
  all_goals go_wp2
  all_goals go_ret
  all_goals exact ⟨rfl, 1, _, by rw [alloc_eq_grow, alloc_eq_grow, alloc_eq_grow, grow_grow, grow_grow]; rfl⟩

theorem cmpU_lt (a b : Nat) : cmpU a b < 0 ↔ a < b := by
  unfold cmpU
  split
  · omega
  · split <;> omega
theorem cmpU_zero (a b : Nat) : cmpU a b = 0 ↔ a = b := by
  unfold cmpU
  split
  · omega
  · split <;> omega
theorem ltCf (x y : Clause) : ltOf sortCf x y = decide (x.yes.toNat < y.yes.toNat ∨ (x.yes.toNat = y.yes.toNat ∧ x.no.toNat < y.no.toNat)) := by
  unfold ltOf sortCf
  rw [Bool.eq_iff_iff, decide_eq_true_eq, decide_eq_true_eq]
  have h1 := cmpU_lt x.yes.toNat y.yes.toNat
  have h2 := cmpU_zero x.yes.toNat y.yes.toNat
  have h3 := cmpU_lt x.no.toNat y.no.toNat
  by_cases e : cmpU x.yes.toNat y.yes.toNat = 0
  · rw [if_neg (by simpa using e), h3]
    have := h2.1 e
    omega
  · rw [if_pos e, h1]
    have : x.yes.toNat ≠ y.yes.toNat := fun h => e (h2.2 h)
    omega
theorem swoCf : SWO (ltOf sortCf) where
  irrefl x := by rw [ltCf]; simp
  trans x y z h1 h2 := by rw [ltCf, decide_eq_true_eq] at *; omega
  ntrans x y z h1 h2 := by rw [ltCf, decide_eq_false_iff_not] at *; omega

def sortC (xs : List Clause) : List Clause := (pdq (ltOf sortCf) xs.toArray 0 xs.length (Lib.bitLen xs.length) true true).toList
/-- In order: by Yes, then by No. -/
def cle (a b : Clause) : Prop := a.yes.toNat < b.yes.toNat ∨ (a.yes.toNat = b.yes.toNat ∧ a.no.toNat ≤ b.no.toNat)
theorem sortC_all (xs : List Clause) : (sortC xs).Perm xs ∧ (sortC xs).Pairwise cle := by
  obtain ⟨h1, h2⟩ := pdq_sorts (ltOf sortCf) swoCf xs.toArray 0 xs.length (Lib.bitLen xs.length) true true (Nat.zero_le _) (by simp) (Or.inl rfl)
  obtain ⟨r, hr⟩ : ∃ r, r = pdq (ltOf sortCf) xs.toArray 0 xs.length (Lib.bitLen xs.length) true true := ⟨_, rfl⟩
  unfold sortC
  rw [← hr] at h1 h2 ⊢
  obtain ⟨h3, _, h4⟩ := h1
  have hs : r.size = xs.length := by simpa using h3
  refine ⟨?_, ?_⟩
  · have e1 : r.extract 0 xs.length = r := by rw [← hs]; simp
    have e2 : xs.toArray.extract 0 xs.length = xs.toArray := by simp
    rw [e1, e2] at h4
    exact h4
  · rw [List.pairwise_iff_getElem]
    intro i j hi hj hij
    have := h2 i j (Nat.zero_le _) hij (by rw [Array.length_toList] at hj; omega)
    rw [ltCf, decide_eq_false_iff_not] at this
    rw [Array.length_toList] at hi hj
    rw [getElem!_pos r j hj, getElem!_pos r i hi] at this
    simp only [Array.getElem_toList]
    unfold cle
    omega

def slices_SortFunc_SapiClauseapiClause_f10 (xs : List Clause) : Option (List Clause) :=
  bif decide (xs.length < 4611686018427387904) then some (sortC xs) else none
theorem slices_SortFunc_SapiClauseapiClause_f10_ok (w0 : World) (m : Snap) (l : List HI) (u : Value) (xs : List Clause) (r : List Clause) (hr : slices_SortFunc_SapiClauseapiClause_f10 xs = some r) (w : World) (hc : cX w0 ⟨m, hownT 34 2 Clause.enc u xs :: l⟩ w) :
    Calls Try.prog 9 [u, .func (.func 10) #[] #[]].toArray w fun e w' => e = .returned (.tuple #[]) ∧ cX w0 ⟨m, hownT 34 2 Clause.enc u r :: l⟩ w' := by
  unfold slices_SortFunc_SapiClauseapiClause_f10 at hr
  obtain ⟨hq, hr⟩ := guard_some hr
  have h1 := of_decide_eq_true hq
  cases hr
  by_cases h0 : 0 < xs.length
  · exact sort_own Try.sort9 2 Try.isAgg34 Try.sizeOf34 Clause.enc (fun _ => rfl) (fun x v hv => by simp [Clause.enc] at hv; rcases hv with rfl | rfl <;> rfl) sortCf swoCf 10 (enters_of Try.func10 (by kernel_rfl) rfl) (fun x y W => sort_clo x y W) w0 m l 34 u xs h0 h1 w hc
  · have hx : xs = [] := List.length_eq_zero_iff.1 (by omega)
    subst hx
    have hs : sortC [] = [] := List.perm_nil.1 (sortC_all []).1
    rw [hs]
    have hu : ∃ p cap, u = .slice p 0 cap := by
      obtain ⟨_, _, _, _, _, hit, _⟩ := cX_at (p := 0) hc rfl
      rcases hit.2 with ⟨h, _⟩ | ⟨b, cap, cur, h, _⟩
      · exact ⟨none, 0, h⟩
      · exact ⟨_, cap, h⟩
    obtain ⟨p, cap, rfl⟩ := hu
    exact (AnyF.slices_SortFunc_none Try.sort9 p cap (.func (.func 10) #[] #[]) w).mono fun e w' ⟨he, hw⟩ => by subst hw; exact ⟨he, hc⟩
end
end Go.Proofs.Ytkdhckiljfjanaa.Sy
