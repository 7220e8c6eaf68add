/- slices.SortFunc at concepts: the kit's contract laid here, and the closure's walk. The numbers of functions and types are this seat's. -/
import Derived.Test.YtefaglkgpaloeaaSyV
import Derived.Test.YtefaglkgpaloeaaT
import Derived.Test.YtefaglkgpaloeaaProg
namespace Go.Proofs
open Go.Shelf Go.RowKit Go.Lib Go.Sort
def Try.sort28_ren : Go.Shelf.Ren := ⟨fun | 6 => 28 | 15 => 33 | 14 => 32 | 28 => 42 | 29 => 43 | 20 => 34 | 21 => 35 | 22 => 36 | 23 => 37 | 24 => 38 | 25 => 39 | 26 => 40 | 27 => 41 | 46 => 44 | 47 => 45 | 48 => 46 | 49 => 47 | 50 => 48 | 57 => 49 | n => n, fun | 22 => 40 | 24 => 44 | 25 => 55 | 3 => 3 | 39 => 49 | 0 => 0 | 53 => 23 | 55 => 70 | 4 => 4 | 46 => 62 | 45 => 61 | 50 => 66 | 5 => 5 | 9 => 9 | 66 => 71 | 70 => 75 | 76 => 77 | 77 => 78 | n => n, fun | n => n⟩
theorem Try.sort28 : Go.Proofs.SlLaysF0.n6 Try.prog Try.sort28_ren := {
  mixed := by kernel_rfl
  f6 := ⟨Try.f28.name, by decide, Try.func28.trans (congrArg some (by kernel_rfl))⟩
  f14 := ⟨Try.f32.name, by decide, Try.func32.trans (congrArg some (by kernel_rfl))⟩
  f15 := Try.func33.trans (congrArg some (by kernel_rfl))
  f20 := ⟨Try.f34.name, by decide, Try.func34.trans (congrArg some (by kernel_rfl))⟩
  f21 := ⟨Try.f35.name, by decide, Try.func35.trans (congrArg some (by kernel_rfl))⟩
  f22 := ⟨Try.f36.name, by decide, Try.func36.trans (congrArg some (by kernel_rfl))⟩
  f23 := ⟨Try.f37.name, by decide, Try.func37.trans (congrArg some (by kernel_rfl))⟩
  f24 := ⟨Try.f38.name, by decide, Try.func38.trans (congrArg some (by kernel_rfl))⟩
  f25 := ⟨Try.f39.name, by decide, Try.func39.trans (congrArg some (by kernel_rfl))⟩
  f26 := ⟨Try.f40.name, by decide, Try.func40.trans (congrArg some (by kernel_rfl))⟩
  f27 := ⟨Try.f41.name, by decide, Try.func41.trans (congrArg some (by kernel_rfl))⟩
  f28 := Try.func42.trans (congrArg some (by kernel_rfl))
  f29 := Try.func43.trans (congrArg some (by kernel_rfl))
  f46 := ⟨Try.f44.name, by decide, Try.func44.trans (congrArg some (by kernel_rfl))⟩
  f47 := Try.func45.trans (congrArg some (by kernel_rfl))
  f48 := Try.func46.trans (congrArg some (by kernel_rfl))
  f49 := ⟨Try.f47.name, by decide, Try.func47.trans (congrArg some (by kernel_rfl))⟩
  f50 := ⟨Try.f48.name, by decide, Try.func48.trans (congrArg some (by kernel_rfl))⟩
  f57 := ⟨Try.f49.name, by decide, Try.func49.trans (congrArg some (by kernel_rfl))⟩
  t0 := Try.underlying0
  a0 := Try.isAgg0
  z0 := Try.sizeOf0
  v0 := Try.zeroValue0
  t3 := Try.underlying3
  a3 := Try.isAgg3
  z3 := Try.sizeOf3
  v3 := Try.zeroValue3
  t4 := Try.underlying4
  a4 := Try.isAgg4
  z4 := Try.sizeOf4
  v4 := Try.zeroValue4
  t5 := Try.underlying5
  a5 := Try.isAgg5
  z5 := Try.sizeOf5
  v5 := Try.zeroValue5
  t9 := Try.underlying9
  a9 := Try.isAgg9
  z9 := Try.sizeOf9
  v9 := Try.zeroValue9
  t22 := Try.underlying40
  a22 := Try.isAgg40
  z22 := Try.sizeOf40
  v22 := Try.zeroValue40
  t25 := Try.underlying55
  a25 := Try.isAgg55
  z25 := Try.sizeOf55
  v25 := Try.zeroValue55
  t39 := Try.underlying49
  a39 := Try.isAgg49
  z39 := Try.sizeOf49
  v39 := Try.zeroValue49
  t45 := Try.underlying61
  a45 := Try.isAgg61
  z45 := Try.sizeOf61
  v45 := Try.zeroValue61
  t46 := Try.underlying62
  a46 := Try.isAgg62
  z46 := Try.sizeOf62
  v46 := Try.zeroValue62
  t50 := Try.underlying66
  a50 := Try.isAgg66
  z50 := Try.sizeOf66
  v50 := Try.zeroValue66
  t53 := Try.underlying23
  a53 := Try.isAgg23
  z53 := Try.sizeOf23
  v53 := Try.zeroValue23
  t55 := Try.underlying70
  a55 := Try.isAgg70
  z55 := Try.sizeOf70
  v55 := Try.zeroValue70
  t66 := Try.underlying71
  a66 := Try.isAgg71
  z66 := Try.sizeOf71
  v66 := Try.zeroValue71
  t70 := Try.underlying75
  a70 := Try.isAgg75
  z70 := Try.sizeOf75
  v70 := Try.zeroValue75
  t76 := Try.underlying77
  a76 := Try.isAgg77
  z76 := Try.sizeOf77
  v76 := Try.zeroValue77
  t77 := Try.underlying78
  a77 := Try.isAgg78
  z77 := Try.sizeOf78
  v77 := Try.zeroValue78 }
end Go.Proofs
namespace Go.Proofs.Ytefaglkgpaloeaa.Sy
set_option linter.unusedVariables false
section
open Go.Shelf Go.RowKit Go.Lib Go.Sort
instance : Inhabited Concept := ⟨⟨0#32, 0#32⟩⟩
def sortCf (x y : Concept) : Int := (x.marks.toNat : Int) - (y.marks.toNat : Int)

set_option maxHeartbeats 1000000 in
theorem sort_clo (x y : Concept) (W : World) : Calls Try.prog 29 #[.agg #[.int .u32 (x.objects.toNat : Int), .int .u32 (x.marks.toNat : Int)], .agg #[.int .u32 (y.objects.toNat : Int), .int .u32 (y.marks.toNat : Int)]] W fun e w' => e = .returned (.int .i64 (sortCf x y)) ∧ ∃ q os', w' = Go.Sort.grow (W.drewN q) os' := by
  unfold sortCf
  have hx := x.marks.isLt
  have hy := y.marks.isLt
  go_enter Try.func29, Try.ntmps29
  go_wp2
  go_ret
  exact ⟨rfl, 0, _, by rw [alloc_eq_grow, alloc_eq_grow, grow_grow]; rfl⟩

theorem ltCf (x y : Concept) : ltOf sortCf x y = decide (x.marks.toNat < y.marks.toNat) := by
  unfold ltOf sortCf
  rw [Bool.eq_iff_iff, decide_eq_true_eq, decide_eq_true_eq]; omega
theorem swoCf : SWO (ltOf sortCf) where
  irrefl x := by rw [ltCf]; simp
  trans x y z h1 h2 := by rw [ltCf] at *; simp at *; omega
  ntrans x y z h1 h2 := by rw [ltCf] at *; simp at *; omega

def sortC (xs : List Concept) : List Concept := (pdq (ltOf sortCf) xs.toArray 0 xs.length (Lib.bitLen xs.length) true true).toList
theorem sortC_all (xs : List Concept) : (sortC xs).Perm xs ∧ (sortC xs).Pairwise fun a b => a.marks.toNat ≤ b.marks.toNat := by
  obtain ⟨h1, h2⟩ := pdq_sorts (ltOf sortCf) swoCf xs.toArray 0 xs.length (Lib.bitLen xs.length) true true (Nat.zero_le _) (by simp) (Or.inl rfl)
  obtain ⟨r, hr⟩ : ∃ r, r = pdq (ltOf sortCf) xs.toArray 0 xs.length (Lib.bitLen xs.length) true true := ⟨_, rfl⟩
  unfold sortC
  rw [← hr] at h1 h2 ⊢
  obtain ⟨h3, _, h4⟩ := h1
  have hs : r.size = xs.length := by simpa using h3
  refine ⟨?_, ?_⟩
  · have e1 : r.extract 0 xs.length = r := by rw [← hs]; simp
    have e2 : xs.toArray.extract 0 xs.length = xs.toArray := by simp
    rw [e1, e2] at h4
    exact h4
  · rw [List.pairwise_iff_getElem]
    intro i j hi hj hij
    have := h2 i j (Nat.zero_le _) hij (by rw [Array.length_toList] at hj; omega)
    rw [ltCf, decide_eq_false_iff_not] at this
    rw [Array.length_toList] at hi hj
    rw [getElem!_pos r j hj, getElem!_pos r i hi] at this
    simp only [Array.getElem_toList]
    omega

def slices_SortFunc_SapiConceptapiConcept_f29 (xs : List Concept) : Option (List Concept) :=
  bif decide (0 < xs.length ∧ xs.length < 4611686018427387904) then some (sortC xs) else none
theorem slices_SortFunc_SapiConceptapiConcept_f29_ok (w0 : World) (m : Snap) (l : List HI) (u : Value) (xs : List Concept) (r : List Concept) (hr : slices_SortFunc_SapiConceptapiConcept_f29 xs = some r) (w : World) (hc : cX w0 ⟨m, hownT 44 2 Concept.enc u xs :: l⟩ w) :
    Calls Try.prog 28 [u, .func (.func 29) #[] #[]].toArray w fun e w' => e = .returned (.tuple #[]) ∧ cX w0 ⟨m, hownT 44 2 Concept.enc u r :: l⟩ w' := by
  unfold slices_SortFunc_SapiConceptapiConcept_f29 at hr
  obtain ⟨hq, hr⟩ := guard_some hr
  obtain ⟨h0, h1⟩ := of_decide_eq_true hq
  cases hr
  exact sort_own Try.sort28 2 Try.isAgg44 Try.sizeOf44 Concept.enc (fun _ => rfl) (fun x v hv => by simp [Concept.enc] at hv; rcases hv with rfl | rfl <;> rfl) sortCf swoCf 29 (enters_of Try.func29 (by kernel_rfl) rfl) (fun x y W => sort_clo x y W) w0 m l 44 u xs h0 h1 w hc
end
end Go.Proofs.Ytefaglkgpaloeaa.Sy
