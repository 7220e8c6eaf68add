/- slices.SortFunc at concepts: the kit's contract laid here, and the closure's walk. The numbers of functions and types are this seat's. -/
import Derived.Test.YtefaglkgpaloeaaSyV
import Derived.Test.YtefaglkgpaloeaaT
import Derived.Test.YtefaglkgpaloeaaProg
import Derived.Shelf.Lay
import Derived.Ground.SlsfProg
namespace Go.Proofs
open Go.Shelf Go.RowKit Go.Lib Go.Sort
shelf_lay_g SlLaysF0.n6 Slsf 6 at Try 28 as Try.sort28
end Go.Proofs
namespace Go.Proofs.Ytefaglkgpaloeaa.Sy
set_option linter.unusedVariables false
section
open Go.Shelf Go.RowKit Go.Lib Go.Sort
instance : Inhabited Concept := ⟨⟨0#32, 0#32⟩⟩
def sortCf (x y : Concept) : Int := (x.marks.toNat : Int) - (y.marks.toNat : Int)

set_option maxHeartbeats 1000000 in
theorem sort_clo (x y : Concept) (W : World) : Calls Try.prog 29 #[.agg #[.int .u32 (x.objects.toNat : Int), .int .u32 (x.marks.toNat : Int)], .agg #[.int .u32 (y.objects.toNat : Int), .int .u32 (y.marks.toNat : Int)]] W fun e w' => e = .returned (.int .i64 (sortCf x y)) ∧ ∃ q os', w' = Go.Sort.grow (W.drewN q) os' := by
  unfold sortCf
  have hx := x.marks.isLt
  have hy := y.marks.isLt
  go_enter Try.func29, Try.ntmps29
  go_wp2
  go_ret
  exact ⟨rfl, 0, _, by rw [alloc_eq_grow, alloc_eq_grow, grow_grow]; rfl⟩

theorem ltCf (x y : Concept) : ltOf sortCf x y = decide (x.marks.toNat < y.marks.toNat) := by
  unfold ltOf sortCf
  rw [Bool.eq_iff_iff, decide_eq_true_eq, decide_eq_true_eq]; omega
theorem swoCf : SWO (ltOf sortCf) where
  irrefl x := by rw [ltCf]; simp
  trans x y z h1 h2 := by rw [ltCf] at *; simp at *; omega
  ntrans x y z h1 h2 := by rw [ltCf] at *; simp at *; omega

def sortC (xs : List Concept) : List Concept := (pdq (ltOf sortCf) xs.toArray 0 xs.length (Lib.bitLen xs.length) true true).toList
theorem sortC_all (xs : List Concept) : (sortC xs).Perm xs ∧ (sortC xs).Pairwise fun a b => a.marks.toNat ≤ b.marks.toNat := by
  obtain ⟨h1, h2⟩ := pdq_sorts (ltOf sortCf) swoCf xs.toArray 0 xs.length (Lib.bitLen xs.length) true true (Nat.zero_le _) (by simp) (Or.inl rfl)
  obtain ⟨r, hr⟩ : ∃ r, r = pdq (ltOf sortCf) xs.toArray 0 xs.length (Lib.bitLen xs.length) true true := ⟨_, rfl⟩
  unfold sortC
  rw [← hr] at h1 h2 ⊢
  obtain ⟨h3, _, h4⟩ := h1
  have hs : r.size = xs.length := by simpa using h3
  refine ⟨?_, ?_⟩
  · have e1 : r.extract 0 xs.length = r := by rw [← hs]; simp
    have e2 : xs.toArray.extract 0 xs.length = xs.toArray := by simp
    rw [e1, e2] at h4
    exact h4
  · rw [List.pairwise_iff_getElem]
    intro i j hi hj hij
    have := h2 i j (Nat.zero_le _) hij (by rw [Array.length_toList] at hj; omega)
    rw [ltCf, decide_eq_false_iff_not] at this
    rw [Array.length_toList] at hi hj
    rw [getElem!_pos r j hj, getElem!_pos r i hi] at this
    simp only [Array.getElem_toList]
    omega

def slices_SortFunc_SapiConceptapiConcept_f29 (xs : List Concept) : Option (List Concept) :=
  bif decide (0 < xs.length ∧ xs.length < 4611686018427387904) then some (sortC xs) else none
theorem slices_SortFunc_SapiConceptapiConcept_f29_ok (w0 : World) (m : Snap) (l : List HI) (u : Value) (xs : List Concept) (r : List Concept) (hr : slices_SortFunc_SapiConceptapiConcept_f29 xs = some r) (w : World) (hc : cX w0 ⟨m, hownT 44 2 Concept.enc u xs :: l⟩ w) :
    Calls Try.prog 28 [u, .func (.func 29) #[] #[]].toArray w fun e w' => e = .returned (.tuple #[]) ∧ cX w0 ⟨m, hownT 44 2 Concept.enc u r :: l⟩ w' := by
  unfold slices_SortFunc_SapiConceptapiConcept_f29 at hr
  obtain ⟨hq, hr⟩ := guard_some hr
  obtain ⟨h0, h1⟩ := of_decide_eq_true hq
  cases hr
  exact sort_own Try.sort28 2 Try.isAgg44 Try.sizeOf44 Concept.enc (fun _ => rfl) (fun x v hv => by simp [Concept.enc] at hv; rcases hv with rfl | rfl <;> rfl) sortCf swoCf 29 (enters_of Try.func29 (by kernel_rfl) rfl) (fun x y W => sort_clo x y W) w0 m l 44 u xs h0 h1 w hc
end
end Go.Proofs.Ytefaglkgpaloeaa.Sy
