/- slices.SortFunc on a slice of the call's own: the kit's contract in the words of these texts; no program in sight. -/
import Derived.Test.YtkdhckiljfjanaaSyZ
import Derived.Shelf.SlSortCmp.WholeK
namespace Go.Proofs.Ytkdhckiljfjanaa.Sy
set_option linter.unusedVariables false
section
open Go.Shelf Go.RowKit Go.Lib Go.Sort

theorem Hp.grow' {m : Snap} {L : Part} {w0 w : World} (h : Hp m L w0 w) (os : Array Obj) : Hp m L w0 (Go.Sort.grow w os) := by
  have key : ∀ b o, w.heap[b]? = some o → (w.heap ++ os)[b]? = some o := fun b o hb => by
    rw [Array.getElem?_append_left (Array.getElem?_eq_some_iff.1 hb).1]; exact hb
  exact ⟨h.os, h.out, fun b o hb => key b o (h.imm b o hb), fun p hp => key _ _ (h.own p hp), h.sep, h.nd⟩

theorem flatK_eq {α : Type} [Inhabited α] {k : Nat} {enc : α → List Value} (hk : ∀ x, (enc x).length = k) (r : Array α) : (flatK enc k r).toList = r.toList.flatMap enc := by
  apply List.ext_getElem?
  intro t
  have hlen : (r.toList.flatMap enc).length = r.size * k := by rw [flat_length hk]; simp
  by_cases ht : t < r.size * k
  · have hk0 : 0 < k := by
      rcases Nat.eq_zero_or_pos k with e | e
      · subst e; omega
      · exact e
    have hq : t / k < r.size := (Nat.div_lt_iff_lt_mul hk0).2 ht
    have hm : t % k < k := Nat.mod_lt _ hk0
    have h1 := get_flatK enc k r t ht
    rw [getElem!_pos _ t (by rw [size_flatK]; exact ht), getElem!_pos r (t / k) hq, getElem!_pos (enc r[t / k]) (t % k) (by rw [hk]; exact hm)] at h1
    have hgq : ∀ (q : Nat) (h : q < r.size), geti r.toList (q : Int) = some r[q] := fun q h => by
      unfold geti; rw [if_pos (by omega)]; simp [h]
    have h2 := flat_get (enc := enc) (n := k) hk (xs := r.toList) (y := r[t / k]) (hgq (t / k) hq) (f := t % k) (u := (enc r[t / k])[t % k]'(by rw [hk]; exact hm)) (List.getElem?_eq_getElem _)
    rw [Int.toNat_natCast, Nat.mul_comm, Nat.div_add_mod] at h2
    rw [h2, Array.getElem?_toList, Array.getElem?_eq_getElem (by rw [size_flatK]; exact ht), h1]
  · rw [List.getElem?_eq_none (by rw [Array.length_toList, size_flatK]; omega), List.getElem?_eq_none (by rw [hlen]; omega)]

theorem put_take (F cur : Array Value) (h : F.size ≤ cur.size) : (putCells id 0 F cur).size = cur.size ∧ (putCells id 0 F cur).toList.take F.size = F.toList := by
  refine ⟨by simp [putCells], ?_⟩
  apply List.ext_getElem?
  intro t
  rw [List.getElem?_take]
  by_cases ht : t < F.size
  · rw [if_pos ht]
    have h1 : t < cur.size := by omega
    simp only [Array.getElem?_toList, putCells, Array.getElem?_mapIdx]
    rw [Array.getElem?_eq_getElem h1, Array.getElem?_eq_getElem ht]
    simp [ht]
  · rw [if_neg ht]
    simp at ht
    simp [ht]

variable {P : Program} {ρ : Ren} {α : Type} [Inhabited α]
theorem sort_own (L : SlLaysF0.n6 P ρ) (k : Nat) (aE : ∀ w, (isAgg (ρ.t 24)).run P w = .ok true w) (zE : ∀ w, (Go.sizeOf (ρ.t 24)).run P w = .ok k w) (enc : α → List Value) (hk : ∀ x, (enc x).length = k) (h1 : ∀ x, ∀ v ∈ enc x, v.oneCell' = true) (cf : α → α → Int) (hO : SWO (ltOf cf)) (g : Nat)
    (eg : ∀ args w, (callFunc g args).run P w = .ok (.enter g args) w)
    (hcl : ∀ x y W, Calls P g #[.agg (enc x).toArray, .agg (enc y).toArray] W fun e w' => e = .returned (.int .i64 (cf x y)) ∧ ∃ q os', w' = Go.Sort.grow (W.drewN q) os')
    (w0 : World) (m : Snap) (l : List HI) (e : TypeId) (u : Value) (xs : List α) (h0 : 0 < xs.length) (hmax : xs.length < 4611686018427387904) (w : World) (hc : cX w0 ⟨m, hownT e k enc u xs :: l⟩ w) :
    Calls P (ρ.f 6) #[u, .func (.func g) #[] #[]] w fun e' w' => e' = .returned (.tuple #[]) ∧ cX w0 ⟨m, hownT e k enc u (pdq (ltOf cf) xs.toArray 0 xs.length (Lib.bitLen xs.length) true true).toList :: l⟩ w' := by
  obtain ⟨m', hm, L0, ⟨La, Lb, rfl, hit, hs⟩, hh⟩ := hc
  obtain ⟨hlen, h | ⟨b, cap, cur, rfl, rfl, hle, hcap, hsz, htake⟩⟩ := hit
  · omega
  have hb : w.heap[b]? = some (.cells cur e (0, 0)) := hh.own (b, _) (by simp)
  have hkn : xs.length * k ≤ cur.size := by rw [hsz]; exact Nat.mul_le_mul_right _ hle
  have hF := flatK_eq hk xs.toArray
  have hH : HoldsK enc k w b 0 xs.toArray := by
    intro j hj
    rw [size_flatK] at hj
    simp only [List.size_toArray] at hj
    have h2 : (flatK enc k xs.toArray)[j]? = cur[j]? := by
      rw [← Array.getElem?_toList, hF, ← Array.getElem?_toList]
      show (xs.flatMap enc)[j]? = _
      rw [← htake, List.getElem?_take, if_pos hj]
    have h3 : j < cur.size := by omega
    rw [Array.getElem?_eq_getElem (by rw [size_flatK]; simpa using hj), Array.getElem?_eq_getElem h3] at h2
    constructor
    · simp only [World.cell?, hb, Nat.zero_add]
      rw [getElem!_pos _ j (by rw [size_flatK]; simpa using hj)]
      simp [h3, Option.some.inj h2]
    · simp [World.frozen?, hb]
  have hcon := AnyQ.slices_SortFunc_eq L k aE zE enc hk h1 cf hO g #[] b 0 cap xs.toArray w eg (fun _ _ _ _ x y => hcl x y _) hH (Array.getElem?_eq_some_iff.1 hb).1 (by simpa using hmax)
  refine hcon.mono ?_
  rintro e' w' ⟨rfl, n, os, rfl⟩
  refine ⟨rfl, ?_⟩
  obtain ⟨r, hr⟩ : ∃ r, r = pdq (ltOf cf) xs.toArray 0 xs.length (Lib.bitLen xs.length) true true := ⟨_, rfl⟩
  have hp := (pdq_sorts (ltOf cf) hO xs.toArray 0 xs.length (Lib.bitLen xs.length) true true (Nat.zero_le _) (by simp) (Or.inl rfl)).1.1
  rw [← hr] at hp ⊢
  have hrs : r.size = xs.length := by simpa using hp
  have hput := put_take (flatK enc k r) cur (by rw [size_flatK, hrs]; exact hkn)
  have hl : r.toList.length = xs.length := by simpa using hrs
  refine ⟨m', hm, [(b, .cells (putCells id 0 (flatK enc k r) cur) e (0, 0))] ++ Lb, ⟨_, Lb, rfl, ⟨flat_length hk _, .inr ⟨b, cap, _, ?_, rfl, by omega, hcap, by rw [hput.1, hsz], ?_⟩⟩, hs⟩, ?_⟩
  · rw [hl]
  · have := hput.2
    rw [size_flatK, flatK_eq hk, hrs] at this
    rw [hl]; exact this
  · have hset := Hp.setObj (L1 := []) (o' := .cells (putCells id 0 (flatK enc k r) cur) e (0, 0)) (w' := putRowK enc k (Go.Sort.ahead w n) b 0 r) hh rfl rfl (by
      show (w.heap.modify b _)[b]? = _
      rw [Array.getElem?_modify, if_pos rfl, hb]; rfl) (fun j hj => by
      show (w.heap.modify b _)[j]? = _
      rw [Array.getElem?_modify, if_neg (fun h => hj h.symm)])
    have := hset.grow' os
    simp only [List.size_toArray] 
    rw [← hr]
    exact this
end
end Go.Proofs.Ytkdhckiljfjanaa.Sy
