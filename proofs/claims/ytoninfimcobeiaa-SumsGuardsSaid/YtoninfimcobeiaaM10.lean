/- Sums: which may be told: the plain law; no program in sight. -/
import Derived.Test.YtoninfimcobeiaaM6
namespace Go.Proofs.Ytoninfimcobeiaa.Sy
set_option linter.unusedVariables false

theorem told_both {l : List (BitVec 32)} {k : Nat} (hA : AOk k l 0#32 k) : ∃ o, ((sums_build l).bind fun r => sums_base_told r) = some o ∧ syllogistref_Told k l = some o := by
  have k8 := hA.k8
  have h12 := hA.len
  obtain ⟨rs, tp, z, eb, hR⟩ := build_eq hA
  obtain ⟨o, eo, ho⟩ := told_eq hR k8 h12 z
  have htold : syllogistref_Told k l = some (bset k fun i => tru (∃ b, bel l.length b ∧ sm l b = 1#32 <<< i)) := by
    unfold syllogistref_Told
    rw [decide_eq_true (by omega), cond_true]
    refine (for_bset_add (n := k) (fun i => tru (∃ b, bel l.length b ∧ sm l b = 1#32 <<< i)) rfl (by omega) (fun i c nx hi => ?_)).trans rfl
    unfold syllogistref_Told_b10
    rw [ofInt64 (by omega)]
    obtain ⟨r, er, hr⟩ := by_eq h12 (1#32 <<< i)
    rw [er, Option.bind_some, cond_nx]
    rcases hr with ⟨h2, hb, hs, _⟩ | ⟨rfl, hno⟩
    · rw [h2, tru_iff.2 ⟨_, hb, hs⟩]
    · rw [tru_false.2 fun ⟨b, hb, hs⟩ => hno b hb hs]
  have : o = bset k fun i => tru (∃ b, bel l.length b ∧ sm l b = 1#32 <<< i) := bits_ext fun i => by
    rw [ho, bset_bit (by omega), Bool.and_eq_true, decide_eq_true_eq, tru_iff]
    constructor
    · rintro ⟨hi, j, hj, ej⟩
      have hbit : (st rs j).getLsbD i = true := by rw [ej]; exact (one_shl i i).2 ⟨rfl, hi⟩
      obtain ⟨b1, b2⟩ := hR.b j hj
      exact ⟨hR.bl j hj i hbit, _, b1, b2.trans ej⟩
    · rintro ⟨hi, b, hb, hs⟩
      have hVx : V rs tp (1#32 <<< i) := by rw [← hs]; exact V.pks fun q hq => hR.spn q hq
      have hbit : ∀ q, (1#32 <<< i).getLsbD q = decide (q = i) := fun q => by
        rw [Bool.eq_iff_iff, one_shl, decide_eq_true_eq]
        exact ⟨fun h => h.1, fun h => ⟨h, by omega⟩⟩
      have : ∃ j, j < rs.length ∧ tp j = i := by
        apply Classical.byContradiction
        intro hno
        have : cmb rs tp (1#32 <<< i) = 0#32 := pks_none fun j hj => by
          rw [hbit]; exact decide_eq_false fun e => hno ⟨j, hj, e⟩
        rw [show cmb rs tp (1#32 <<< i) = 1#32 <<< i from hVx] at this
        have h1 := hbit i
        rw [this] at h1
        simp at h1
      obtain ⟨j, hj, ej⟩ := this
      refine ⟨by omega, j, hj, ?_⟩
      have h1 : cmb rs tp (1#32 <<< i) = st rs j := pks_one hj fun q hq => by
        rw [hbit]
        by_cases e : q = j
        · subst e; rw [decide_eq_true ej, decide_eq_true rfl]
        · rw [decide_eq_false e]
          refine decide_eq_false fun e' => ?_
          have := hR.own j q hj hq (fun e'' => e e''.symm)
          rw [e', ← ej, (hR.top j hj).1] at this; cases this
      rw [← h1]; exact hVx
  rw [eb, Option.bind_some, eo, htold, this]
  exact ⟨_, rfl, rfl⟩

def tld (k : Nat) (l : List (BitVec 32)) : BitVec 32 := (syllogistref_Told k l).getD 0#32
theorem tld_eq {l : List (BitVec 32)} {k : Nat} (hA : AOk k l 0#32 k) : ((sums_build l).bind fun r => sums_base_told r) = some (tld k l) ∧ syllogistref_Told k l = some (tld k l) := by
  obtain ⟨o, h1, h2⟩ := told_both hA
  unfold tld
  rw [h2]
  exact ⟨h1, rfl⟩

/-! ### Question by question -/
def gst (k : Nat) (w : List (BitVec 32)) : Nat → List (BitVec 32) × List Int
  | 0 => ([], [])
  | j + 1 => bif tld k ((gst k w j).1 ++ [wd w j]) != 0#32 then ((gst k w j).1, (gst k w j).2 ++ [7]) else ((gst k w j).1 ++ [wd w j], (gst k w j).2 ++ [0])
structure GI (k : Nat) (w : List (BitVec 32)) (j : Nat) : Prop where
  len : (gst k w j).1.length ≤ j
  cl : (gst k w j).2.length = j
  q : ∀ x ∈ (gst k w j).1, bel k x
theorem gst_ok {k : Nat} {w : List (BitVec 32)} (hA : AOk k w 0#32 k) : ∀ j, j ≤ w.length → GI k w j
  | 0, _ => ⟨Nat.le_refl _, rfl, fun x hx => by simp [gst] at hx⟩
  | j + 1, hj => by
    obtain ⟨h1, h2, h3⟩ := gst_ok hA j (by omega)
    have hq := hA.q j (by omega)
    constructor
    · rw [gst]
      cases tld k ((gst k w j).1 ++ [wd w j]) != 0#32
      · simp; omega
      · simp; omega
    · rw [gst]
      cases tld k ((gst k w j).1 ++ [wd w j]) != 0#32 <;> simp [h2]
    · rw [gst]
      cases tld k ((gst k w j).1 ++ [wd w j]) != 0#32
      · intro x hx
        simp only [cond_false] at hx
        rcases List.mem_append.1 hx with hx | hx
        · exact h3 x hx
        · simp at hx; subst hx; exact hq
      · exact h3
theorem gst_AOk {k : Nat} {w : List (BitVec 32)} (hA : AOk k w 0#32 k) {j : Nat} (hj : j < w.length) : AOk k ((gst k w j).1 ++ [wd w j]) 0#32 k := by
  obtain ⟨h1, h2, h3⟩ := gst_ok hA j (by omega)
  have hl := hA.len
  refine ⟨rfl, hA.k1, hA.k8, by simp; omega, fun i hi => ?_, hA.s⟩
  have hm : wd ((gst k w j).1 ++ [wd w j]) i ∈ (gst k w j).1 ++ [wd w j] := by
    unfold wd
    rw [List.getElem?_eq_getElem hi]
    exact List.getElem_mem hi
  rcases List.mem_append.1 hm with h | h
  · exact h3 _ h
  · simp at h; rw [h]; exact hA.q j (by omega)

theorem codes_rf (a : List Int) : syllogistref_Codes a a = some true := by
  unfold syllogistref_Codes syllogistref_Codes_b7 syllogistref_Codes_k3
  rw [lists_eq a a, decide_eq_true rfl]

theorem sumsGuards_true (n : Int) (w : List (BitVec 32)) : syllogistlaw_SumsGuards n w = some true := by
  unfold syllogistlaw_SumsGuards sums_Guard
  obtain ⟨r, e1, e2, h0⟩ := acheck n w 0#32
  rw [e1, e2]
  by_cases hr : r = 0
  · subst hr
    obtain ⟨k, hA⟩ := h0 rfl
    have hn := hA.n
    subst hn
    have h12 := hA.len
    simp only [Option.bind_some, bne_self_eq_false, cond_false]
    rw [for_rec (s := (([] : List (BitVec 32)), ([] : List Int))) (n := w.length) (gst k w) rfl rfl (fun j nx hj => by
      unfold sums_Guard_b42 slices_Clip_Suint32uint32
      have ho := gst_ok hA j (by omega)
      have h1 := ho.len
      have h2 := ho.cl
      rw [geti_wd hj, Option.bind_some, Option.bind_some, decide_eq_true (by simp; omega), cond_true]
      obtain ⟨t1, t2⟩ := tld_eq (gst_AOk hA hj)
      have t3 : ∀ (f : BitVec 32 → Option (List Int × Int)), ((sums_build ((gst k w j).1 ++ [wd w j])).bind fun r56 => (sums_base_told r56).bind f) = f (tld k ((gst k w j).1 ++ [wd w j])) := fun f => by
        rw [← Option.bind_assoc, t1]; rfl
      rw [t3, gst, decide_eq_true (by simp; omega), decide_eq_true (by simp; omega), cond_true, cond_true]
      exact cond_nx nx _ _ _)]
    unfold sums_Guard_k38
    rw [Option.bind_some]
    rw [for_rec (s := (([] : List (BitVec 32)), ([] : List Int))) (n := w.length) (gst k w) rfl rfl (fun j nx hj => by
      unfold syllogistlaw_SumsGuards_b47
      have ho := gst_ok hA j (by omega)
      have h1 := ho.len
      have h2 := ho.cl
      rw [geti_wd hj, Option.bind_some, decide_eq_true (by simp; omega), cond_true, decide_eq_true (by simp; omega), cond_true]
      obtain ⟨t1, t2⟩ := tld_eq (gst_AOk hA hj)
      rw [List.nil_append, t2, Option.bind_some, gst, decide_eq_true (by simp; omega), decide_eq_true (by simp; omega), cond_true, cond_true]
      exact cond_nx nx _ _ _)]
    unfold syllogistlaw_SumsGuards_k42
    simp [codes_rf]
  · have hb : (r != 0) = true := by simpa using hr
    simp [hb]
end Go.Proofs.Ytoninfimcobeiaa.Sy
