/- Sums: what is told: the plain laws; no program in sight. -/
import Derived.Test.YtoninfimcobeiaaM5
namespace Go.Proofs.Ytoninfimcobeiaa.Sy
set_option linter.unusedVariables false

theorem V_row {rs : List SumsRow} {tp : Nat → Nat} (h1 : ∀ i, i < rs.length → (st rs i).getLsbD (tp i) = true) (h2 : ∀ i j, i < rs.length → j < rs.length → i ≠ j → (st rs i).getLsbD (tp j) = false) {j : Nat} (hj : j < rs.length) : V rs tp (st rs j) := pks_one hj fun i hi => by
  by_cases e : i = j
  · subst e; rw [h1 i hi, decide_eq_true rfl]
  · rw [h2 j i hj hi (fun e' => e e'.symm), decide_eq_false e]
theorem xor_bel {k : Nat} {a b : BitVec 32} (ha : bel k a) (hb : bel k b) : bel k (a ^^^ b) := fun j hj => by
  rw [xor_bit] at hj
  cases e : a.getLsbD j with
  | true => exact ha j e
  | false => rw [e] at hj; exact hb j (by simpa using hj)
theorem bel_mono {k m : Nat} {a : BitVec 32} (h : bel k a) (hk : k ≤ m) : bel m a := fun j hj => by have := h j hj; omega
theorem xor_back {a b c : BitVec 32} (h : a = b ^^^ c) : b = a ^^^ c := by
  rw [h, BitVec.xor_assoc, BitVec.xor_self]; simp

/-- A row more. -/
def upd (rs : List SumsRow) (r : SumsRow) (p : Nat) (i : Nat) : SumsRow := bif (st rs i).getLsbD p then { set_ := st rs i ^^^ r.set_, by_ := (rw_ rs i).by_ ^^^ r.by_ } else rw_ rs i
theorem more {k : Nat} {l : List (BitVec 32)} {t : Nat} {rs : List SumsRow} {tp : Nat → Nat} (h : RI k l t rs tp) {r : SumsRow} {p : Nat} (hs : bel k r.set_) (hz : ∀ i, i < rs.length → r.set_.getLsbD (tp i) = false) {y : BitVec 32} (hy : V rs tp y) (ey : r.set_ = wd l t ^^^ y)
    (hsm : sm l r.by_ = r.set_) (hb : bel (t + 1) r.by_) (hp : r.set_.getLsbD p = true) (hpt : ∀ j, p < j → r.set_.getLsbD j = false) :
    RI k l (t + 1) (tab rs.length (upd rs r p) ++ [r]) (fun i => if i < rs.length then tp i else p) := by
  have hlen := h.len
  obtain ⟨rs', hrs'⟩ : ∃ rs', rs' = tab rs.length (upd rs r p) ++ [r] := ⟨_, rfl⟩
  have hl' : rs'.length = rs.length + 1 := by rw [hrs', List.length_append, tab_len]; rfl
  have hlo : ∀ i, i < rs.length → rw_ rs' i = upd rs r p i := fun i hi => by
    unfold rw_
    rw [hrs', List.getElem?_append_left (by rw [tab_len]; exact hi), tab_get hi]; rfl
  have hhi : rw_ rs' rs.length = r := by
    unfold rw_
    rw [hrs', List.getElem?_append_right (by rw [tab_len]; exact Nat.le_refl _), tab_len, Nat.sub_self]; rfl
  have hset : ∀ i, i < rs.length → st rs' i = bif (st rs i).getLsbD p then st rs i ^^^ r.set_ else st rs i := fun i hi => by
    unfold st
    rw [hlo i hi]
    unfold upd
    cases (st rs i).getLsbD p <;> rfl
  have hseth : st rs' rs.length = r.set_ := by unfold st; rw [hhi]
  have hpi : ∀ i, i < rs.length → (st rs i).getLsbD p = true → p < tp i := fun i hi hb => by
    obtain ⟨t1, t2⟩ := h.top i hi
    by_cases e : tp i < p
    · rw [t2 p e] at hb; cases hb
    · by_cases e2 : p = tp i
      · rw [e2, hz i hi] at hp; cases hp
      · omega
  have htop : ∀ i, i < rs'.length → (st rs' i).getLsbD (if i < rs.length then tp i else p) = true ∧ ∀ j, (if i < rs.length then tp i else p) < j → (st rs' i).getLsbD j = false := fun i hi => by
    by_cases e : i < rs.length
    · obtain ⟨t1, t2⟩ := h.top i e
      rw [if_pos e, hset i e]
      cases hb : (st rs i).getLsbD p with
      | false => exact ⟨t1, t2⟩
      | true =>
        have := hpi i e hb
        rw [cond_true]
        refine ⟨by rw [xor_bit, t1, hz i e]; rfl, fun j hj => ?_⟩
        rw [xor_bit, t2 j hj, hpt j (by omega)]; rfl
    · have : i = rs.length := by omega
      subst this
      rw [if_neg e, hseth]; exact ⟨hp, hpt⟩
  have hown : ∀ i j, i < rs'.length → j < rs'.length → i ≠ j → (st rs' i).getLsbD (if j < rs.length then tp j else p) = false := fun i j hi hj hne => by
    by_cases ei : i < rs.length
    · rw [hset i ei]
      by_cases ej : j < rs.length
      · rw [if_pos ej]
        have o := h.own i j ei ej hne
        cases (st rs i).getLsbD p with
        | false => exact o
        | true => rw [cond_true, xor_bit, o, hz j ej]; rfl
      · rw [if_neg ej]
        cases hb : (st rs i).getLsbD p with
        | false => exact hb
        | true => rw [cond_true, xor_bit, hb, hp]; rfl
    · have : i = rs.length := by omega
      subst this
      rw [if_pos (by omega), hseth]; exact hz j (by omega)
  rw [← hrs']
  have hV' : ∀ j, j < rs'.length → V rs' (fun i => if i < rs.length then tp i else p) (st rs' j) := fun j hj => V_row (fun i hi => (htop i hi).1) hown hj
  have hVr : V rs' (fun i => if i < rs.length then tp i else p) r.set_ := by have := hV' rs.length (by omega); rwa [hseth] at this
  have hVo : ∀ i, i < rs.length → V rs' (fun i => if i < rs.length then tp i else p) (st rs i) := fun i hi => by
    have hv := hV' i (by omega)
    rw [hset i hi] at hv
    cases hb : (st rs i).getLsbD p with
    | false => rw [hb] at hv; exact hv
    | true =>
      rw [hb, cond_true] at hv
      have := hv.xor hVr
      rwa [BitVec.xor_assoc, BitVec.xor_self, BitVec.xor_zero] at this
  have hVx : ∀ x, V rs tp x → V rs' (fun i => if i < rs.length then tp i else p) x := fun x hx => by
    have : V rs' (fun i => if i < rs.length then tp i else p) (cmb rs tp x) := V.pks hVo
    rwa [show cmb rs tp x = x from hx] at this
  refine ⟨by omega, fun i hi => ?_, htop, hown, fun i hi => ?_, fun q hq => ?_⟩
  · by_cases e : i < rs.length
    · obtain ⟨b1, b2⟩ := h.b i e
      unfold st
      rw [hlo i e]
      unfold upd
      cases (st rs i).getLsbD p with
      | false => exact ⟨bel_mono b1 (by omega), b2⟩
      | true =>
        rw [cond_true]
        refine ⟨xor_bel (bel_mono b1 (by omega)) hb, ?_⟩
        simp only
        rw [sm_xor, b2, hsm]
    · have : i = rs.length := by omega
      subst this
      rw [hseth, hhi]; exact ⟨hb, hsm⟩
  · by_cases e : i < rs.length
    · rw [hset i e]
      cases (st rs i).getLsbD p with
      | false => exact h.bl i e
      | true => exact xor_bel (h.bl i e) hs
    · have : i = rs.length := by omega
      subst this
      rw [hseth]; exact hs
  · by_cases e : q = t
    · subst e
      rw [xor_back ey]
      exact hVr.xor (hVx y hy)
    · exact hVx _ (h.spn q (by omega))

theorem build_eq {n : Int} {l : List (BitVec 32)} {s : BitVec 32} {k : Nat} (hA : AOk n l s k) : ∃ rs tp z, sums_build l = some (some { l := rs, zero := z }) ∧ RI k l l.length rs tp := by
  have h12 := hA.len
  have k8 := hA.k8
  unfold sums_build
  refine for0_q (Q := fun o => ∃ rs tp z, o = some (some ({ l := rs, zero := z } : T78)) ∧ RI k l l.length rs tp) (fun t (c : List (BitVec 32) × List SumsRow) => c.1.length ≤ t ∧ ∃ tp, RI k l t c.2 tp) rfl ([], []) ⟨by simp, fun _ => 0, by simp, fun i hi => by simp at hi, fun i hi => by simp at hi, fun i j hi => by simp at hi, fun i hi => by simp at hi, fun q hq => by omega⟩ (fun t c nx ht hI hnx => ?_) (fun c hI => ?_)
  · obtain ⟨z, rs⟩ := c
    obtain ⟨hz, tp, h⟩ := hI
    simp only at hz h ⊢
    have hlen := h.len
    unfold sums_build_b24
    rw [geti_wd ht, Option.bind_some, Int.toNat_natCast]
    obtain ⟨r, er, r1, r2, ⟨y, hy, ey⟩, r4, r5, _⟩ := less_eq h k8 (by omega) z { set_ := wd l t, by_ := 1#32 <<< t } (hA.q t ht)
    have hsm := r4 (sm_one ht (by omega))
    have hb := r5 (t + 1) (by omega) (fun j hj => by have := ((one_shl t j).1 hj).1; omega)
    simp only at ey
    rw [er, Option.bind_some]
    cases h0 : (r.set_ == 0#32) with
    | true =>
      rw [beq_iff_eq] at h0
      rw [cond_true, decide_eq_true (by simp only [List.length_cons, List.length_nil]; omega), cond_true]
      refine hnx _ ⟨by simp; omega, tp, by simp only; omega, fun i hi => ⟨bel_mono (h.b i hi).1 (by omega), (h.b i hi).2⟩, h.top, h.own, h.bl, fun q hq => ?_⟩
      by_cases e : q = t
      · subst e
        rw [h0] at ey
        rw [xor_back ey]
        simpa using hy
      · exact h.spn q (by omega)
    | false =>
      rw [cond_false]
      have hne : r.set_ ≠ 0#32 := by simpa using h0
      obtain ⟨p, hp32, hl, p1, p2⟩ := len_eq (bel256 k8 r1) hne
      rw [hl, Option.bind_some]
      rw [for_rec (n := rs.length) (fun u => tab rs.length fun i => if i < u then upd rs r p i else rw_ rs i) rfl ((tab_of _ rfl).trans (tab_congr fun i hi => by rw [if_neg (by omega)])) (fun u nx' hu => by
        unfold sums_build_b55
        rw [tab_geti hu, Option.bind_some, if_neg (by omega), show ((p : Int) + 1 - 1) = (p : Int) by omega, w64_id (by omega) (by omega), decide_eq_true (by omega), cond_true, Int.toNat_natCast, bit_shr, Option.bind_some, cond_nx, Int.toNat_natCast, tab_set hu]
        congr 1
        cases hbb : (rw_ rs u).set_.getLsbD p with
        | true =>
          rw [cond_true]
          refine tab_congr fun i hi => ?_
          by_cases e : i = u
          · subst e
            rw [if_pos rfl, if_pos (by omega)]
            unfold upd
            rw [show (st rs i).getLsbD p = true from hbb, cond_true]
          · rw [if_neg e]
            by_cases hlt : i < u
            · rw [if_pos hlt, if_pos (by omega)]
            · rw [if_neg hlt, if_neg (by omega)]
        | false =>
          rw [cond_false]
          refine tab_congr fun i hi => ?_
          by_cases e : i = u
          · subst e
            rw [if_neg (by omega), if_pos (by omega)]
            unfold upd
            rw [show (st rs i).getLsbD p = false from hbb, cond_false]
          · by_cases hlt : i < u
            · rw [if_pos hlt, if_pos (by omega)]
            · rw [if_neg hlt, if_neg (by omega)])]
      unfold sums_build_k47
      rw [show (tab rs.length fun i => if i < rs.length then upd rs r p i else rw_ rs i) = tab rs.length (upd rs r p) from tab_congr fun i hi => by rw [if_pos hi], decide_eq_true (by rw [tab_len]; simp only [List.length_cons, List.length_nil]; omega), cond_true]
      exact hnx _ ⟨by simp only; omega, _, more h r1 r2 hy ey hsm hb p1 p2⟩
  · obtain ⟨z, rs⟩ := c
    obtain ⟨_, tp, h⟩ := hI
    exact ⟨rs, tp, z, rfl, h⟩

/-! ### Told -/
theorem single : ∀ y : Nat, y < 256 → y ≠ 0 → ((BitVec.ofNat 32 y &&& (BitVec.ofNat 32 y - 1#32)) == 0#32) = (BitVec.ofNat 32 y == 1#32 <<< (Nat.log2 y)) := by decide +kernel
theorem not_single : ∀ y : Nat, y < 256 → y ≠ 0 → ∀ b, b < 32 → BitVec.ofNat 32 y = 1#32 <<< b → b = Nat.log2 y := by decide +kernel
theorem single_eq {x : BitVec 32} (h : x.toNat < 256) (h0 : x ≠ 0#32) : ((x &&& (x - 1#32)) == 0#32) = tru (∃ b, b < 32 ∧ x = 1#32 <<< b) := by
  have hne : x.toNat ≠ 0 := fun e => h0 (BitVec.eq_of_toNat_eq (by simpa using e))
  have hx : BitVec.ofNat 32 x.toNat = x := by simp
  have h1 := single _ h hne
  have h2 := not_single _ h hne
  rw [hx] at h1 h2
  rw [h1]
  refine tru_of ?_
  rw [beq_iff_eq]
  constructor
  · intro e
    refine ⟨_, ?_, e⟩
    have := (Nat.log2_lt hne).2 (show x.toNat < 2 ^ 8 by omega)
    omega
  · rintro ⟨b, hb, e⟩
    rw [← h2 b hb e]; exact e

theorem told_eq {k : Nat} {l : List (BitVec 32)} {t : Nat} {rs : List SumsRow} {tp : Nat → Nat} (h : RI k l t rs tp) (k8 : k ≤ 8) (ht12 : t ≤ 12) (z : List (BitVec 32)) : ∃ o, sums_base_told (some { l := rs, zero := z }) = some o ∧ ∀ i, o.getLsbD i = true ↔ i < 32 ∧ ∃ j, j < rs.length ∧ st rs j = 1#32 <<< i := by
  unfold sums_base_told
  rw [Option.bind_some]
  refine for0_q (Q := fun q => ∃ o, q = some o ∧ ∀ i, o.getLsbD i = true ↔ i < 32 ∧ ∃ j, j < rs.length ∧ st rs j = 1#32 <<< i) (fun u (c : BitVec 32) => ∀ i, c.getLsbD i = true ↔ i < 32 ∧ ∃ j, j < u ∧ st rs j = 1#32 <<< i) rfl 0#32 (fun i => by simp) (fun u c nx hu hI hnx => ?_) (fun c hI => ⟨c, rfl, hI⟩)
  have hu : u < rs.length := hu
  unfold sums_base_told_b20
  rw [geti_rw hu, Option.bind_some]
  have hne : st rs u ≠ 0#32 := fun e => by have := (h.top u hu).1; rw [e] at this; simp at this
  rw [show (((rw_ rs u).set_ &&& ((rw_ rs u).set_ - 1#32)) == 0#32) = tru (∃ b, b < 32 ∧ st rs u = 1#32 <<< b) from single_eq (bel256 k8 (h.bl u hu)) hne, cond_nx]
  refine hnx _ fun i => ?_
  have hstep : (∃ j, j < u + 1 ∧ st rs j = 1#32 <<< i) ↔ (∃ j, j < u ∧ st rs j = 1#32 <<< i) ∨ st rs u = 1#32 <<< i := by
    constructor
    · rintro ⟨j, hj, e⟩
      by_cases ej : j = u
      · subst ej; exact .inr e
      · exact .inl ⟨j, by omega, e⟩
    · rintro (⟨j, hj, e⟩ | e)
      · exact ⟨j, by omega, e⟩
      · exact ⟨u, by omega, e⟩
  rw [hstep]
  cases hs : tru (∃ b, b < 32 ∧ st rs u = 1#32 <<< b) with
  | true =>
    obtain ⟨b, hb, eb⟩ := tru_iff.1 hs
    rw [cond_true, BitVec.getLsbD_or, Bool.or_eq_true, hI i]
    have h1 : (rw_ rs u).set_ = 1#32 <<< b := eb
    rw [h1, one_shl]
    constructor
    · rintro (⟨h1, h2⟩ | ⟨rfl, h2⟩)
      · exact ⟨h1, .inl h2⟩
      · exact ⟨h2, .inr eb⟩
    · rintro ⟨h1, h2 | h2⟩
      · exact .inl ⟨h1, h2⟩
      · right
        rw [eb] at h2
        have := (one_shl b i).1 (by rw [h2]; exact (one_shl i i).2 ⟨rfl, h1⟩)
        exact this
  | false =>
    rw [cond_false, hI i]
    refine and_congr_right fun hi => ⟨.inl, fun h => h.elim id fun e => ?_⟩
    exact absurd ⟨i, hi, e⟩ (tru_false.1 hs)

theorem by_eq {l : List (BitVec 32)} (hl : l.length ≤ 12) (s : BitVec 32) : ∃ r, syllogistref_By l s = some r ∧ ((r.2 = true ∧ bel l.length r.1 ∧ sm l r.1 = s ∧ ∀ b, bel l.length b → sm l b = s → r.1.toNat ≤ b.toNat) ∨ (r = (0#32, false) ∧ ∀ b, bel l.length b → sm l b ≠ s)) := by
  have hB : (1#32 <<< l.length).toNat = 2 ^ l.length := one_shl_toNat (by omega)
  unfold syllogistref_By
  rw [ofInt64 (by omega)]
  refine forU_q (Q := fun o => ∃ r, o = some r ∧ ((r.2 = true ∧ bel l.length r.1 ∧ sm l r.1 = s ∧ ∀ b, bel l.length b → sm l b = s → r.1.toNat ≤ b.toNat) ∨ (r = (0#32, false) ∧ ∀ b, bel l.length b → sm l b ≠ s))) (fun j _ => ∀ b : BitVec 32, b.toNat < j → sm l b ≠ s) () (fun b hb => by omega) (fun c z nx hc hI hnx => ?_) (fun z hI => ?_)
  · unfold syllogistref_By_b6
    rw [sum_eq hl, Option.bind_some]
    rw [hB] at hc
    by_cases e : sm l c = s
    · rw [show (sm l c == s) = true by simpa using e, cond_true]
      refine ⟨_, rfl, .inl ⟨rfl, bel_toNat.2 hc, e, fun b _ hb => ?_⟩⟩
      apply Classical.byContradiction
      intro hn
      exact hI b (by simp only at hn; omega) hb
    · rw [show (sm l c == s) = false by simpa using e, cond_false]
      refine hnx () fun b hb => ?_
      by_cases eb : b.toNat = c.toNat
      · rw [BitVec.eq_of_toNat_eq eb]; exact e
      · exact hI b (by omega)
  · exact ⟨_, rfl, .inr ⟨rfl, fun b hb => hI b (by rw [hB]; exact bel_toNat.1 hb)⟩⟩

theorem sumsTold_true (n : Int) (l : List (BitVec 32)) : syllogistlaw_SumsTold n l = some true := by
  unfold syllogistlaw_SumsTold sums_Told
  obtain ⟨r, e1, e2, h0⟩ := acheck n l 0#32
  rw [e1, e2]
  by_cases hr : r = 0
  · subst hr
    obtain ⟨k, hA⟩ := h0 rfl
    have hn := hA.n
    subst hn
    have k8 := hA.k8
    have h12 := hA.len
    obtain ⟨rs, tp, z, eb, hR⟩ := build_eq hA
    obtain ⟨o, eo, ho⟩ := told_eq hR k8 h12 z
    have htold : syllogistref_Told k l = some (bset k fun i => tru (∃ b, bel l.length b ∧ sm l b = 1#32 <<< i)) := by
      unfold syllogistref_Told
      rw [decide_eq_true (by omega), cond_true]
      refine (for_bset_add (n := k) (fun i => tru (∃ b, bel l.length b ∧ sm l b = 1#32 <<< i)) rfl (by omega) (fun i c nx hi => ?_)).trans rfl
      unfold syllogistref_Told_b10
      rw [ofInt64 (by omega)]
      obtain ⟨r, er, hr⟩ := by_eq h12 (1#32 <<< i)
      rw [er, Option.bind_some, cond_nx]
      rcases hr with ⟨h2, hb, hs, _⟩ | ⟨rfl, hno⟩
      · rw [h2, tru_iff.2 ⟨_, hb, hs⟩]
      · rw [tru_false.2 fun ⟨b, hb, hs⟩ => hno b hb hs]
    simp only [Option.bind_some, bne_self_eq_false, cond_false]
    rw [eb, Option.bind_some, eo, Option.bind_some, htold]
    have : o = bset k fun i => tru (∃ b, bel l.length b ∧ sm l b = 1#32 <<< i) := bits_ext fun i => by
      rw [ho, bset_bit (by omega), Bool.and_eq_true, decide_eq_true_eq, tru_iff]
      constructor
      · rintro ⟨hi, j, hj, ej⟩
        have hbit : (st rs j).getLsbD i = true := by rw [ej]; exact (one_shl i i).2 ⟨rfl, hi⟩
        obtain ⟨b1, b2⟩ := hR.b j hj
        exact ⟨hR.bl j hj i hbit, _, b1, b2.trans ej⟩
      · rintro ⟨hi, b, hb, hs⟩
        have hVx : V rs tp (1#32 <<< i) := by rw [← hs]; exact V.pks fun q hq => hR.spn q hq
        have hbit : ∀ q, (1#32 <<< i).getLsbD q = decide (q = i) := fun q => by
          rw [Bool.eq_iff_iff, one_shl, decide_eq_true_eq]
          exact ⟨fun h => h.1, fun h => ⟨h, by omega⟩⟩
        have : ∃ j, j < rs.length ∧ tp j = i := by
          apply Classical.byContradiction
          intro hno
          have : cmb rs tp (1#32 <<< i) = 0#32 := pks_none fun j hj => by
            rw [hbit]; exact decide_eq_false fun e => hno ⟨j, hj, e⟩
          rw [show cmb rs tp (1#32 <<< i) = 1#32 <<< i from hVx] at this
          have h1 := hbit i
          rw [this] at h1
          simp at h1
        obtain ⟨j, hj, ej⟩ := this
        refine ⟨by omega, j, hj, ?_⟩
        have h1 : cmb rs tp (1#32 <<< i) = st rs j := pks_one hj fun q hq => by
          rw [hbit]
          by_cases e : q = j
          · subst e; rw [decide_eq_true ej, decide_eq_true rfl]
          · rw [decide_eq_false e]
            refine decide_eq_false fun e' => ?_
            have := hR.own j q hj hq (fun e'' => e e''.symm)
            rw [e', ← ej, (hR.top j hj).1] at this; cases this
        rw [← h1]; exact hVx
    rw [this]
    simp
  · have hb : (r != 0) = true := by simpa using hr
    simp [hb]
end Go.Proofs.Ytoninfimcobeiaa.Sy
