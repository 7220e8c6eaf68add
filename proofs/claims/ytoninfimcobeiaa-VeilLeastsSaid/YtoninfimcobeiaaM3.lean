/- The least columns to hide, and the least world to which one comes: the plain laws; no program in sight. -/
import Derived.Test.YtoninfimcobeiaaM2
import Derived.Test.YtoninfimcobeiaaSyR
namespace Go.Proofs.Ytoninfimcobeiaa.Sy
set_option linter.unusedVariables false

/-! ### The least veils -/
theorem alk_mono {k : Nat} {a b : BitVec 32} (h : sb a b) {x y : List Int} (hx : alk k a x y = true) : alk k b x y = true := by
  unfold alk at *
  rw [allN_iff] at *
  intro j hj
  have := hx j hj
  rw [Bool.or_eq_true] at *
  exact this.imp (h j) id
theorem few_mono {rows : List (List Int)} {k : Nat} {a b : BitVec 32} (h : sb a b) : ∀ j, few rows k a j ≤ few rows k b j
  | 0 => Nat.le_refl _
  | j + 1 => by
    have h1 := few_mono (rows := rows) (k := k) h j
    have h2 := cntN_mono (n := rows.length) (p := fun i => alk k a (rows[i]?.getD []) (rows[j]?.getD [])) (q := fun i => alk k b (rows[i]?.getD []) (rows[j]?.getD [])) fun i _ hi => alk_mono h hi
    rw [few, few]
    omega

def Un (rows : List (List Int)) (k : Nat) (q : Int) (c : BitVec 32) : Prop := q ≤ (crowdN rows k c : Int)
theorem ROk.other {rows : List (List Int)} {hid c : BitVec 32} {k : Nat} (h : ROk rows hid k) (hc : Sy.bel k c) : ROk rows c k := ⟨h.r1, h.r8, h.k6, h.len, hc⟩
theorem pow_le64 {k : Nat} (h : k ≤ 6) : 2 ^ k ≤ 64 := Nat.pow_le_pow_right (n := 2) (by omega) h

theorem least_loop {rows : List (List Int)} {k : Nat} (h : ROk rows 0#32 k) (q : Int) : forK (σ := (List (BitVec 32))) (fun i s nx_ => veil_Least_b21 rows q i s nx_) (fun s => veil_Least_k18 s) ((1#32 <<< k).toNat - (0#32).toNat) 0#32 [] = veil_Least_k18 (flt (Mn k (Un rows k q)) (2 ^ k)) := by
  have k6 := h.k6
  have h64 := pow_le64 k6
  have hB : (1#32 <<< k).toNat = 2 ^ k := one_shl_toNat (by omega)
  refine (forU_flt (Mn k (Un rows k q)) (fun c s nx hc hs => ?_)).trans (by rw [hB])
  rw [hB] at hc
  have hcb : Sy.bel k c := bel_toNat.2 hc
  have hlen := flt_len (P := Mn k (Un rows k q)) (m := c.toNat)
  unfold veil_Least_b21
  rw [crowd_eq (h.other hcb), Option.bind_some, contU s (fun a => veil_Least_c1 a c) (fun t => (t &&& ~~~c) == 0#32) (fun a _ => rfl)]
  simp only [Option.isSome_some, Bool.or_true, cond_true, Option.getD_some]
  have hany : s.any (fun t => (t &&& ~~~c) == 0#32) = tru (∃ t, t.toNat < c.toNat ∧ Mn k (Un rows k q) t ∧ sb t c) := by
    refine tru_of ?_
    rw [List.any_eq_true]
    constructor
    · rintro ⟨t, ht, h⟩
      rw [hs] at ht
      have := (flt_mem (by omega)).1 ht
      exact ⟨t, this.1, this.2, andn_iff.1 h⟩
    · rintro ⟨t, h1, h2, h3⟩
      exact ⟨t, by rw [hs]; exact (flt_mem (by omega)).2 ⟨h1, h2⟩, andn_iff.2 h3⟩
  have hq : decide ((crowdN rows k c : Int) ≥ q) = tru (Un rows k q c) := tru_of (by rw [decide_eq_true_eq]; exact Iff.rfl)
  have hm : (decide ((crowdN rows k c : Int) ≥ q) && !s.any (fun t => (t &&& ~~~c) == 0#32)) = tru (Mn k (Un rows k q) c) := by
    refine tru_of ?_
    rw [mn_iff (fun a b ha hab _ => by
      have := few_mono (rows := rows) (k := k) hab rows.length
      unfold Un crowdN at *
      omega) hcb, Bool.and_eq_true, hq, tru_iff, hany, Bool.not_eq_true', tru_false]
  rw [hm, decide_eq_true (by rw [hs]; simp only [List.length_cons, List.length_nil]; omega), cond_true]
  cases tru (Mn k (Un rows k q) c)
  · simp
  · rfl

theorem veils_eq {rows : List (List Int)} {k : Nat} (h : ROk rows 0#32 k) (q : Int) (fuel : Nat) (hf : 100 < fuel) : syllogistref_Veils fuel rows q = some (flt (Mn k (Un rows k q)) (2 ^ k)) := by
  have k6 := h.k6
  have r1 := h.r1
  have h64 := pow_le64 k6
  have hB : (1#32 <<< k).toNat = 2 ^ k := one_shl_toNat (by omega)
  have hl0 : (rows[0]?.getD []).length = k := by rw [getd_at _ (by omega)]; exact h.len 0 (by omega)
  have e0 : geti rows 0 = some (rows[0]?.getD []) := geti_d (j := 0) [] (by omega)
  unfold syllogistref_Veils
  refine while_rec (fun j => (BitVec.ofNat 32 j, flt (Mn k (Un rows k q)) j)) (2 ^ k) _ (fun j nx hj => ?_) (fun nx => ?_) (by omega) (by simp [flt, apps])
  · simp only
    obtain ⟨c, hc⟩ : ∃ c : BitVec 32, BitVec.ofNat 32 j = c := ⟨_, rfl⟩
    have hcj : c.toNat = j := by rw [← hc]; simp; omega
    rw [hc]
    have hcb : Sy.bel k c := bel_toNat.2 (by omega)
    have hlen := flt_len (P := Mn k (Un rows k q)) (m := j)
    unfold syllogistref_Veils_b12
    rw [e0, Option.bind_some, hl0, ofInt64 (by omega), decide_eq_true (by rw [BitVec.lt_def, hB]; omega), cond_true, rcrowd_eq (h.other hcb), Option.bind_some]
    refine while_rec (fun i => (decide ((crowdN rows k c : Int) ≥ q) && allN i (fun i => !(c.getLsbD i && decide ((crowdN rows k (without c i) : Int) ≥ q))), (i : Int))) k _ (fun i nx' hi => ?_) (fun nx' => ?_) (by omega) (by simp [allN])
    · simp only
      unfold syllogistref_Veils_b33
      rw [e0, Option.bind_some, hl0, decide_eq_true (by omega), cond_true, bit_eq _ _ (by omega), Option.bind_some, ofInt64 (by omega), w64_succ (by omega), allN]
      cases hb : c.getLsbD i with
      | false =>
        simp only [Bool.false_and, cond_false, Bool.not_false, Bool.and_true]
        rfl
      | true =>
        rw [sub_bit hb, rcrowd_eq (h.other (hcb.sb (without_sub c i)))]
        simp only [Option.isSome_some, Bool.or_true, cond_true, Option.getD_some, Bool.true_and]
        cases decide ((crowdN rows k (without c i) : Int) ≥ q) <;> simp
    · simp only
      unfold syllogistref_Veils_b33
      rw [e0, Option.bind_some, hl0, decide_eq_false (by omega), cond_false]
      unfold syllogistref_Veils_k27
      have hm : (decide ((crowdN rows k c : Int) ≥ q) && allN k (fun i => !(c.getLsbD i && decide ((crowdN rows k (without c i) : Int) ≥ q)))) = tru (Mn k (Un rows k q) c) := by
        refine tru_of ?_
        rw [Bool.and_eq_true, decide_eq_true_eq, allN_iff]
        unfold Mn Un
        refine and_congr Iff.rfl (forall_congr' fun i => forall_congr' fun _ => ?_)
        rw [Bool.not_eq_true', Bool.and_eq_false_iff, decide_eq_false_iff_not]
        constructor
        · rintro (h | h) hb
          · rw [hb] at h; cases h
          · exact h
        · intro h
          cases hb : c.getLsbD i with
          | false => exact .inl rfl
          | true => exact .inr (h hb)
      rw [hm, decide_eq_true (by simp only [List.length_cons, List.length_nil]; omega), cond_true]
      have hn : BitVec.ofNat 32 (j + 1) = c + 1#32 := by
        apply BitVec.eq_of_toNat_eq
        rw [w_succ (n := 64) (by omega) (by omega)]; simp; omega
      have hfl := flt_next (P := Mn k (Un rows k q)) c
      rw [hcj] at hfl
      rw [hn, hfl]
      cases tru (Mn k (Un rows k q) c)
      · simp
      · rfl
  · simp only
    unfold syllogistref_Veils_b12
    rw [e0, Option.bind_some, hl0, ofInt64 (by omega), decide_eq_false (by rw [BitVec.lt_def, hB]; simp; omega), cond_false]
    rfl

theorem veilLeasts_true (fuel : Nat) (rows : List (List Int)) (q : Int) (hf : 100 < fuel := by decide) : syllogistlaw_VeilLeasts fuel rows q = some true := by
  unfold syllogistlaw_VeilLeasts veil_Least
  obtain ⟨r, e1, e2, h⟩ := rcheck rows 0#32
  rw [e1, e2]
  by_cases hr : r = 0
  · subst hr
    obtain ⟨k, hk⟩ := h rfl
    have r1 := hk.r1
    have hl0 : (rows[0]?.getD []).length = k := by rw [getd_at _ (by omega)]; exact hk.len 0 (by omega)
    have e0 : geti rows 0 = some (rows[0]?.getD []) := geti_d (j := 0) [] (by omega)
    simp only [Option.bind_some, bne_self_eq_false, cond_false, beq_self_eq_true, Bool.true_and]
    by_cases hq : q < 1
    · rw [decide_eq_true hq]
      unfold syllogistlaw_VeilLeasts_k8 syllogistlaw_VeilLeasts_k26
      simp
    · rw [decide_eq_false hq]
      simp only [cond_false]
      rw [e0, Option.bind_some, hl0, decide_eq_true (by omega), cond_true, Int.toNat_natCast, least_loop hk]
      unfold syllogistlaw_VeilLeasts_k8 veil_Least_k18
      rw [veils_eq hk q fuel hf]
      simp only [beq_self_eq_true, cond_true, Option.bind_some, Bool.true_and]
      unfold syllogistlaw_VeilLeasts_k16
      rw [veils_eq hk q fuel hf]
      by_cases hl : (flt (Mn k (Un rows k q)) (2 ^ k)).length = 0
      · have : (((flt (Mn k (Un rows k q)) (2 ^ k)).length : Int) == 0) = true := by rw [hl]; rfl
        simp [this]
      · have : (((flt (Mn k (Un rows k q)) (2 ^ k)).length : Int) == 0) = false := by
          rw [beq_eq_false_iff_ne]; omega
        simp [this, words_eq]
  · have : (r != 0) = true := by simpa using hr
    have h0 : (r == 0) = false := by simpa using hr
    simp only [Option.bind_some, this, h0, cond_true, Bool.false_and, cond_false]
    unfold syllogistlaw_VeilLeasts_k8
    rw [h0]
    simp only [Bool.false_and, cond_false, show (false == true) = false from rfl]
    unfold syllogistlaw_VeilLeasts_k26
    simp [this]

/-! ### The least world -/
theorem kst_symm {cells : List (List Int)} {k : Nat} {a b : Int} (ha : 0 ≤ a ∧ a < k) (h : kst cells k a b) : kst cells k b a := by
  obtain ⟨_, _, i, hi, e⟩ := h
  exact ⟨ha.1, ha.2, i, hi, e.symm⟩
theorem rc_in {cells : List (List Int)} {k : Nat} {a b : Int} (ha : 0 ≤ a ∧ a < k) (h : Rc (kst cells k) a b) : 0 ≤ b ∧ b < k :=
  Rc.inv (st := kst cells k) (fun x : Int => 0 ≤ x ∧ x < k) h ha fun x y _ hs => ⟨hs.1, hs.2.1⟩
theorem rc_symm {cells : List (List Int)} {k : Nat} {a b : Int} (ha : 0 ≤ a ∧ a < k) (h : Rc (kst cells k) a b) : Rc (kst cells k) b a := by
  induction h with
  | refl => exact .refl
  | tail hc e ih => exact (Rc.one (kst_symm (rc_in ha hc) e)).trans ih

abbrev li (l : List Int) (a : Nat) : Int := l[a]?.getD 0
structure MQ (cells : List (List Int)) (k : Nat) (l : List Int) : Prop where
  len : l.length = k
  cls : ∀ a : Nat, a < k → Rc (kst cells k) a (li l a)

/-- What a round has done so far, from l0 on. -/
structure MR (cells : List (List Int)) (k : Nat) (l0 l : List Int) (D : Nat → Nat → Nat → Prop) : Prop where
  q : MQ cells k l
  le : ∀ a, a < k → li l a ≤ li l0 a
  done : ∀ i w v, i < cells.length → w < k → v < k → D i w v → (cells[i]?.getD [])[w]?.getD 0 = (cells[i]?.getD [])[v]?.getD 0 → li l w ≤ li l0 v

theorem MR.weak {cells : List (List Int)} {k : Nat} {l0 l : List Int} {D D' : Nat → Nat → Nat → Prop} (h : MR cells k l0 l D) (hd : ∀ i w v, i < cells.length → w < k → v < k → D' i w v → D i w v) : MR cells k l0 l D' :=
  ⟨h.q, h.le, fun i w v hi hw hv hD => h.done i w v hi hw hv (hd i w v hi hw hv hD)⟩
theorem li_set {l : List Int} {w a : Nat} {x : Int} (hw : w < l.length) : li (l.set w x) a = if a = w then x else li l a := by
  unfold li
  by_cases e : a = w
  · subst e; rw [List.getElem?_set_self hw, if_pos rfl]; rfl
  · rw [List.getElem?_set_ne (fun h => e h.symm), if_neg e]

theorem round_eq {n : Int} {cells : List (List Int)} {ev : BitVec 32} {k : Nat} (h : KOk n cells ev k) (l0 : List Int) (hq : MQ cells k l0) (t : Int) (nx : List Int → Option (List Int × Int)) {Q : Option (List Int × Int) → Prop}
    (hn : ∀ l, MQ cells k l → (∀ a, a < k → li l a ≤ li l0 a) → (∀ w v, w < k → v < k → kst cells k (w : Int) v → li l w ≤ li l0 v) → Q (nx l)) : Q (know_Meet_b26 k cells t l0 nx) := by
  have k6 := h.k6
  unfold know_Meet_b26
  refine for0_q (Q := Q) (fun i l => MR cells k l0 l fun i' w' v' => i' < i) rfl _ ⟨hq, fun _ _ => Int.le_refl _, fun _ _ _ _ _ _ h => absurd h (by omega)⟩ (fun i l nx1 hi hI h1 => ?_) (fun l hI => ?_)
  · unfold know_Meet_b41
    have hci : (cells[i]?.getD []).length = k := by rw [getd_at _ hi]; exact h.len i hi
    rw [geti_d [] hi, Option.bind_some, decide_eq_true (by omega), cond_true]
    refine for0_q (Q := Q) (fun w l => MR cells k l0 l fun i' w' v' => i' < i ∨ i' = i ∧ w' < w) rfl _ (hI.weak fun i' w' v' _ _ _ hd => hd.resolve_right (by omega)) (fun w l nx2 hw hI2 h2 => ?_) (fun l hI2 => ?_)
    · unfold know_Meet_b61
      rw [decide_eq_true (by omega), cond_true]
      refine for0_q (Q := Q) (fun v l => MR cells k l0 l fun i' w' v' => i' < i ∨ i' = i ∧ (w' < w ∨ w' = w ∧ v' < v)) rfl _ (hI2.weak fun i' w' v' _ _ _ hd => by omega) (fun v l nx3 hv hI3 h3 => ?_) (fun l hI3 => ?_)
      · unfold know_Meet_b76
        rw [geti_d 0 (by omega), Option.bind_some, geti_d 0 (by omega), Option.bind_some]
        have hl := hI3.q.len
        by_cases he : (cells[i]?.getD [])[w]?.getD 0 = (cells[i]?.getD [])[v]?.getD 0
        · rw [beq_iff_eq.2 he, cond_true, geti_d 0 (by omega), Option.bind_some, geti_d 0 (by omega), Option.bind_some, Int.toNat_natCast]
          have hlw : w < l.length := by omega
          obtain ⟨z, hz⟩ : ∃ z, (if li l v < li l w then li l v else li l w) = z := ⟨_, rfl⟩
          have z1 : z ≤ li l v := by rw [← hz]; split <;> omega
          have z2 : z ≤ li l w := by rw [← hz]; split <;> omega
          have z3 : Rc (kst cells k) (w : Int) z := by
            rw [← hz]
            split
            · exact (Rc.one ⟨by omega, by omega, i, hi, by simpa using he.symm⟩).trans (hI3.q.cls v (by omega))
            · exact hI3.q.cls w (by omega)
          show Q (nx3 (l.set w (if li l v < li l w then li l v else li l w)))
          rw [hz]
          refine h3 _ ⟨⟨by rw [List.length_set]; exact hl, fun a ha => ?_⟩, fun a ha => ?_, fun i' w' v' hi' hw' hv' hd he' => ?_⟩
          · rw [li_set hlw]
            by_cases e : a = w
            · subst e; rw [if_pos rfl]; exact z3
            · rw [if_neg e]; exact hI3.q.cls a ha
          · rw [li_set hlw]
            have := hI3.le a ha
            by_cases e : a = w
            · subst e; rw [if_pos rfl]; omega
            · rw [if_neg e]; exact this
          · rw [li_set hlw]
            by_cases e : w' = w
            · subst e
              rw [if_pos rfl]
              by_cases e2 : i' = i ∧ v' = v
              · obtain ⟨rfl, rfl⟩ := e2
                have := hI3.le v' hv'
                omega
              · have := hI3.done i' w' v' hi' hw' hv' (by omega) he'
                omega
            · rw [if_neg e]
              exact hI3.done i' w' v' hi' hw' hv' (by omega) he'
        · rw [beq_eq_false_iff_ne.2 he, cond_false]
          refine h3 _ ⟨hI3.q, hI3.le, fun i' w' v' hi' hw' hv' hd he' => ?_⟩
          by_cases e2 : i' = i ∧ w' = w ∧ v' = v
          · obtain ⟨rfl, rfl, rfl⟩ := e2
            exact absurd he' he
          · exact hI3.done i' w' v' hi' hw' hv' (by omega) he'
      · unfold know_Meet_k72
        exact h2 _ (hI3.weak fun i' w' v' _ _ hv' hd => by omega)
    · unfold know_Meet_k57
      exact h1 _ (hI2.weak fun i' w' v' _ hw' _ hd => by omega)
  · unfold know_Meet_k37
    refine hn l hI.q hI.le fun w v hw hv hs => ?_
    obtain ⟨_, _, i, hi, he⟩ := hs
    exact hI.done i w v hi hw hv hi (by simpa using he.symm)

/-- Of a class with least one m: all have it, or ever more. -/
def Far (cells : List (List Int)) (k : Nat) (l : List Int) (t : Nat) : Prop :=
  ∀ m : Nat, m < k → (∀ x, Rc (kst cells k) (m : Int) x → (m : Int) ≤ x) → li l m = m ∧ ((∀ a : Nat, a < k → Rc (kst cells k) (m : Int) a → li l a = m) ∨ t + 1 ≤ cntN k (fun a => li l a == (m : Int)))

theorem Far.step {cells : List (List Int)} {k : Nat} {l0 l : List Int} {t : Nat} (h : Far cells k l0 t) (hq0 : MQ cells k l0) (hq : MQ cells k l) (hle : ∀ a, a < k → li l a ≤ li l0 a) (hd : ∀ w v, w < k → v < k → kst cells k (w : Int) v → li l w ≤ li l0 v) : Far cells k l (t + 1) := by
  intro m hm hmin
  have low : ∀ a : Nat, a < k → Rc (kst cells k) (m : Int) a → (m : Int) ≤ li l a := fun a ha hr => hmin _ (hr.trans (hq.cls a ha))
  have back : ∀ a : Nat, a < k → li l0 a = m → Rc (kst cells k) (m : Int) a := fun a ha e => by
    have := hq0.cls a ha
    rw [e] at this
    exact rc_symm (by omega) this
  have keep : ∀ a : Nat, a < k → li l0 a = m → li l a = m := fun a ha e => by
    have h1 := low a ha (back a ha e)
    have h2 := hle a ha
    omega
  obtain ⟨hm0, hfar⟩ := h m hm hmin
  refine ⟨keep m hm hm0, ?_⟩
  by_cases hall : ∀ a : Nat, a < k → Rc (kst cells k) (m : Int) a → li l a = m
  · exact .inl hall
  · right
    have : ∃ a : Nat, a < k ∧ Rc (kst cells k) (m : Int) a ∧ li l a ≠ m := by
      apply Classical.byContradiction
      intro hno
      exact hall fun a ha hr => Classical.byContradiction fun hx => hno ⟨a, ha, hr, hx⟩
    obtain ⟨a, ha, hr, hne⟩ := this
    have hcnt : t + 1 ≤ cntN k (fun a => li l0 a == (m : Int)) := by
      rcases hfar with h | h
      · exact absurd (keep a ha (h a ha hr)) hne
      · exact h
    obtain ⟨x, y, hx, hxy, px, py⟩ := Rc.leaves (st := kst cells k) (fun z : Int => li l0 z.toNat = m) hr (by simpa using hm0) (fun e => hne (keep a ha (by simpa using e)))
    have hxk := rc_in (by omega) hx
    obtain ⟨y0, y1, _⟩ := id hxy
    have e1 : li l y.toNat ≤ li l0 x.toNat := hd y.toNat x.toNat (by omega) (by omega) (by
      rw [Int.toNat_of_nonneg y0, Int.toNat_of_nonneg hxk.1]
      exact kst_symm hxk hxy)
    have e2 := low y.toNat (by omega) (by rw [Int.toNat_of_nonneg y0]; exact hx.tail hxy)
    have e3 : li l y.toNat = m := by
      have px' : li l0 x.toNat = m := px
      omega
    have := cntN_lt (n := k) (p := fun a => li l0 a == (m : Int)) (q := fun a => li l a == (m : Int)) (fun j hj hp => by
      simp only [beq_iff_eq] at hp ⊢
      exact keep j hj hp) (i := y.toNat) (by omega) (by
      have py' : ¬li l0 y.toNat = m := py
      simpa using py') (by simpa using e3)
    omega

def MeetP (cells : List (List Int)) (k : Nat) (o : Option (List Int × Int)) : Prop := ∃ l, o = some (l, (0 : Int)) ∧ l.length = k ∧ ∀ m : Nat, m < k → (∀ x, Rc (kst cells k) (m : Int) x → (m : Int) ≤ x) → ∀ a : Nat, a < k → Rc (kst cells k) (m : Int) a → li l a = m
theorem meet_eq {n : Int} {cells : List (List Int)} {k : Nat} (h : KOk n cells 0#32 k) (hw : know_wrong n cells 0#32 = some 0) : MeetP cells k (know_Meet n cells) := by
  have k6 := h.k6
  have hn := h.n
  subst hn
  unfold know_Meet
  rw [hw, Option.bind_some, show ((0 : Int) != 0) = false from rfl, cond_false, decide_eq_true (by omega), cond_true]
  rw [for_apps (n := k) (fun j => [(j : Int)]) rfl (fun j s nx hj hs => by
    unfold know_Meet_b89
    rw [decide_eq_true (by rw [hs, show (apps j fun j => [(j : Int)]).length = j from apps_one_len]; simp only [List.length_cons, List.length_nil]; omega), cond_true])]
  unfold know_Meet_k12
  rw [decide_eq_true (by omega), cond_true]
  have hli : ∀ a, a < k → li (tab k fun j => (j : Int)) a = a := fun a ha => tab_getD 0 ha
  refine for0_q (Q := MeetP cells k) (fun t l => MQ cells k l ∧ Far cells k l t) rfl (tab k fun j => (j : Int)) ⟨⟨tab_len, fun a ha => by rw [hli a ha]; exact .refl⟩, fun m hm hmin => ⟨hli m hm, .inr ?_⟩⟩ (fun t l nx ht hI hnx => ?_) (fun l hI => ?_)
  · have := cntN_lt (n := k) (p := fun _ => false) (q := fun a => li (tab k fun j => (j : Int)) a == (m : Int)) (fun _ _ h => by cases h) (i := m) hm rfl (by rw [hli m hm]; simp)
    omega
  · exact round_eq h l hI.1 t nx (Q := MeetP cells k) fun l' hq hle hd => hnx l' ⟨hq, hI.2.step hI.1 hq hle hd⟩
  · refine ⟨l, rfl, hI.1.len, fun m hm hmin => ?_⟩
    rcases (hI.2 m hm hmin).2 with h | h
    · exact h
    · have := cntN_le (n := k) (p := fun a => li l a == (m : Int)); omega

theorem knowMeets_true (fuel : Nat) (n : Int) (cells : List (List Int)) (hf : 100 < fuel := by decide) : syllogistlaw_KnowMeets fuel n cells = some true := by
  unfold syllogistlaw_KnowMeets
  obtain ⟨r, e1, e2, h⟩ := kcheck n cells 0#32
  by_cases hr : r = 0
  · subst hr
    obtain ⟨k, hk⟩ := h rfl
    obtain ⟨l, el, hl, hmin⟩ := meet_eq hk e1
    have k6 := hk.k6
    have hn := hk.n
    subst hn
    rw [el, e2]
    simp only [Option.bind_some, bne_self_eq_false, cond_false]
    refine while_rec (fun j => (j : Int)) k _ (fun w nx hw => ?_) (fun nx => ?_) (by omega) rfl
    · unfold syllogistlaw_KnowMeets_b11
      have hb : ((decide ((w : Int) < (k : Int))) && (decide ((w : Int) < (l.length : Int)))) = true := by simp; omega
      obtain ⟨c, ec, hc⟩ := comes_eq hk w hw fuel (by omega)
      rw [hb, cond_true, ec, Option.bind_some]
      obtain ⟨m, hm, hml⟩ := least_nat (P := fun m => Rc (kst cells k) (w : Int) m) (n := w) .refl
      have hmk := rc_in (by omega) hm
      have hlow : ∀ x, Rc (kst cells k) (w : Int) x → (m : Int) ≤ x := fun x hx => by
        have hxk := rc_in (by omega) hx
        have := hml x.toNat (by rw [Int.toNat_of_nonneg hxk.1]; exact hx)
        omega
      have hlw : li l w = m := hmin m (by omega) (fun x hx => hlow x (hm.trans hx)) w hw (rc_symm (by omega) hm)
      refine for0_q (Q := fun o => o = nx ((w + 1 : Nat) : Int)) (fun t (least : Int) => (m : Int) ≤ least ∧ ∀ i (hi : i < c.length), i < t → least ≤ c[i]) rfl _ ⟨hlow _ .refl, fun i hi hit => by omega⟩ (fun t least nx' ht hI hnx' => ?_) (fun least hI => ?_)
      · unfold syllogistlaw_KnowMeets_b29
        rw [geti_at ht, Option.bind_some]
        have hy := hlow _ ((hc _).1 (List.getElem_mem ht))
        obtain ⟨g1, g2⟩ := hI
        by_cases hlt : c[t] < least
        · rw [decide_eq_true hlt, cond_true]
          refine hnx' _ ⟨hy, fun i hi hit => ?_⟩
          by_cases e : i = t
          · subst e; exact Int.le_refl _
          · have := g2 i hi (by omega); omega
        · rw [decide_eq_false hlt, cond_false]
          refine hnx' _ ⟨g1, fun i hi hit => ?_⟩
          by_cases e : i = t
          · subst e; omega
          · exact g2 i hi (by omega)
      · obtain ⟨g1, g2⟩ := hI
        obtain ⟨i, hi, e⟩ := List.getElem_of_mem ((hc _).2 hm)
        have := g2 i hi hi
        have hle : least = m := by omega
        unfold syllogistlaw_KnowMeets_k23
        have hg : geti l (w : Int) = some (li l w) := geti_d 0 (by omega)
        rw [hg, Option.bind_some, hlw, hle, w64_succ (by omega)]
        simp
    · unfold syllogistlaw_KnowMeets_b11
      have hb : ((decide ((k : Int) < (k : Int))) && (decide ((k : Int) < (l.length : Int)))) = false := by simp
      rw [hb, cond_false]
      unfold syllogistlaw_KnowMeets_k9
      simp [hl]
  · have : (r != 0) = true := by simpa using hr
    unfold know_Meet
    rw [e1, e2]
    simp [this]
end Go.Proofs.Ytoninfimcobeiaa.Sy
