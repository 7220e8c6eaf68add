/- What can be had by taking and granting, the document's search and the law: the plain law; no program in sight. -/
import Derived.Test.YtehfjfaanhdbaaaM5
namespace Go.Proofs.Ytehfjfaanhdbaaa.Sy
set_option linter.unusedVariables false

theorem over_eq (es : List Edge) (a b : Nat) : ∃ r : BitVec 32, syllogistref_Over es a b = some r ∧ ∀ c, r.getLsbD c = true ↔ PE es a b c := by
  unfold syllogistref_Over
  refine for0_q (n := es.length) (Q := fun o => ∃ r : BitVec 32, o = some r ∧ ∀ c, r.getLsbD c = true ↔ PE es a b c) (fun t (r : BitVec 32) => ∀ c, r.getLsbD c = true ↔ PE (es.take t) a b c) rfl 0#32 (fun c => by simp [PE]) (fun t r nx ht hI hn => ?_) (fun r hI => ?_)
  · unfold syllogistref_Over_b10
    rw [geti_at ht, Option.bind_some]
    have hstep : ∀ c, PE (es.take (t + 1)) a b c ↔ PE (es.take t) a b c ∨ (es[t].src = (a : Int) ∧ es[t].to = (b : Int) ∧ es[t].rights.getLsbD c = true) := fun c => by
      rw [← List.take_append_getElem ht]
      unfold PE
      constructor
      · rintro ⟨e, h1, h2⟩
        rcases List.mem_append.1 h1 with h1 | h1
        · exact .inl ⟨e, h1, h2⟩
        · have : e = es[t] := by simpa using h1
          subst this; exact .inr h2
      · rintro (⟨e, h1, h2⟩ | h2)
        · exact ⟨e, List.mem_append_left _ h1, h2⟩
        · exact ⟨es[t], List.mem_append_right _ (List.mem_singleton_self _), h2⟩
    cases hc : ((es[t].src == (a : Int)) && (es[t].to == (b : Int))) with
    | true =>
      rw [cond_true]
      rw [Bool.and_eq_true, beq_iff_eq, beq_iff_eq] at hc
      refine hn _ fun c => ?_
      rw [BitVec.getLsbD_or, Bool.or_eq_true, hI c, hstep c]
      exact ⟨fun h => h.imp id fun h => ⟨hc.1, hc.2, h⟩, fun h => h.imp id fun h => h.2.2⟩
    | false =>
      rw [cond_false]
      refine hn _ fun c => ?_
      rw [hI c, hstep c]
      refine ⟨.inl, fun h => h.resolve_right fun h => ?_⟩
      rw [h.1, h.2.1] at hc; simp at hc
  · unfold syllogistref_Over_k6
    rw [List.take_length] at hI
    exact ⟨r, rfl, hI⟩

structure RX (n x : Nat) (J : Nat → Nat → Prop) (G : Nat → Prop) (k v : Nat) (l : List Int) : Prop where
  nat : ∀ z ∈ l, ∃ w : Nat, w < n ∧ z = w ∧ Rc J x w
  nd : l.Nodup
  xin : (x : Int) ∈ l
  at_ : l[k]? = some (v : Int)
  done : ∀ i, i < k → ∀ w : Nat, l[i]? = some (w : Int) → ¬G w ∧ ∀ j, j < n → J w j → (j : Int) ∈ l
theorem RX.len {n x : Nat} {J : Nat → Nat → Prop} {G : Nat → Prop} {k v : Nat} {l : List Int} (h : RX n x J G k v l) : l.length ≤ n := by
  have := nodup_len' (t := (List.range n).map fun (a : Nat) => (a : Int)) h.nd fun z hz => by
    obtain ⟨w, h1, rfl, _⟩ := h.nat z hz
    exact List.mem_map.2 ⟨w, List.mem_range.2 h1, rfl⟩
  simpa using this
theorem RX.add {n x : Nat} {J : Nat → Nat → Prop} {G : Nat → Prop} {k v : Nat} {l : List Int} (h : RX n x J G k v l) {j : Nat} (hj : j < n) (hr : Rc J x j) (hn : (j : Int) ∉ l) : RX n x J G k v (l ++ [(j : Int)]) := by
  have hk := (List.getElem?_eq_some_iff.1 h.at_).1
  refine ⟨fun z hz => ?_, ?_, List.mem_append_left _ h.xin, by rw [List.getElem?_append_left hk]; exact h.at_, fun i hi w hw => ?_⟩
  · rcases List.mem_append.1 hz with hz | hz
    · exact h.nat z hz
    · exact ⟨j, hj, by simpa using hz, hr⟩
  · rw [List.nodup_append]
    exact ⟨h.nd, by simp, fun a ha b hb e => by simp at hb; subst hb; subst e; exact hn ha⟩
  · rw [List.getElem?_append_left (by omega)] at hw
    obtain ⟨g1, g2⟩ := h.done i hi w hw
    exact ⟨g1, fun j' hj' hJ => List.mem_append_left _ (g2 j' hj' hJ)⟩

def CQ (n x : Nat) (J : Nat → Nat → Prop) (G : Nat → Prop) (o : Option Bool) : Prop := ∃ r, o = some r ∧ (r = true ↔ ∃ v, v < n ∧ Rc J x v ∧ G v)
theorem can_ok {m : Nat} (hm : m ≤ 6) {es : List Edge} (he : ∀ e ∈ es, gd m e) {x y b : Nat} (hx : x < m) {right : BitVec 32} (hr : ∀ w : BitVec 32, ((right ||| w) == w) = w.getLsbD b) : CQ m x (JJ m es) (GL es y b) (syllogistref_Can 200 es (x : Int) (y : Int) right) := by
  unfold syllogistref_Can
  refine whileK_q (Q := CQ m x (JJ m es) (GL es y b)) (fun (s : Int × List Int) => ∃ k : Nat, s.1 = k ∧ k ≤ s.2.length ∧ (∀ z ∈ s.2, ∃ w : Nat, w < m ∧ z = w ∧ Rc (JJ m es) x w) ∧ s.2.Nodup ∧ (x : Int) ∈ s.2 ∧ ∀ i, i < k → ∀ w : Nat, s.2[i]? = some (w : Int) → ¬GL es y b w ∧ ∀ j, j < m → JJ m es w j → (j : Int) ∈ s.2) (fun s => 10 - s.1.toNat) (fun s nx hI hn => ?_) 200 _ ⟨0, rfl, by simp, fun z hz => ⟨x, hx, by simpa using hz, .refl⟩, by simp, by simp, fun i h => by omega⟩ (by simp only; omega)
  obtain ⟨k0, l⟩ := s
  obtain ⟨k, rfl, hk, h1, h2, h3, h4⟩ := hI
  simp only at hk h1 h2 h3 h4 hn ⊢
  unfold syllogistref_Can_b13
  by_cases hlt : k < l.length
  · rw [decide_eq_true (by omega), cond_true, geti_at hlt, Option.bind_some]
    obtain ⟨v, hv, ev, hR⟩ := h1 l[k] (List.getElem_mem hlt)
    rw [ev]
    have hX : RX m x (JJ m es) (GL es y b) k v l := ⟨h1, h2, h3, by rw [List.getElem?_eq_getElem hlt, ev], h4⟩
    obtain ⟨r, er, hor⟩ := over_eq es v y
    rw [er]
    simp only [Option.isSome_some, Bool.or_true, cond_true, Option.getD_some, syllogistref_In]
    have hcond : (((v : Int) != (y : Int)) && ((right ||| r) == r)) = tru (GL es y b v) := by
      refine tru_of ?_
      rw [Bool.and_eq_true, bne_iff_ne, hr, hor b]
      unfold GL
      exact and_congr_left fun _ => ⟨fun h e => h (by omega), fun h e => h (by omega)⟩
    rw [hcond]
    cases hgl : tru (GL es y b v) with
    | true =>
      rw [cond_true]
      exact ⟨true, rfl, fun _ => ⟨v, hv, hR, tru_iff.1 hgl⟩, fun _ => rfl⟩
    | false =>
      rw [cond_false]
      have hngl : ¬GL es y b v := fun h => by rw [tru_iff.2 h] at hgl; cases hgl
      refine for0_q (n := es.length) (Q := CQ m x (JJ m es) (GL es y b)) (fun t (l' : List Int) => RX m x (JJ m es) (GL es y b) k v l' ∧ ∀ i (h : i < es.length), i < t → (es[i].rights.getLsbD 0 = true ∨ es[i].rights.getLsbD 1 = true) → (es[i].src = (v : Int) → es[i].to ∈ l') ∧ (es[i].to = (v : Int) → es[i].src ∈ l')) rfl l ⟨hX, fun i _ h => by omega⟩ (fun t l' nx' ht hI' hn' => ?_) (fun l' hI' => ?_)
      · obtain ⟨hX', hP⟩ := hI'
        unfold syllogistref_Can_b32
        rw [geti_at ht, Option.bind_some]
        obtain ⟨g1, g2, g3, g4, g5⟩ := he es[t] (List.getElem_mem ht)
        obtain ⟨a, ea⟩ : ∃ a : Nat, es[t].src = (a : Int) := ⟨es[t].src.toNat, by omega⟩
        obtain ⟨c, ec⟩ : ∃ c : Nat, es[t].to = (c : Int) := ⟨es[t].to.toNat, by omega⟩
        cases h3b : ((es[t].rights &&& 3#32) == 0#32) with
        | true =>
          rw [cond_true]
          refine hn' _ ⟨hX', fun i hi hit hb => ?_⟩
          by_cases e : i = t
          · subst e
            have := (and3 es[i].rights).2 hb
            rw [show ((es[i].rights &&& 3#32) != 0#32) = !((es[i].rights &&& 3#32) == 0#32) from rfl, h3b] at this
            cases this
          · exact hP i hi (by omega) hb
        | false =>
          rw [cond_false]
          have hbits : es[t].rights.getLsbD 0 = true ∨ es[t].rights.getLsbD 1 = true := (and3 _).1 (by rw [show ((es[t].rights &&& 3#32) != 0#32) = !((es[t].rights &&& 3#32) == 0#32) from rfl, h3b]; rfl)
          have hgk : ∀ {l : List Int}, RX m x (JJ m es) (GL es y b) k v l → geti l (k : Int) = some (v : Int) := fun {l} h => by rw [geti_nat?, h.at_]
          -- the second half
          have second : ∀ l1, RX m x (JJ m es) (GL es y b) k v l1 → (∀ z ∈ l', z ∈ l1) → (es[t].src = (v : Int) → es[t].to ∈ l1) → CQ m x (JJ m es) (GL es y b) (syllogistref_Can_k44 k nx' es[t] l1) := by
            intro l1 hX1 hsub hto
            unfold syllogistref_Can_k44
            rw [hgk hX1, Option.bind_some, hasZ]
            simp only [Option.isSome_some, Bool.or_true, cond_true, Option.getD_some]
            have hlen1 := hX1.len
            by_cases hc : es[t].to = (v : Int) ∧ es[t].src ∉ l1
            · rw [beq_iff_eq.2 hc.1, decide_eq_false hc.2]
              simp only [Bool.not_false, Bool.and_self, cond_true]
              rw [decide_eq_true (by simp; omega), cond_true]
              have hJ : JJ m es v a := ⟨⟨hv, by omega⟩, es[t], List.getElem_mem ht, hbits, .inr ⟨ea, hc.1⟩⟩
              have hX2 := hX1.add (j := a) (by omega) (hR.tail hJ) (by rw [← ea]; exact hc.2)
              rw [ea]
              refine hn' _ ⟨hX2, fun i hi hit hb => ?_⟩
              by_cases e : i = t
              · subst e
                exact ⟨fun h => List.mem_append_left _ (hto h), fun _ => by rw [ea]; simp⟩
              · obtain ⟨p1, p2⟩ := hP i hi (by omega) hb
                exact ⟨fun h => List.mem_append_left _ (hsub _ (p1 h)), fun h => List.mem_append_left _ (hsub _ (p2 h))⟩
            · have hcf : ((es[t].to == (v : Int)) && !decide (es[t].src ∈ l1)) = false := by
                rw [← Bool.not_eq_true, Bool.and_eq_true, beq_iff_eq, Bool.not_eq_true', decide_eq_false_iff_not]; exact hc
              rw [hcf, cond_false]
              refine hn' _ ⟨hX1, fun i hi hit hb => ?_⟩
              by_cases e : i = t
              · subst e
                exact ⟨hto, fun h => Classical.byContradiction fun h' => hc ⟨h, h'⟩⟩
              · obtain ⟨p1, p2⟩ := hP i hi (by omega) hb
                exact ⟨fun h => hsub _ (p1 h), fun h => hsub _ (p2 h)⟩
          rw [hgk hX', Option.bind_some, hasZ]
          simp only [Option.isSome_some, Bool.or_true, cond_true, Option.getD_some]
          have hlen' := hX'.len
          by_cases hc : es[t].src = (v : Int) ∧ es[t].to ∉ l'
          · rw [beq_iff_eq.2 hc.1, decide_eq_false hc.2]
            simp only [Bool.not_false, Bool.and_self, cond_true]
            rw [decide_eq_true (by simp; omega), cond_true]
            have hJ : JJ m es v c := ⟨⟨hv, by omega⟩, es[t], List.getElem_mem ht, hbits, .inl ⟨hc.1, ec⟩⟩
            have hX2 := hX'.add (j := c) (by omega) (hR.tail hJ) (by rw [← ec]; exact hc.2)
            rw [ec]
            exact second _ hX2 (fun z hz => List.mem_append_left _ hz) (fun _ => by rw [ec]; simp)
          · have hcf : ((es[t].src == (v : Int)) && !decide (es[t].to ∈ l')) = false := by
              rw [← Bool.not_eq_true, Bool.and_eq_true, beq_iff_eq, Bool.not_eq_true', decide_eq_false_iff_not]; exact hc
            rw [hcf, cond_false]
            exact second l' hX' (fun z hz => hz) (fun h => Classical.byContradiction fun h' => hc ⟨h, h'⟩)
      · obtain ⟨hX', hP⟩ := hI'
        unfold syllogistref_Can_k28
        have hlen' := hX'.len
        have hk' := (List.getElem?_eq_some_iff.1 hX'.at_).1
        refine hn _ ⟨k + 1, ?_, by simp only; omega, hX'.nat, hX'.nd, hX'.xin, fun i hi w hw => ?_⟩ ?_
        · simp only; rw [w64_id (by omega) (by omega)]; omega
        · simp only at hw ⊢
          by_cases e : i = k
          · subst e
            rw [hX'.at_] at hw
            have : v = w := by have := Option.some.inj hw; omega
            subst this
            refine ⟨hngl, fun j hj hJ => ?_⟩
            obtain ⟨_, e', he', hb', hd⟩ := hJ
            obtain ⟨i', hi', rfl⟩ := List.getElem_of_mem he'
            obtain ⟨p1, p2⟩ := hP i' hi' hi' hb'
            rcases hd with ⟨d1, d2⟩ | ⟨d1, d2⟩
            · rw [← d2]; exact p1 d1
            · rw [← d1]; exact p2 d2
          · exact hX'.done i (by omega) w hw
        · simp only; rw [w64_id (by omega) (by omega)]; omega
  · rw [decide_eq_false (by omega), cond_false]
    unfold syllogistref_Can_k11
    refine ⟨false, rfl, ?_⟩
    simp only [Bool.false_eq_true, false_iff]
    rintro ⟨v, hv, hR, hg⟩
    have hat : ∀ v : Nat, (v : Int) ∈ l → ¬GL es y b v ∧ ∀ j, j < m → JJ m es v j → (j : Int) ∈ l := fun v hm' => by
      obtain ⟨i, hi, e⟩ := List.getElem_of_mem hm'
      exact h4 i (by omega) v (by rw [List.getElem?_eq_getElem hi, e])
    have hall : ∀ v, Rc (JJ m es) x v → (v : Int) ∈ l := fun v hR => by
      induction hR with
      | refl => exact h3
      | tail _ hJ ih => exact (hat _ ih).2 _ hJ.1.2 hJ
    exact (hat v (hall v hR)).1 hg

theorem code4 (right : BitVec 32) (c : Int) (hc : c ≠ 0) : syllogistlaw_grantCode_k4 right c = some c := by
  unfold syllogistlaw_grantCode_k4
  have : (c == (0 : Int)) = false := beq_eq_false_iff_ne.2 hc
  rw [size_eq, this]
  rfl
theorem grantCans_true (fuel : Nat) (n : Int) (es : List Edge) (x y : Int) (right : BitVec 32) (hf : fuel = 200 := by rfl) : syllogistlaw_GrantCans fuel n es x y right = some true := by
  subst hf
  unfold syllogistlaw_GrantCans grant_Can grant_wrong syllogistlaw_grantCode
  obtain ⟨g, c, e1, e2, h0⟩ := build_ok n es
  rw [e1, e2]
  simp only [Option.bind_some]
  by_cases hc : c = 0
  · subst hc
    obtain ⟨m, hE, hG⟩ := h0 rfl
    have hm := hE.m6
    have hn := hE.n
    subst hn
    simp only [bne_self_eq_false, cond_false, beq_self_eq_true, Bool.true_and]
    have hcond : (((decide ((if y < x then y else x) < (0 : Int))) || (decide ((if y > x then y else x) ≥ (m : Int)))) || (x == y)) = (((((decide (x < (0 : Int))) || (decide (x ≥ (m : Int)))) || (decide (y < (0 : Int)))) || (decide (y ≥ (m : Int)))) || (x == y)) := by
      rw [Bool.eq_iff_iff]
      simp only [Bool.or_eq_true, decide_eq_true_eq, beq_iff_eq]
      by_cases h : y < x
      · rw [if_pos h, if_neg (by omega)]; omega
      · rw [if_neg h]
        by_cases h' : y > x
        · rw [if_pos h']; omega
        · rw [if_neg h']; omega
    rw [hcond]
    cases hb : (((((decide (x < (0 : Int))) || (decide (x ≥ (m : Int)))) || (decide (y < (0 : Int)))) || (decide (y ≥ (m : Int)))) || (x == y)) with
    | true =>
      simp only [cond_true, Option.bind_some]
      rw [code4 right 2 (by decide)]
      rfl
    | false =>
      simp only [cond_false, Option.bind_some]
      simp only [Bool.or_eq_false_iff, decide_eq_false_iff_not, beq_eq_false_iff_ne] at hb
      obtain ⟨⟨⟨⟨b1, b2⟩, b3⟩, b4⟩, b5⟩ := hb
      obtain ⟨x, rfl⟩ : ∃ a : Nat, x = a := ⟨x.toNat, by omega⟩
      obtain ⟨y, rfl⟩ : ∃ a : Nat, y = a := ⟨y.toNat, by omega⟩
      rw [onesCount_eq, Option.bind_some]
      unfold syllogistlaw_grantCode_k4
      rw [size_eq]
      simp only [Option.isSome_some, Bool.or_true, cond_true, Option.getD_some, beq_self_eq_true, Bool.true_and]
      cases hq : (((cntN 32 right.getLsbD : Nat) : Int) != (1 : Int)) with
      | true => rfl
      | false =>
        have h1 : cntN 32 right.getLsbD = 1 := by
          have : ((cntN 32 right.getLsbD : Nat) : Int) = 1 := by simpa using hq
          omega
        obtain ⟨b, hb32, hbr, hbo⟩ := cnt_one h1
        have honly : ∀ j, right.getLsbD j = true → j = b := fun j hj => by
          by_cases h : j < 32
          · exact hbo j h hj
          · rw [BitVec.getLsbD_of_ge _ _ (by omega)] at hj; cases hj
        have hr1 : ∀ w : BitVec 32, ((w &&& right) != 0#32) = w.getLsbD b := fun w => by
          rw [Bool.eq_iff_iff, and1]
          exact ⟨fun ⟨i, h1, h2⟩ => honly i h2 ▸ h1, fun h => ⟨b, h, hbr⟩⟩
        have hr2 : ∀ w : BitVec 32, ((right ||| w) == w) = w.getLsbD b := fun w => by
          rw [Bool.eq_iff_iff, or_iff]
          exact ⟨fun h => h b hbr, fun h j hj => honly j hj ▸ h⟩
        obtain ⟨p, ep, hp⟩ := path_ok hE.m1 hm hG (x := x) (y := y) (b := b) (by omega) (by omega) hr1
        obtain ⟨q, eq, hqq⟩ := can_ok hm hE.ok (x := x) (y := y) (b := b) (by omega) hr2
        simp only [cond_false, Option.bind_some, bne_self_eq_false]
        rw [ep, Option.bind_some]
        simp only [Option.bind_some, bne_self_eq_false, cond_false, beq_self_eq_true, Bool.true_and]
        rw [eq]
        simp only [Option.isSome_some, Bool.or_true, cond_true, Option.getD_some]
        have : (!p.isEmpty) = q := by
          rw [Bool.eq_iff_iff, Bool.not_eq_true', hp.1, hqq]
        rw [this]
        simp
  · have hcb : (c != 0) = true := by simpa using hc
    have hcf : (c == (0 : Int)) = false := beq_eq_false_iff_ne.2 hc
    simp only [hcb, cond_true, Option.bind_some, hcf, Bool.false_and, cond_false]
    rw [code4 right c hc, Option.bind_some, hcb, cond_true]
    simp
end Go.Proofs.Ytehfjfaanhdbaaa.Sy
