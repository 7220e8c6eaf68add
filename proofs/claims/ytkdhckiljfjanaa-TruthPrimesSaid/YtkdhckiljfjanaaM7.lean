/- The loops of truth.Primes and of the document's answer, in closed form, and that both answer alike: the plain law of truth.Primes. -/
import Derived.Test.YtkdhckiljfjanaaG1
import Derived.Test.YtkdhckiljfjanaaM6
namespace Go.Proofs.Ytkdhckiljfjanaa.Sy
set_option linter.unusedVariables false

/-! ### The code -/
theorem has_shr (c : Clause) (i : Nat) : ((((c.yes ||| c.no) >>> i) &&& 1#32) == 0#32) = !has c i := by
  rw [bit_shr1, BitVec.getLsbD_or]; rfl
section
variable {k : Nat} {F : BitVec 32 → Bool} {r : List Clause × Int}
theorem b52_eq (hk : k ≤ 4) {t : Nat} {now nxt : List (Clause × Bool)} {y : Clause × Bool} {l : List Clause} {Q : Clause → Prop} {nx : List (Clause × Bool) × List Clause → Option (List Clause × Int)}
    (hn : KL now (Lv k F t)) (hx : KL nxt Q) (hy : Lv k F t y.1) (hl : l.length ≤ 256)
    (h : ∀ nxt', KL nxt' (fun d => Q d ∨ ∃ i, i < k ∧ has y.1 i = true ∧ Lv k F t (flp y.1 i) ∧ d = drp y.1 i) → ∀ l', (l' = l ++ [y.1] ∧ PI k F y.1) ∨ (l' = l ∧ ¬PI k F y.1) → nx (nxt', l') = some r) :
    truth_Primes_b52 (k : Int) now y nxt l nx = some r := by
  unfold truth_Primes_b52
  rw [decide_eq_true (by omega), cond_true]
  refine for0_eq (fun j (s : Bool × List (Clause × Bool)) => KL s.2 (fun d => Q d ∨ ∃ i, i < j ∧ has y.1 i = true ∧ Lv k F t (flp y.1 i) ∧ d = drp y.1 i) ∧ (s.1 = true ↔ ∀ i, i < j → has y.1 i = true → ¬Lv k F t (flp y.1 i))) rfl _
    ⟨hx.congr fun c => ⟨.inl, fun h => h.elim id fun ⟨i, hi, _⟩ => by omega⟩, ⟨fun _ i hi => by omega, fun _ => rfl⟩⟩ (fun j s nx' hj hI hn' => ?_) (fun s hI => ?_)
  · obtain ⟨h1, h2⟩ := hI
    have keep : ¬(has y.1 j = true ∧ Lv k F t (flp y.1 j)) → KL s.2 (fun d => Q d ∨ ∃ i, i < j + 1 ∧ has y.1 i = true ∧ Lv k F t (flp y.1 i) ∧ d = drp y.1 i) ∧ (s.1 = true ↔ ∀ i, i < j + 1 → has y.1 i = true → ¬Lv k F t (flp y.1 i)) := fun hno => by
      refine ⟨h1.congr fun c => ?_, h2.trans ?_⟩
      · constructor
        · rintro (e | ⟨i, hi, a⟩)
          · exact .inl e
          · exact .inr ⟨i, by omega, a⟩
        · rintro (e | ⟨i, hi, a⟩)
          · exact .inl e
          · have : i ≠ j := fun e => hno (e ▸ ⟨a.1, a.2.1⟩)
            exact .inr ⟨i, by omega, a⟩
      · constructor
        · intro e i hi hhi hl
          by_cases e' : i = j
          · exact hno (e' ▸ ⟨hhi, hl⟩)
          · exact e i (by omega) hhi hl
        · intro e i hi
          exact e i (by omega)
    unfold truth_Primes_b72
    rw [Int.toNat_natCast, has_shr]
    cases hh : has y.1 j with
    | false =>
      rw [Bool.not_false, cond_true]
      exact hn' _ (keep fun e => by rw [hh] at e; cases e.1)
    | true =>
      rw [Bool.not_true, cond_false]
      show (bif (mget now (flp y.1 j)).getD false then nx' (false, mput s.2 (drp y.1 j) true) else nx' (s.1, s.2)) = some r
      cases hg : (mget now (flp y.1 j)).getD false with
      | true =>
        have hl := (hn.get _).1 hg
        rw [cond_true]
        refine hn' _ ⟨(h1.put (drp y.1 j)).congr fun c => ⟨?_, ?_⟩, ⟨fun e => ?_, fun e => absurd hl (e j (by omega) hh)⟩⟩
        · rintro ((e | ⟨i, hi, a⟩) | rfl)
          · exact .inl e
          · exact .inr ⟨i, by omega, a⟩
          · exact .inr ⟨j, by omega, hh, hl, rfl⟩
        · rintro (e | ⟨i, hi, a⟩)
          · exact .inl (.inl e)
          · by_cases e : i = j
            · subst e; exact .inr a.2.2
            · exact .inl (.inr ⟨i, by omega, a⟩)
        · cases e
      | false =>
        rw [cond_false]
        exact hn' _ (keep fun e => by rw [(hn.get _).2 e.2] at hg; cases hg)
  · obtain ⟨h1, h2⟩ := hI
    rw [← hy.pi_iff hk] at h2
    show truth_Primes_k64 y l nx s.1 s.2 = some r
    unfold truth_Primes_k64
    cases hs : s.1 with
    | true =>
      rw [cond_true, decide_eq_true (show l.length + [({ yes := y.1.yes, no := y.1.no } : Clause)].length ≤ 17592186044416 by simp only [List.length_cons, List.length_nil]; omega), cond_true]
      exact h _ h1 _ (.inl ⟨rfl, h2.1 hs⟩)
    | false =>
      rw [cond_false]
      exact h _ h1 _ (.inr ⟨rfl, fun e => by rw [h2.2 e] at hs; cases hs⟩)

/-- Through a part of a level, in whatever order. -/
structure An (k : Nat) (F : BitVec 32 → Bool) (t : Nat) (left : List (Clause × Bool)) (s : List (Clause × Bool) × List Clause) : Prop where
  nd : (left.map Prod.fst).Nodup
  sub : ∀ c, c ∈ left.map Prod.fst → Lv k F t c
  nx : KL s.1 (fun d => ∃ c, Lv k F t c ∧ c ∉ left.map Prod.fst ∧ ∃ i, i < k ∧ has c i = true ∧ Lv k F t (flp c i) ∧ d = drp c i)
  ld : s.2.Nodup
  lm : ∀ c, c ∈ s.2 ↔ PI k F c ∧ (k < sz k c + t ∨ (sz k c + t = k ∧ c ∉ left.map Prod.fst))
theorem An.step {t : Nat} {left : List (Clause × Bool)} {s : List (Clause × Bool) × List Clause} (h : An k F t left s) {j : Nat} {y : Clause × Bool} (hj : left[j]? = some y) {nxt' : List (Clause × Bool)} {l' : List Clause}
    (h1 : KL nxt' (fun d => (∃ c, Lv k F t c ∧ c ∉ left.map Prod.fst ∧ ∃ i, i < k ∧ has c i = true ∧ Lv k F t (flp c i) ∧ d = drp c i) ∨ ∃ i, i < k ∧ has y.1 i = true ∧ Lv k F t (flp y.1 i) ∧ d = drp y.1 i))
    (h2 : (l' = s.2 ++ [y.1] ∧ PI k F y.1) ∨ (l' = s.2 ∧ ¬PI k F y.1)) : An k F t (left.eraseIdx j) (nxt', l') := by
  have hK : (left.map Prod.fst)[j]? = some y.1 := by rw [List.getElem?_map, hj]; rfl
  have hm : ∀ c, c ∈ (left.eraseIdx j).map Prod.fst ↔ c ∈ left.map Prod.fst ∧ c ≠ y.1 := fun c => by
    rw [← eraseIdx_map']; exact mem_erase h.nd hK
  have hy := List.mem_of_getElem? hK
  have hly := h.sub _ hy
  have hlt := hly.lt
  refine ⟨?_, fun c hc => h.sub c ((hm c).1 hc).1, h1.congr fun d => ⟨?_, ?_⟩, ?_, fun c => ?_⟩
  · rw [← eraseIdx_map']
    exact (List.eraseIdx_sublist _ _).nodup h.nd
  · rintro (⟨c, hc, hn, a⟩ | a)
    · exact ⟨c, hc, fun e => hn ((hm c).1 e).1, a⟩
    · exact ⟨y.1, hly, fun e => ((hm _).1 e).2 rfl, a⟩
  · rintro ⟨c, hc, hn, a⟩
    by_cases e : c = y.1
    · subst e; exact .inr a
    · exact .inl ⟨c, hc, fun e2 => hn ((hm c).2 ⟨e2, e⟩), a⟩
  · rcases h2 with ⟨rfl, hp⟩ | ⟨rfl, hp⟩
    · show (s.2 ++ [y.1]).Nodup
      rw [List.nodup_append]
      refine ⟨h.ld, by simp, fun a ha b hb e => ?_⟩
      rw [List.mem_singleton] at hb
      subst hb; subst e
      rcases ((h.lm _).1 ha).2 with h3 | h3
      · omega
      · exact h3.2 hy
    · exact h.ld
  · show c ∈ l' ↔ _
    rw [hm c]
    have hc := h.lm c
    rcases h2 with ⟨rfl, hp⟩ | ⟨rfl, hp⟩
    · rw [List.mem_append, List.mem_singleton, hc]
      constructor
      · rintro (⟨a, b⟩ | rfl)
        · exact ⟨a, b.imp_right fun b => ⟨b.1, fun e => b.2 e.1⟩⟩
        · exact ⟨hp, .inr ⟨hlt, fun e => e.2 rfl⟩⟩
      · rintro ⟨a, b | ⟨b, b2⟩⟩
        · exact .inl ⟨a, .inl b⟩
        · by_cases e : c = y.1
          · exact .inr e
          · exact .inl ⟨a, .inr ⟨b, fun e2 => b2 ⟨e2, e⟩⟩⟩
    · rw [hc]
      constructor
      · rintro ⟨a, b⟩
        exact ⟨a, b.imp_right fun b => ⟨b.1, fun e => b.2 e.1⟩⟩
      · rintro ⟨a, b | ⟨b, b2⟩⟩
        · exact ⟨a, .inl b⟩
        · by_cases e : c = y.1
          · subst e; exact absurd a hp
          · exact ⟨a, .inr ⟨b, fun e2 => b2 ⟨e2, e⟩⟩⟩

/-- Level after level. -/
structure Wh (k : Nat) (F : BitVec 32 → Bool) (t : Nat) (s : List Clause × List (Clause × Bool)) : Prop where
  now : KL s.2 (Lv k F t)
  ld : s.1.Nodup
  lm : ∀ c, c ∈ s.1 ↔ PI k F c ∧ k < sz k c + t
theorem wh_loop (hk : k ≤ 4) (hr : ∀ l : List Clause, l.Nodup → (∀ c, c ∈ l ↔ PI k F c) → truth_Primes_k25 l = some r) : ∀ (fuel d t : Nat) (s : List Clause × List (Clause × Bool)), Wh k F t s → t + d = k + 1 → d < fuel →
    whileK (σ := List Clause × List (Clause × Bool)) (fun s nx => truth_Primes_b29 (k : Int) s.1 s.2 nx) fuel s = some r
  | 0, d, t, s, _, _, h => by omega
  | fuel + 1, d, t, s, hw, hd, hf => by
    rw [whileK]
    unfold truth_Primes_b29
    by_cases hnil : s.2 = []
    · rw [hnil, decide_eq_false (by simp), cond_false]
      refine hr _ hw.ld fun c => (hw.lm c).trans ⟨fun e => e.1, fun e => ⟨e, ?_⟩⟩
      apply Classical.byContradiction
      intro hn
      obtain ⟨c', hc'⟩ := lv_some (t := t) hk (k - (sz k c + t)) c e.ok e.imp (by omega)
      have := (hw.now.m c').2 hc'
      rw [hnil] at this
      cases this
    · have hpos : 0 < s.2.length := List.length_pos_iff.2 hnil
      rw [decide_eq_true (by omega), cond_true]
      refine any_q (An k F t) (fun left st j y nx hI hj hnx => ?_) (fun st hI => ?_) _ _ _ rfl ⟨hw.now.nd, fun c hc => (hw.now.m c).1 hc, KL.nil fun d => ?_, hw.ld, fun c => (hw.lm c).trans ⟨fun e => ⟨e.1, .inl e.2⟩, fun e => ⟨e.1, ?_⟩⟩⟩
      · have hly := hI.sub y.1 (List.mem_map.2 ⟨y, List.mem_of_getElem? hj, rfl⟩)
        exact b52_eq hk hw.now hI.nx hly (few hk hI.ld fun c hc => ((hI.lm c).1 hc).1.ok) fun nxt' h1 l' h2 => hnx _ (hI.step hj h1 h2)
      · show whileK _ fuel (st.2, st.1) = some r
        cases d with
        | zero =>
          obtain ⟨p, hp⟩ := List.exists_mem_of_ne_nil _ hnil
          have := ((hw.now.m p.1).1 (List.mem_map.2 ⟨p, hp, rfl⟩)).lt
          omega
        | succ d =>
          refine wh_loop hk hr fuel d (t + 1) _ ⟨hI.nx.congr fun c => ?_, hI.ld, fun c => (hI.lm c).trans ?_⟩ (by omega) (by omega)
          · rw [lv_next hk]
            exact ⟨fun ⟨c, a, _, b⟩ => ⟨c, a, b⟩, fun ⟨c, a, b⟩ => ⟨c, a, by simp, b⟩⟩
          · constructor
            · rintro ⟨a, b | b⟩
              · exact ⟨a, by omega⟩
              · exact ⟨a, by omega⟩
            · rintro ⟨a, b⟩
              refine ⟨a, ?_⟩
              by_cases e : k < sz k c + t
              · exact .inl e
              · exact .inr ⟨by omega, by simp⟩
      · rintro ⟨c, hc, hn, _⟩
        exact hn ((hw.now.m c).2 hc)
      · rcases e.2 with e2 | ⟨e2, e3⟩
        · exact e2
        · exact absurd ((hw.now.m c).2 ⟨e.1.ok, e2, e.1.imp⟩) e3
end
section
variable {k : Nat} {f : List Bool}
theorem primes_eq (hk : k ≤ 4) (hf : f.length = 2 ^ k) {r : List Clause × Int} {fuel : Nat} (hfu : 100 < fuel)
    (hr : ∀ l : List Clause, l.Nodup → (∀ c, c ∈ l ↔ PI k (fun s => f[s.toNat]?.getD false) c) → truth_Primes_k25 l = some r) :
    forK (σ := (List (Clause × Bool))) (fun i s nx_ => truth_Primes_b77 f i s nx_) (fun s => truth_Primes_k10 (k : Int) fuel s) ((f.length : Int) - (0 : Int)).toNat (0 : Int) ([] : List (Clause × Bool)) = some r := by
  have h16 : (2 : Nat) ^ k ≤ 2 ^ 4 := Nat.pow_le_pow_right (by omega) hk
  refine for0_eq (n := 2 ^ k) (fun j (l : List (Clause × Bool)) => KL l (fun c => ∃ s, s < j ∧ f[s]?.getD false = true ∧ c = cof k s)) (by rw [hf]) _ (KL.nil fun c ⟨s, hs, _⟩ => by omega) (fun j s nx hj hI hn => ?_) (fun s hI => ?_)
  · unfold truth_Primes_b77
    have h1 : w64 ((f.length : Int) - 1) = (f.length : Int) - 1 := w64_id (by omega) (by omega)
    have h2 : w64 ((f.length : Int) - 1 - (j : Int)) = ((2 ^ k - (j + 1) : Nat) : Int) := by
      rw [w64_id (by omega) (by omega), hf]; omega
    rw [geti_d false (by omega), Option.bind_some, h1, h2, BitVec.ofInt_natCast, BitVec.ofInt_natCast]
    cases hb : f[j]?.getD false with
    | false =>
      rw [cond_false]
      refine hn _ (hI.congr fun c => ⟨fun ⟨s, hs, a⟩ => ⟨s, by omega, a⟩, fun ⟨s, hs, a⟩ => ⟨s, ?_, a⟩⟩)
      have : s ≠ j := fun e => by rw [e, hb] at a; cases a.1
      omega
    | true =>
      rw [cond_true]
      refine hn _ ((hI.put (cof k j)).congr fun c => ⟨?_, ?_⟩)
      · rintro (⟨s, hs, a⟩ | rfl)
        · exact ⟨s, by omega, a⟩
        · exact ⟨j, by omega, hb, rfl⟩
      · rintro ⟨s, hs, a⟩
        by_cases e : s = j
        · subst e; exact .inr a.2
        · exact .inl ⟨s, by omega, a⟩
  · unfold truth_Primes_k10
    refine wh_loop (F := fun s => f[s.toNat]?.getD false) hk hr fuel (k + 1) 0 ([], s) ⟨hI.congr fun c => (lv_zero hk).symm, List.nodup_nil, fun c => ⟨fun e => (by cases e), fun e => ?_⟩⟩ (by omega) (by omega)
    have : sz k c ≤ k := cntN_le
    omega

/-! ### The document -/
theorem product_eq (hk : k ≤ 4) (hf : f.length = 2 ^ k) (c : Clause) : syllogistref_Product f c = some (tru (Imp k (fun s => f[s.toNat]?.getD false) c)) := by
  have h16 : (2 : Nat) ^ k ≤ 2 ^ 4 := Nat.pow_le_pow_right (by omega) hk
  unfold syllogistref_Product
  rw [for_out (fun j => tru (sat c (BitVec.ofNat 32 j)) && !(f[j]?.getD false)) (some false) (n := 2 ^ k) (by rw [hf]) (fun j nx hj => by
    unfold syllogistref_Product_b9 syllogistref_In
    rw [Option.bind_some, geti_d false (by omega), BitVec.ofInt_natCast, Option.isSome_some, Bool.or_true, cond_true, Option.getD_some]
    have e : (((c.yes ||| BitVec.ofNat 32 j) == BitVec.ofNat 32 j) && ((c.no &&& BitVec.ofNat 32 j) == 0#32)) = tru (sat c (BitVec.ofNat 32 j)) := tru_of (by
      rw [Bool.and_eq_true, or_iff, and0]; exact Iff.rfl)
    rw [e])]
  unfold syllogistref_Product_k5
  have hany : anyN (2 ^ k) (fun j => tru (sat c (BitVec.ofNat 32 j)) && !(f[j]?.getD false)) = true ↔ ¬Imp k (fun s => f[s.toNat]?.getD false) c := by
    rw [anyN_iff]
    constructor
    · rintro ⟨j, hj, h⟩ hI
      rw [Bool.and_eq_true, tru_iff, Bool.not_eq_true'] at h
      have e : (BitVec.ofNat 32 j).toNat = j := by rw [BitVec.toNat_ofNat, Nat.mod_eq_of_lt (by omega)]
      have : f[(BitVec.ofNat 32 j).toNat]?.getD false = true := hI (BitVec.ofNat 32 j) (bel_toNat.2 (by omega)) h.1
      rw [e, h.2] at this
      cases this
    · intro hn
      apply Classical.byContradiction
      intro hne
      refine hn fun s hb hs => ?_
      have hlt := bel_toNat.1 hb
      show f[s.toNat]?.getD false = true
      cases hv : f[s.toNat]?.getD false with
      | true => rfl
      | false =>
        refine absurd ⟨s.toNat, hlt, ?_⟩ hne
        rw [hv, BitVec.ofNat_toNat, BitVec.setWidth_eq, tru_iff.2 hs]; rfl
  by_cases hI : Imp k (fun s => f[s.toNat]?.getD false) c
  · rw [tru_iff.2 hI]
    cases ha : anyN (2 ^ k) (fun j => tru (sat c (BitVec.ofNat 32 j)) && !(f[j]?.getD false)) with
    | true => exact absurd hI (hany.1 ha)
    | false => rfl
  · rw [tru_false.2 hI, hany.2 hI]; rfl
noncomputable def pcl (k : Nat) (F : BitVec 32 → Bool) (y z : BitVec 32) : List Clause := bif tru (PI k F { yes := y, no := z }) then [{ yes := y, no := z }] else []
theorem pcl_len (k : Nat) (F : BitVec 32 → Bool) (y z : BitVec 32) : (pcl k F y z).length ≤ 1 := by
  unfold pcl
  cases tru (PI k F { yes := y, no := z }) <;> simp
theorem b27_eq (hk : k ≤ 4) (hf : f.length = 2 ^ k) {y z : BitVec 32} (hy : bel k y) (hz : bel k z) {L : List Clause} (hL : L.length ≤ 1000) (nx : List Clause → Option (List Clause)) :
    syllogistref_Primes_b27 (k : Int) f y z L nx = nx (L ++ pcl k (fun s => f[s.toNat]?.getD false) y z) := by
  unfold syllogistref_Primes_b27 pcl
  rw [product_eq hk hf, Option.isSome_some, Bool.or_true, cond_true, Option.getD_some]
  cases hd : ((y &&& z) != 0#32) with
  | true =>
    rw [Bool.true_or, cond_true, tru_false.2 fun h => ?_, cond_false, List.append_nil]
    have : ((y &&& z) == 0#32) = true := and0.2 h.ok.d
    rw [bne, this] at hd
    cases hd
  | false =>
    have hd' : ((y &&& z) == 0#32) = true := by simpa [bne] using hd
    have hok : Okc k { yes := y, no := z } := ⟨hy, hz, and0.1 hd'⟩
    rw [Bool.false_or]
    by_cases hI : Imp k (fun s => f[s.toNat]?.getD false) { yes := y, no := z }
    · rw [tru_iff.2 hI, Bool.not_true, cond_false, decide_eq_true (by omega), cond_true,
        for_all (fun j => !(has { yes := y, no := z } j && tru (Imp k (fun s => f[s.toNat]?.getD false) (drp { yes := y, no := z } j)))) rfl (fun j s nx' hj => by
          unfold syllogistref_Primes_b46 syllogistref_Bit
          rw [Option.bind_some, bit_shape _ j (by omega), ofInt64 (by omega), BitVec.getLsbD_or]
          show (bif (!(has { yes := y, no := z } j == true) || (syllogistref_Product f (drp { yes := y, no := z } j)).isSome) then (bif (has { yes := y, no := z } j && (syllogistref_Product f (drp { yes := y, no := z } j)).getD false) then nx' false else nx' s) else none) = _
          rw [product_eq hk hf, Option.isSome_some, Bool.or_true, cond_true, Option.getD_some]
          cases (has { yes := y, no := z } j && tru (Imp k (fun s => f[s.toNat]?.getD false) (drp { yes := y, no := z } j))) <;> cases s <;> rfl)]
      unfold syllogistref_Primes_k38
      rw [decide_eq_true (show L.length + [({ yes := y, no := z } : Clause)].length ≤ 17592186044416 by simp only [List.length_cons, List.length_nil]; omega), cond_true, Bool.true_and]
      have e : allN k (fun j => !(has { yes := y, no := z } j && tru (Imp k (fun s => f[s.toNat]?.getD false) (drp { yes := y, no := z } j)))) = tru (PI k (fun s => f[s.toNat]?.getD false) { yes := y, no := z }) := tru_of (by
        rw [allN_iff]
        constructor
        · intro h
          refine ⟨hok, hI, fun i hi hh h2 => ?_⟩
          have := h i hi
          rw [hh, tru_iff.2 h2] at this
          cases this
        · intro h j hj
          rw [Bool.not_eq_true', Bool.and_eq_false_iff, tru_false]
          cases hh : has { yes := y, no := z } j with
          | false => exact .inl rfl
          | true => exact .inr (h.mn j hj hh))
      rw [e]
      cases tru (PI k (fun s => f[s.toNat]?.getD false) { yes := y, no := z }) with
      | true => rfl
      | false => rw [cond_false, cond_false, List.append_nil]
    · rw [tru_false.2 hI, Bool.not_false, cond_true, tru_false.2 fun h => hI h.imp, cond_false, List.append_nil]
noncomputable def docR (k : Nat) (F : BitVec 32 → Bool) (y : BitVec 32) : List Clause := apps (2 ^ k) fun z => pcl k F y (BitVec.ofNat 32 z)
noncomputable def docL (k : Nat) (F : BitVec 32 → Bool) : List Clause := apps (2 ^ k) fun y => docR k F (BitVec.ofNat 32 y)
theorem word_of (c : BitVec 32) : BitVec.ofNat 32 c.toNat = c := by rw [BitVec.ofNat_toNat, BitVec.setWidth_eq]
theorem docR_len (hk : k ≤ 4) (F : BitVec 32 → Bool) (y : BitVec 32) : (docR k F y).length ≤ 16 := by
  have h16 : (2 : Nat) ^ k ≤ 2 ^ 4 := Nat.pow_le_pow_right (by omega) hk
  have : (docR k F y).length ≤ 2 ^ k * 1 := apps_len fun j _ => pcl_len _ _ _ _
  omega
theorem b13_eq (hk : k ≤ 4) (hf : f.length = 2 ^ k) {y : BitVec 32} (hy : bel k y) {L : List Clause} (hL : L.length ≤ 256) (nx : List Clause → Option (List Clause)) :
    syllogistref_Primes_b13 (k : Int) f y L nx = nx (L ++ docR k (fun s => f[s.toNat]?.getD false) y) := by
  have h16 : (2 : Nat) ^ k ≤ 2 ^ 4 := Nat.pow_le_pow_right (by omega) hk
  have hB : (1#32 <<< k).toNat = 2 ^ k := one_shl_toNat (by omega)
  unfold syllogistref_Primes_b13
  rw [ofInt64 (by omega), forU_rec (fun j => L ++ apps j fun z => pcl k (fun s => f[s.toNat]?.getD false) y (BitVec.ofNat 32 z)) (by simp [apps]) (fun c nx' hc => by
    rw [hB] at hc
    have hl : (apps c.toNat fun z => pcl k (fun s => f[s.toNat]?.getD false) y (BitVec.ofNat 32 z)).length ≤ c.toNat * 1 := apps_len fun j _ => pcl_len _ _ _ _
    rw [b27_eq hk hf hy (bel_toNat.2 hc) (by rw [List.length_append]; omega), apps, word_of, List.append_assoc]), hB]
  rfl
theorem doc_eq (hk : k ≤ 4) (hf : f.length = 2 ^ k) : syllogistref_Primes (k : Int) f = some (docL k (fun s => f[s.toNat]?.getD false)) := by
  have h16 : (2 : Nat) ^ k ≤ 2 ^ 4 := Nat.pow_le_pow_right (by omega) hk
  have hB : (1#32 <<< k).toNat = 2 ^ k := one_shl_toNat (by omega)
  unfold syllogistref_Primes
  rw [ofInt64 (by omega), forU_apps (fun y => docR k (fun s => f[s.toNat]?.getD false) (BitVec.ofNat 32 y)) (fun c s nx hc hs => by
    rw [hB] at hc
    have hl : (apps c.toNat fun y => docR k (fun s => f[s.toNat]?.getD false) (BitVec.ofNat 32 y)).length ≤ c.toNat * 16 := apps_len fun j _ => docR_len hk _ _
    rw [b13_eq hk hf (bel_toNat.2 hc) (by rw [hs]; omega), word_of]), hB]
  rfl
theorem docL_mem (hk : k ≤ 4) {F : BitVec 32 → Bool} {c : Clause} : c ∈ docL k F ↔ PI k F c := by
  have h16 : (2 : Nat) ^ k ≤ 2 ^ 4 := Nat.pow_le_pow_right (by omega) hk
  have hp : ∀ y z, c ∈ pcl k F y z ↔ c = { yes := y, no := z } ∧ PI k F c := fun y z => by
    unfold pcl
    cases h : tru (PI k F { yes := y, no := z }) with
    | true =>
      rw [cond_true, List.mem_singleton]
      exact ⟨fun e => ⟨e, by rw [e]; exact tru_iff.1 h⟩, fun e => e.1⟩
    | false =>
      rw [cond_false]
      exact ⟨fun e => (by cases e), fun e => absurd (e.1 ▸ e.2) (tru_false.1 h)⟩
  unfold docL docR
  rw [apps_mem]
  constructor
  · rintro ⟨y, hy, h⟩
    obtain ⟨z, hz, h⟩ := apps_mem.1 h
    exact ((hp _ _).1 h).2
  · intro h
    refine ⟨c.yes.toNat, bel_toNat.1 h.ok.y, apps_mem.2 ⟨c.no.toNat, bel_toNat.1 h.ok.z, (hp _ _).2 ⟨?_, h⟩⟩⟩
    rw [word_of, word_of]
theorem docL_pair (hk : k ≤ 4) (F : BitVec 32 → Bool) : (docL k F).Pairwise cls := by
  have h16 : (2 : Nat) ^ k ≤ 2 ^ 4 := Nat.pow_le_pow_right (by omega) hk
  have hp : ∀ {y z c}, c ∈ pcl k F y z → c = { yes := y, no := z } := fun {y z c} h => by
    unfold pcl at h
    cases ht : tru (PI k F { yes := y, no := z }) with
    | true => rw [ht, cond_true, List.mem_singleton] at h; exact h
    | false => rw [ht] at h; cases h
  have hr : ∀ {y c}, c ∈ docR k F y → ∃ z, z < 2 ^ k ∧ c = { yes := y, no := BitVec.ofNat 32 z } := fun {y c} h => by
    obtain ⟨z, hz, h⟩ := apps_mem.1 h
    exact ⟨z, hz, hp h⟩
  have hw : ∀ {n : Nat}, n < 2 ^ k → (BitVec.ofNat 32 n).toNat = n := fun {n} hn => by rw [BitVec.toNat_ofNat, Nat.mod_eq_of_lt (by omega)]
  refine apps_pair (fun y hy => apps_pair (fun z hz => ?_) (fun i j hi hj a ha b hb => ?_)) (fun i j hi hj a ha b hb => ?_)
  · unfold pcl
    cases tru (PI k F { yes := BitVec.ofNat 32 y, no := BitVec.ofNat 32 z }) with
    | true => exact List.pairwise_singleton _ _
    | false => exact List.Pairwise.nil
  · rw [hp ha, hp hb]
    refine .inr ⟨rfl, ?_⟩
    show (BitVec.ofNat 32 i).toNat < (BitVec.ofNat 32 j).toNat
    rw [hw (by omega), hw hj]; exact hi
  · obtain ⟨_, _, rfl⟩ := hr ha
    obtain ⟨_, _, rfl⟩ := hr hb
    refine .inl ?_
    show (BitVec.ofNat 32 i).toNat < (BitVec.ofNat 32 j).toNat
    rw [hw (by omega), hw hj]; exact hi
theorem sort_doc (hk : k ≤ 4) {F : BitVec 32 → Bool} {l : List Clause} (hd : l.Nodup) (hm : ∀ c, c ∈ l ↔ PI k F c) : sortC l = docL k F := by
  obtain ⟨h1, h2⟩ := sortC_all l
  have h3 : (sortC l).Nodup := h1.nodup_iff.2 hd
  refine sorted_eq cls_asymm ?_ (docL_pair hk F) fun c => ?_
  · have h4 := List.pairwise_and_iff.2 ⟨h2, h3⟩
    refine h4.imp fun {a b} h => ?_
    obtain ⟨h5, h6⟩ := h
    rcases h5 with h5 | ⟨h5, h7⟩
    · exact .inl h5
    · refine .inr ⟨h5, Nat.lt_of_le_of_ne h7 fun e => h6 ?_⟩
      cases a; cases b
      simp only at h5 e
      rw [BitVec.eq_of_toNat_eq h5, BitVec.eq_of_toNat_eq e]
  · rw [h1.mem_iff, hm, docL_mem hk]
end
theorem clauses_self (l : List Clause) : syllogistref_Clauses l l = some true := by
  unfold syllogistref_Clauses
  rw [bne_self_eq_false, cond_false]
  refine for0_eq (fun _ _ => True) rfl _ trivial (fun j s nx hj _ hn => ?_) (fun s _ => rfl)
  unfold syllogistref_Clauses_b7
  rw [geti_at hj, Option.bind_some, Option.bind_some]
  simp only [beq_self_eq_true, Bool.and_self, Bool.not_true, cond_false]
  exact hn () trivial

theorem ishl_small : ∀ n, n ≤ 4 → ishl (1 : Int) n = ((2 ^ n : Nat) : Int) := by decide
theorem truthPrimes_true (fuel : Nat) (n : Int) (f : List Bool) (hf : 100 < fuel := by decide) : syllogistlaw_TruthPrimes fuel n f = some true := by
  unfold syllogistlaw_TruthPrimes truth_Primes truth_Check syllogistref_TruthCheck
  cases hb : ((decide (n < (0 : Int))) || (decide (n > (4 : Int)))) with
  | true => rfl
  | false =>
    simp only [Bool.or_eq_false_iff, decide_eq_false_iff_not] at hb
    obtain ⟨k, rfl⟩ : ∃ k : Nat, n = k := ⟨n.toNat, by omega⟩
    have hk : k ≤ 4 := by omega
    simp only [cond_false]
    rw [decide_eq_true (by omega), cond_true, Int.toNat_natCast, ofInt64 (by omega), ishl_small k hk]
    cases hl : ((f.length : Int) != ((2 ^ k : Nat) : Int)) with
    | true => rfl
    | false =>
      have hlen : f.length = 2 ^ k := by
        have : (f.length : Int) = ((2 ^ k : Nat) : Int) := by simpa using hl
        omega
      simp only [cond_false, Option.bind_some, bne_self_eq_false]
      rw [primes_eq hk hlen hf (r := (docL k (fun s => f[s.toNat]?.getD false), 0)) fun l h1 h2 => by
        have h3 := few hk h1 fun c hc => ((h2 c).1 hc).ok
        unfold truth_Primes_k25 slices_SortFunc_SapiClauseapiClause_f10
        rw [decide_eq_true (by omega), cond_true, Option.bind_some, sort_doc hk h1 h2]]
      rw [Option.bind_some, doc_eq hk hlen, Option.bind_some, clauses_self]
      rfl
end Go.Proofs.Ytkdhckiljfjanaa.Sy
