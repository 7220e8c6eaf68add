/- Functions of the program as plain functions, and that the translation computes them; the conditions stand in each theorem. Printed by an own program. -/
import Derived.Test.YthndckcjjhdbmaaG1a
import Derived.Test.YthndckcjjhdbmaaProg
namespace Go.Proofs.Ythndckcjjhdbmaa.Sy
open Go
set_option linter.unusedVariables false
def slices_Insert_SapiLeafapiLeaf (xs : List Leaf) (i : Int) (ys : List Leaf) : Option (List Leaf) :=
  bif decide (0 ≤ i ∧ i ≤ (xs.length : Int) ∧ xs.length + ys.length ≤ 4398046511104) then some (xs.take i.toNat ++ ys ++ xs.drop i.toNat) else none

set_option maxRecDepth 100000 in
set_option maxHeartbeats 4000000 in
theorem slices_Insert_SapiLeafapiLeaf_ok (w0 : World) (m : Snap) (l : List HI) (u : Value) (xs : List Leaf) (i : Int) (u2 : Value) (ys : List Leaf) (r : List Leaf) (hr : slices_Insert_SapiLeafapiLeaf xs i ys = some r) (w : World) (hc : cX w0 ⟨m, hownT 42 4 Leaf.enc u xs :: hownT 42 4 Leaf.enc u2 ys :: l⟩ w) :
    Calls Try.prog 47 [u, .int .i64 i, u2].toArray w fun e w' => ∃ z : Value, e = .returned z ∧ cX w0 ⟨m, hownT 42 4 Leaf.enc z r :: l⟩ w' := by
  unfold slices_Insert_SapiLeafapiLeaf at hr
  obtain ⟨hq, hr⟩ := guard_some hr; replace hq := of_decide_eq_true hq; obtain ⟨h0, h1, h2⟩ := hq
  obtain ⟨k, rfl⟩ : ∃ k : Nat, i = k := ⟨i.toNat, by omega⟩
  simp only [Int.toNat_natCast] at hr
  have hyl := flat_length (enc := Leaf.enc) (n := 4) (fun _ => rfl) ys
  have hxl := flat_length (enc := Leaf.enc) (n := 4) (fun _ => rfl) xs
  have hya : (ys.flatMap Leaf.enc).all Value.oneCell' = true := by rw [List.all_eq_true]; intro u hu; obtain ⟨y, _, hy⟩ := List.mem_flatMap.1 hu; exact List.all_eq_true.1 (show (Leaf.enc y).all Value.oneCell' = true from rfl) u hy
  have hfi := flat_insert (enc := Leaf.enc) (n := 4) (fun _ => rfl) xs ys k
  cases hr
  refine calls_of_Tr (N := 95) Try.func47 rfl hc rfl (Nat.le_of_ble_eq_true rfl) ?_
  refine Tr.seq ?_
  refine Tr.region_f (fun _ => false) ?_
  refine W.q rfl rfl rfl rfl (by decide) (Yd.as rfl (.c)) ?_
  refine W.end ?_
  refine NX.then ?_
  refine Tr.seq ?_
  refine Tr.region_f (fun _ => false) ?_
  refine W.q rfl rfl rfl rfl (by decide) (Yd.mv rfl (.t rfl)) ?_
  refine W.q rfl rfl rfl rfl (by decide) (Yd.mv rfl (.t rfl)) ?_
  refine W.q rfl rfl rfl rfl (by decide) (Yd.slFrom (pos := 0) rfl rfl Try.underlying22 SZ42 (.t rfl) (.t rfl) h0 h1) ?_
  refine W.end ?_
  refine NX.then ?_
  refine Tr.seq ?_
  refine Tr.region_f (fun _ => false) ?_
  refine W.q rfl rfl rfl rfl (by decide) (Yd.mv rfl (.t rfl)) ?_
  refine W.q rfl rfl rfl rfl (by decide) (Yd.lenO (p := 1) rfl rfl Try.underlying22 (.t rfl)) ?_
  refine W.q rfl rfl rfl rfl (by decide) (Yd.as rfl (.t rfl)) ?_
  refine W.end ?_
  refine NX.then ?_
  refine Tr.seq ?_
  refine Tr.seq ?_
  refine Tr.region_f (fun _ => false) ?_
  refine W.q rfl rfl rfl rfl (by decide) (Yd.mv rfl (.t rfl)) ?_
  refine W.q rfl rfl rfl rfl (by decide) (Yd.eql rfl (.t rfl) .c) ?_
  refine W.end ?_
  refine NX.then ?_
  refine Tr.cond (.t rfl) (fun hb => ?_) (fun hb => ?_)
  · refine Tr.seq ?_
    refine Tr.region_f (fun _ => false) ?_
    refine W.q rfl rfl rfl rfl (by decide) (Yd.mv rfl (.t rfl)) ?_
    refine W.q rfl rfl rfl rfl (by decide) (Yd.as rfl (.t rfl)) ?_
    refine W.end ?_
    refine NX.then ?_
    refine Tr.ret' (RT.then ?_)
    refine res1 rfl rfl ?_
    intro w hc
    have hy0 : ys = [] := by rw [beq_iff_eq] at hb; exact List.eq_nil_of_length_eq_zero (by omega)
    subst hy0
    rw [List.append_nil, List.take_append_drop]
    exact ⟨_, rfl, cX_sub (.cons_cons _ (.cons _ (.refl _))) hc⟩
  refine Tr.skip' ?_
  refine NX.then ?_
  have hm0 : 0 < ys.length := by rw [beq_eq_false_iff_ne] at hb; omega
  refine Tr.seq ?_
  refine Tr.region_f (fun _ => false) ?_
  refine W.q rfl rfl rfl rfl (by decide) (Yd.mv rfl (.t rfl)) ?_
  refine W.q rfl rfl rfl rfl (by decide) (Yd.lenO (p := 0) rfl rfl Try.underlying22 (.t rfl)) ?_
  refine W.q rfl rfl rfl rfl (by decide) (Yd.as rfl (.t rfl)) ?_
  refine W.end ?_
  refine NX.then ?_
  refine Tr.seq ?_
  refine Tr.seq ?_
  refine Tr.region_f (fun _ => false) ?_
  refine W.q rfl rfl rfl rfl (by decide) (Yd.mv rfl (.t rfl)) ?_
  refine W.q rfl rfl rfl rfl (by decide) (Yd.mv rfl (.t rfl)) ?_
  refine W.q rfl rfl rfl rfl (by decide) (Yd.eql rfl (.t rfl) (.t rfl)) ?_
  refine W.end ?_
  refine NX.then ?_
  refine Tr.cond (.t rfl) (fun hb2 => ?_) (fun hb2 => ?_)
  · refine Tr.seq ?_
    refine Tr.region_f (fun i => Nat.beq i 2) ?_
    refine W.q rfl rfl rfl rfl (by decide) (Yd.mv rfl (.t rfl)) ?_
    refine W.q rfl rfl rfl rfl (by decide) (Yd.mv rfl (.t rfl)) ?_
    refine W.e rfl rfl rfl rfl (by decide) (Ef.apI (pos := 0) (enc := Leaf.enc) (xs := xs) (ys := ys) (fun _ => rfl) IF42 rfl rfl Try.underlying22 rfl (by decide) (.t rfl) (.t rfl) (Src.own (pos := 1) rfl) (fun _ => rfl) (by omega) (by omega)) ?_
    rintro v3 _ rfl
    refine ⟨.inl rfl, ?_⟩
    refine W.cast (m' := m) (l' := hownT 42 4 Leaf.enc v3 (xs ++ ys) :: hownT 42 4 Leaf.enc u2 ys :: l) rfl rfl ?_
    refine W.q rfl rfl rfl rfl (by decide) (Yd.as rfl (.t rfl)) ?_
    refine W.end ?_
    refine NX.then ?_
    refine Tr.ret' (RT.then ?_)
    refine res1 rfl rfl ?_
    intro w hc
    have hk : k = xs.length := by rw [beq_iff_eq] at hb2; omega
    rw [List.take_of_length_le (by omega), List.drop_of_length_le (by omega), List.append_nil]
    exact ⟨_, rfl, cX_sub (.cons_cons _ (.cons _ (.refl _))) hc⟩
  refine Tr.skip' ?_
  refine NX.then ?_
  have hlt : k < xs.length := by rw [beq_eq_false_iff_ne] at hb2; omega
  refine Tr.openO (fun _ h => by omega) fun b cap cs hu h3 h4 h5 h6 => ?_
  subst hu
  have hKn : xs.length * 4 ≤ cap * 4 := Nat.mul_le_mul_right _ h3
  have hkn : k * 4 ≤ xs.length * 4 := Nat.mul_le_mul_right _ (Nat.le_of_lt hlt)
  rw [← h6] at hfi
  refine Tr.seq ?_
  refine Tr.seq ?_
  refine Tr.region_f (fun _ => false) ?_
  refine W.q rfl rfl rfl rfl (by decide) (Yd.mv rfl (.t rfl)) ?_
  refine W.q rfl rfl rfl rfl (by decide) (Yd.mv rfl (.t rfl)) ?_
  refine W.q rfl rfl rfl rfl (by decide) (Yd.addC (c := ((xs.length + ys.length : Nat) : Int)) (by rw [w64_id (by omega) (by omega)]; omega) rfl (.t rfl) (.t rfl)) ?_
  refine W.q rfl rfl rfl rfl (by decide) (Yd.mv rfl (.t rfl)) ?_
  refine W.q rfl rfl rfl rfl (by decide) (Yd.cap rfl Try.underlying22 (.t rfl)) ?_
  refine W.q rfl rfl rfl rfl (by decide) (Yd.gtr rfl (.t rfl) (.t rfl)) ?_
  refine W.end ?_
  refine NX.then ?_
  refine Tr.cond (.t rfl) (fun hb3 => ?_) (fun hb3 => ?_)
  · have hg : cap < xs.length + ys.length := by rw [decide_eq_true_eq] at hb3; omega
    refine Tr.seq ?_
    refine Tr.region_f (fun i => Nat.beq i 8) ?_
    refine W.q rfl rfl rfl rfl (by decide) (Yd.mv rfl (.t rfl)) ?_
    refine W.q rfl rfl rfl rfl (by decide) (Yd.mv rfl (.t rfl)) ?_
    refine W.q rfl rfl rfl rfl (by decide) (Yd.slTC (hi := k) (by omega) h3 rfl Try.underlying22 SZ42 (.t rfl) (.t rfl)) ?_
    refine W.q rfl rfl rfl rfl (by decide) (Yd.mv rfl (.t rfl)) ?_
    refine W.q rfl rfl rfl rfl (by decide) (Yd.mv rfl (.t rfl)) ?_
    refine W.q rfl rfl rfl rfl (by decide) (Yd.addC (c := ((xs.length + ys.length : Nat) : Int)) (by rw [w64_id (by omega) (by omega)]; omega) rfl (.t rfl) (.t rfl)) ?_
    refine W.q rfl rfl rfl rfl (by decide) (Yd.mv rfl (.t rfl)) ?_
    refine W.q rfl rfl rfl rfl (by decide) (Yd.subC (c := ((xs.length + ys.length - k : Nat) : Int)) (by rw [w64_id (by omega) (by omega)]; omega) rfl (.t rfl) (.t rfl)) ?_
    refine W.e rfl rfl rfl rfl (by decide) (Ef.apMkC (pos := 0) (j := xs.length + ys.length - k) IF42 rfl (by omega) (by decide) rfl (by omega) (by omega) rfl Try.underlying22 Try.underlying3 (.t rfl) (.t rfl) (by omega) (by omega)) ?_
    rintro _ _ ⟨b2, cap2, cs2, rfl, h7, h8, h9, h10, rfl⟩
    refine ⟨.inl rfl, ?_⟩
    have hj : k + (xs.length + ys.length - k) = xs.length + ys.length := by omega
    rw [hj] at h7 ⊢
    refine W.cast (m' := m) (l' := hcells b2 cs2 42 :: hcells b cs 42 :: hownT 42 4 Leaf.enc u2 ys :: l) rfl rfl ?_
    refine W.q rfl rfl rfl rfl (by decide) (Yd.as rfl (.t rfl)) ?_
    refine W.end ?_
    refine NX.then ?_
    have hc2 : (xs.length + ys.length) * 4 ≤ cap2 * 4 := Nat.mul_le_mul_right _ h7
    have hmin : Nat.min ys.length (xs.length + ys.length - k) = ys.length := Nat.min_eq_left (by omega)
    have hmin2 : Nat.min (xs.length - k) (xs.length + ys.length - (k + ys.length)) = xs.length - k := Nat.min_eq_left (by omega)
    refine Tr.seq ?_
    refine Tr.region_f (fun i => Nat.beq i 4) ?_
    refine W.q rfl rfl rfl rfl (by decide) (Yd.mv rfl (.t rfl)) ?_
    refine W.q rfl rfl rfl rfl (by decide) (Yd.mv rfl (.t rfl)) ?_
    refine W.q rfl rfl rfl rfl (by decide) (Yd.slFC (lo := k) (by omega) h7 (by omega) rfl Try.underlying22 SZ42 (.t rfl) (.t rfl)) ?_
    refine W.q rfl rfl rfl rfl (by decide) (Yd.mv rfl (.t rfl)) ?_
    refine W.e rfl rfl rfl rfl (by decide) (Ef.cpC (pos := 0) (cs' := cs2.take (k * 4) ++ ys.flatMap Leaf.enc ++ cs2.drop (k * 4 + ys.length * 4)) rfl (by rw [hmin]; exact hm0) (by rw [hmin, h9]; omega) rfl Try.underlying22 SZ42 (.t rfl) (.t rfl) (Src.own (pos := 2) rfl) hyl (by rw [hmin, List.take_of_length_le (l := ys.flatMap Leaf.enc) (by rw [hyl]; exact Nat.le_refl _)]; exact hya) (by rw [hmin, Nat.zero_add, List.take_of_length_le (l := ys.flatMap Leaf.enc) (by rw [hyl]; exact Nat.le_refl _)])) ?_
    rintro _ _ ⟨rfl, rfl⟩
    refine ⟨.inl rfl, ?_⟩
    refine W.cast (m' := m) (l' := hcells b2 (cs2.take (k * 4) ++ ys.flatMap Leaf.enc ++ cs2.drop (k * 4 + ys.length * 4)) 42 :: hcells b cs 42 :: hownT 42 4 Leaf.enc u2 ys :: l) rfl rfl ?_
    refine W.end ?_
    refine NX.then ?_
    have hca : ((cs.drop (0 + k * 4)).take ((xs.length - k) * 4)).all Value.oneCell' = true := by
        rw [List.all_eq_true]; intro u hu
        have h11 : u ∈ (xs.flatMap Leaf.enc).drop (k * 4) := by rw [← h6, List.drop_take, ← Nat.sub_mul]; rwa [Nat.zero_add] at hu
        obtain ⟨y, _, hy⟩ := List.mem_flatMap.1 (List.mem_of_mem_drop h11)
        exact List.all_eq_true.1 (show (Leaf.enc y).all Value.oneCell' = true from rfl) u hy
    have hcl : ((cs.drop (0 + k * 4)).take ((xs.length - k) * 4)).length = (xs.length - k) * 4 := by rw [List.length_take, List.length_drop, h5, Nat.sub_mul]; omega
    have hl2 : (cs2.take (k * 4) ++ ys.flatMap Leaf.enc ++ cs2.drop (k * 4 + ys.length * 4)).length = cap2 * 4 := by rw [List.length_append, List.length_append, List.length_take, List.length_drop, hyl, h9]; omega
    refine Tr.seq ?_
    refine Tr.region_x (fun i => Nat.beq i 8) (fun i => Nat.beq i 8) (Ord.of [0, 1, 2, 3, 4, 5, 6, 7, 8]) FM (by kernel_rfl) ?_
    refine W.q rfl rfl rfl rfl (by decide) (Yd.mv rfl (.t rfl)) ?_
    refine W.q rfl rfl rfl rfl (by decide) (Yd.mv rfl (.t rfl)) ?_
    refine W.q rfl rfl rfl rfl (by decide) (Yd.mv rfl (.t rfl)) ?_
    refine W.q rfl rfl rfl rfl (by decide) (Yd.addC (c := ((k + ys.length : Nat) : Int)) (by rw [w64_id (by omega) (by omega)]; omega) rfl (.t rfl) (.t rfl)) ?_
    refine W.q rfl rfl rfl rfl (by decide) (Yd.slFC (lo := k + ys.length) (by omega) h7 (by omega) rfl Try.underlying22 SZ42 (.t rfl) (.t rfl)) ?_
    refine W.q rfl rfl rfl rfl (by decide) (Yd.mv rfl (.t rfl)) ?_
    refine W.q rfl rfl rfl rfl (by decide) (Yd.mv rfl (.t rfl)) ?_
    refine W.q rfl rfl rfl rfl (by decide) (Yd.slFC (lo := k) (by omega) h3 (by omega) rfl Try.underlying22 SZ42 (.t rfl) (.t rfl)) ?_
    refine W.e rfl rfl rfl rfl (by decide) (Ef.cpC (pos := 0) (cs' := _) rfl (by rw [hmin2]; omega) (by rw [hmin2, hl2]; omega) rfl Try.underlying22 SZ42 (.t rfl) (.t rfl) (Src.cells (pos := 1) rfl) hcl (by rw [hmin2, List.take_of_length_le (by rw [hcl]; exact Nat.le_refl _)]; exact hca) rfl) ?_
    rintro _ _ ⟨rfl, rfl⟩
    refine ⟨.inl rfl, ?_⟩
    rw [hmin2, Nat.zero_add, Nat.zero_add, List.take_of_length_le (i := (xs.length - k) * 4) (by rw [Nat.zero_add] at hcl; rw [hcl]; exact Nat.le_refl _)]
    refine W.end ?_
    refine NX.then ?_
    refine Tr.seq ?_
    refine Tr.region_f (fun _ => false) ?_
    refine W.q rfl rfl rfl rfl (by decide) (Yd.mv rfl (.t rfl)) ?_
    refine W.q rfl rfl rfl rfl (by decide) (Yd.as rfl (.t rfl)) ?_
    refine W.end ?_
    refine NX.then ?_
    refine Tr.ret' (RT.then ?_)
    refine res1 rfl rfl ?_
    intro w hc
    replace hc : cX w0 ⟨m, hcells b2 _ 42 :: l⟩ w := cX_sub (l := hcells b2 _ 42 :: hcells b cs 42 :: hownT 42 4 Leaf.enc u2 ys :: l) (.cons_cons _ (.cons _ (.cons _ (.refl _)))) hc
    refine ⟨_, rfl, ?_⟩
    have hrl : (xs.take k ++ ys ++ xs.drop k).length = xs.length + ys.length := by rw [List.length_append, List.length_append, List.length_take, List.length_drop]; omega
    unfold hownT; rw [hrl]
    refine cX_shutO h7 h8 ?_ ?_ hc
    · show (List.take ((k + ys.length) * 4) _ ++ _ ++ List.drop ((k + ys.length) * 4 + (xs.length - k) * 4) _).length = _
      rw [List.length_append, List.length_append, List.length_take, List.length_drop, List.length_take, List.length_drop, hl2, h5]; omega
    · have := insA (c2 := cs2) (c := cs) (y := ys.flatMap Leaf.enc) (A := k * 4) (M := ys.length * 4) (K := xs.length * 4) hkn h10 (by rw [h9]; omega) (by rw [h5]; omega) hyl
      rw [← hfi] at this; rw [← this, Nat.add_mul, Nat.add_mul, Nat.sub_mul]
  have hg : xs.length + ys.length ≤ cap := by rw [decide_eq_false_iff_not] at hb3; omega
  have hc2 : (xs.length + ys.length) * 4 ≤ cap * 4 := Nat.mul_le_mul_right _ hg
  have hmin : Nat.min ys.length (xs.length + ys.length - k) = ys.length := Nat.min_eq_left (by omega)
  have hmin2 : Nat.min (xs.length + ys.length - k) (xs.length + ys.length - (k + ys.length)) = xs.length - k := by rw [show xs.length + ys.length - (k + ys.length) = xs.length - k by omega]; exact Nat.min_eq_right (by omega)
  refine Tr.skip' ?_
  refine NX.then ?_
  refine Tr.seq ?_
  refine Tr.region_f (fun _ => false) ?_
  refine W.q rfl rfl rfl rfl (by decide) (Yd.mv rfl (.t rfl)) ?_
  refine W.q rfl rfl rfl rfl (by decide) (Yd.mv rfl (.t rfl)) ?_
  refine W.q rfl rfl rfl rfl (by decide) (Yd.mv rfl (.t rfl)) ?_
  refine W.q rfl rfl rfl rfl (by decide) (Yd.addC (c := ((xs.length + ys.length : Nat) : Int)) (by rw [w64_id (by omega) (by omega)]; omega) rfl (.t rfl) (.t rfl)) ?_
  refine W.q rfl rfl rfl rfl (by decide) (Yd.slTC (hi := xs.length + ys.length) hg h3 rfl Try.underlying22 SZ42 (.t rfl) (.t rfl)) ?_
  refine W.q rfl rfl rfl rfl (by decide) (Yd.as rfl (.t rfl)) ?_
  refine W.end ?_
  refine NX.then ?_
  refine Tr.seq ?_
  refine Tr.seq ?_
  refine Tr.region_f (fun _ => false) ?_
  refine W.q rfl rfl rfl rfl (by decide) (Yd.mv rfl (.t rfl)) ?_
  refine W.q rfl rfl rfl rfl (by decide) (Yd.mv rfl (.t rfl)) ?_
  refine W.q rfl rfl rfl rfl (by decide) (Yd.mv rfl (.t rfl)) ?_
  refine W.q rfl rfl rfl rfl (by decide) (Yd.mv rfl (.t rfl)) ?_
  refine W.q rfl rfl rfl rfl (by decide) (Yd.addC (c := ((k + ys.length : Nat) : Int)) (by rw [w64_id (by omega) (by omega)]; omega) rfl (.t rfl) (.t rfl)) ?_
  refine W.q rfl rfl rfl rfl (by decide) (Yd.slFC (lo := k + ys.length) (by omega) hg (by omega) rfl Try.underlying22 SZ42 (.t rfl) (.t rfl)) ?_
  refine W.q rfl rfl rfl rfl (by decide) (Yd.ovl (pos := 1) (pos2 := 0) rfl rfl hm0 (by rw [h5]; omega) rfl rfl Try.func48 (by kernel_rfl) (by kernel_rfl) (by kernel_rfl) (tS := 22) (tR := 4) (by kernel_rfl) Try.underlying22 SZ42 (.t rfl) (.t rfl)) ?_
  refine W.q rfl rfl rfl rfl (by decide) (Yd.not rfl (.t rfl)) ?_
  refine W.end ?_
  refine NX.then ?_
  refine Tr.cond (.t rfl) (fun hb4 => ?_) (fun hb4 => absurd hb4 (by decide))
  have hcl : ((cs.drop (0 + k * 4)).take ((xs.length + ys.length - k) * 4)).length = (xs.length + ys.length - k) * 4 := by rw [List.length_take, List.length_drop, h5, Nat.sub_mul]; omega
  have hsub : ((cs.drop (0 + k * 4)).take ((xs.length + ys.length - k) * 4)).take ((xs.length - k) * 4) = (xs.flatMap Leaf.enc).drop (k * 4) := by
    rw [← h6, List.drop_take, ← Nat.sub_mul, List.take_take, Nat.min_eq_left (Nat.mul_le_mul_right _ (by omega)), Nat.zero_add]
  have hca : (((cs.drop (0 + k * 4)).take ((xs.length + ys.length - k) * 4)).take ((xs.length - k) * 4)).all Value.oneCell' = true := by
    rw [hsub, List.all_eq_true]; intro u hu
    obtain ⟨y, _, hy⟩ := List.mem_flatMap.1 (List.mem_of_mem_drop hu)
    exact List.all_eq_true.1 (show (Leaf.enc y).all Value.oneCell' = true from rfl) u hy
  refine Tr.seq ?_
  refine Tr.region_x (fun i => Nat.beq i 8) (fun i => Nat.beq i 8) (Ord.of [0, 1, 2, 3, 4, 5, 6, 7, 8]) FM (by kernel_rfl) ?_
  refine W.q rfl rfl rfl rfl (by decide) (Yd.mv rfl (.t rfl)) ?_
  refine W.q rfl rfl rfl rfl (by decide) (Yd.mv rfl (.t rfl)) ?_
  refine W.q rfl rfl rfl rfl (by decide) (Yd.mv rfl (.t rfl)) ?_
  refine W.q rfl rfl rfl rfl (by decide) (Yd.addC (c := ((k + ys.length : Nat) : Int)) (by rw [w64_id (by omega) (by omega)]; omega) rfl (.t rfl) (.t rfl)) ?_
  refine W.q rfl rfl rfl rfl (by decide) (Yd.slFC (lo := k + ys.length) (by omega) hg (by omega) rfl Try.underlying22 SZ42 (.t rfl) (.t rfl)) ?_
  refine W.q rfl rfl rfl rfl (by decide) (Yd.mv rfl (.t rfl)) ?_
  refine W.q rfl rfl rfl rfl (by decide) (Yd.mv rfl (.t rfl)) ?_
  refine W.q rfl rfl rfl rfl (by decide) (Yd.slFC (lo := k) (by omega) hg (by omega) rfl Try.underlying22 SZ42 (.t rfl) (.t rfl)) ?_
  refine W.e rfl rfl rfl rfl (by decide) (Ef.cpC (pos := 0) (cs' := cs.take (k * 4 + ys.length * 4) ++ ((cs.drop (k * 4)).take (xs.length * 4 + ys.length * 4 - k * 4)).take (xs.length * 4 - k * 4) ++ cs.drop (k * 4 + ys.length * 4 + (xs.length * 4 - k * 4))) rfl (by rw [hmin2]; omega) (by rw [hmin2, h5, Nat.zero_add, ← Nat.add_mul]; exact Nat.mul_le_mul_right _ (by omega)) rfl Try.underlying22 SZ42 (.t rfl) (.t rfl) (Src.cells (pos := 0) rfl) hcl (by rw [hmin2]; exact hca) (by rw [hmin2, Nat.zero_add, Nat.zero_add, Nat.add_mul, Nat.sub_mul, Nat.sub_mul, Nat.add_mul])) ?_
  rintro _ _ ⟨rfl, rfl⟩
  refine ⟨.inl rfl, ?_⟩
  have hl1 : (cs.take (k * 4 + ys.length * 4) ++ ((cs.drop (k * 4)).take (xs.length * 4 + ys.length * 4 - k * 4)).take (xs.length * 4 - k * 4) ++ cs.drop (k * 4 + ys.length * 4 + (xs.length * 4 - k * 4))).length = cap * 4 := by
    rw [List.length_append, List.length_append, List.length_take, List.length_take, List.length_take, List.length_drop, List.length_drop, h5]; omega
  have hfin := insB (c := cs) (y := ys.flatMap Leaf.enc) (A := k * 4) (M := ys.length * 4) (K := xs.length * 4) hkn (by rw [h5]; omega) hyl
  obtain ⟨c1, hc1⟩ : ∃ c1, c1 = cs.take (k * 4 + ys.length * 4) ++ ((cs.drop (k * 4)).take (xs.length * 4 + ys.length * 4 - k * 4)).take (xs.length * 4 - k * 4) ++ cs.drop (k * 4 + ys.length * 4 + (xs.length * 4 - k * 4)) := ⟨_, rfl⟩
  rw [← hc1] at hl1 hfin ⊢
  refine W.cast (m' := m) (l' := hcells b c1 42 :: hownT 42 4 Leaf.enc u2 ys :: l) rfl rfl ?_
  refine W.end ?_
  refine NX.then ?_
  refine Tr.seq ?_
  refine Tr.region_f (fun i => Nat.beq i 4) ?_
  refine W.q rfl rfl rfl rfl (by decide) (Yd.mv rfl (.t rfl)) ?_
  refine W.q rfl rfl rfl rfl (by decide) (Yd.mv rfl (.t rfl)) ?_
  refine W.q rfl rfl rfl rfl (by decide) (Yd.slFC (lo := k) (by omega) hg (by omega) rfl Try.underlying22 SZ42 (.t rfl) (.t rfl)) ?_
  refine W.q rfl rfl rfl rfl (by decide) (Yd.mv rfl (.t rfl)) ?_
  refine W.e rfl rfl rfl rfl (by decide) (Ef.cpC (pos := 0) (cs' := c1.take (k * 4) ++ ys.flatMap Leaf.enc ++ c1.drop (k * 4 + ys.length * 4)) rfl (by rw [hmin]; exact hm0) (by rw [hmin, hl1]; omega) rfl Try.underlying22 SZ42 (.t rfl) (.t rfl) (Src.own (pos := 1) rfl) hyl (by rw [hmin, List.take_of_length_le (l := ys.flatMap Leaf.enc) (by rw [hyl]; exact Nat.le_refl _)]; exact hya) (by rw [hmin, Nat.zero_add, List.take_of_length_le (l := ys.flatMap Leaf.enc) (by rw [hyl]; exact Nat.le_refl _)])) ?_
  rintro _ _ ⟨rfl, rfl⟩
  refine ⟨.inl rfl, ?_⟩
  refine W.cast (m' := m) (l' := hcells b (c1.take (k * 4) ++ ys.flatMap Leaf.enc ++ c1.drop (k * 4 + ys.length * 4)) 42 :: hownT 42 4 Leaf.enc u2 ys :: l) rfl rfl ?_
  refine W.end ?_
  refine NX.then ?_
  refine Tr.seq ?_
  refine Tr.region_f (fun _ => false) ?_
  refine W.q rfl rfl rfl rfl (by decide) (Yd.mv rfl (.t rfl)) ?_
  refine W.q rfl rfl rfl rfl (by decide) (Yd.as rfl (.t rfl)) ?_
  refine W.end ?_
  refine NX.then ?_
  refine Tr.ret' (RT.then ?_)
  refine res1 rfl rfl ?_
  intro w hc
  replace hc : cX w0 ⟨m, hcells b _ 42 :: l⟩ w := cX_sub (l := hcells b _ 42 :: hownT 42 4 Leaf.enc u2 ys :: l) (.cons_cons _ (.cons _ (.refl _))) hc
  refine ⟨_, rfl, ?_⟩
  have hrl : (xs.take k ++ ys ++ xs.drop k).length = xs.length + ys.length := by rw [List.length_append, List.length_append, List.length_take, List.length_drop]; omega
  unfold hownT; rw [hrl]
  refine cX_shutO hg h4 ?_ ?_ hc
  · rw [List.length_append, List.length_append, List.length_take, List.length_drop, hl1, hyl]; omega
  · rw [← hfi] at hfin; rw [← hfin, Nat.add_mul]

def pen_put_k581 (l579 : List Leaf) : Option ((List Leaf) × Int) :=
  some ((l579, (0 : Int)))

def pen_put_b583 (at_20 : Int) (i_576 : Int) (l577 : List Leaf) (nx584 : (Int × (List Leaf)) → Option ((List Leaf) × Int)) : Option ((List Leaf) × Int) :=
  (bif (decide (i_576 < (l577.length : Int))) then
  (geti l577 i_576).bind fun y586 =>
  (bif (decide (y586.up ≥ at_20)) then
  (geti l577 i_576).bind fun y588 =>
  nx584 ((w64 (i_576 + (1 : Int))), (l577.set i_576.toNat (({ up := (w64 (y588.up + (1 : Int))), text := y588.text, label := ({ level := y588.label.level, parts := y588.label.parts } : Label) } : Leaf))))
  else
  nx584 ((w64 (i_576 + (1 : Int))), l577))
  else
  pen_put_k581 l577)

def pen_put_k21 (l_0 : List Leaf) (s_1 : Stroke) (fuel : Nat) (r5 : Int × Bool) (at_20 : Int) : Option ((List Leaf) × Int) :=
  (slices_Clone_SapiLeafapiLeaf l_0).bind fun r113 =>
  (slices_Insert_SapiLeafapiLeaf r113 at_20 (([({ up := r5.1, text := s_1.text, label := ({ level := s_1.who.level, parts := s_1.who.parts } : Label) } : Leaf)] : List Leaf))).bind fun r473 =>
  whileK (σ := Int × (List Leaf)) (fun s nx_ => pen_put_b583 at_20 s.1 s.2 nx_) fuel (((w64 (at_20 + (1 : Int)))), r473)

def pen_put_k18 (l_0 : List Leaf) (s_1 : Stroke) (fuel : Nat) (r5 : Int × Bool) (y7 : Int) (r9 : (List Int)) (own_17 : Int) : Option ((List Leaf) × Int) :=
  (bif ((decide (own_17 ≥ (4 : Int))) || (decide ((l_0.length : Int) ≥ (40 : Int)))) then
  some (([], (1 : Int)))
  else
  (bif (decide (y7 > (0 : Int))) then
  (geti r9 ((w64 (y7 - (1 : Int))))).bind fun y573 =>
  pen_put_k21 l_0 s_1 fuel r5 ((w64 (y573 + (1 : Int))))
  else
  pen_put_k21 l_0 s_1 fuel r5 ((w64 (r5.1 + (1 : Int))))))

def pen_put_b577 (l_0 : List Leaf) (s_1 : Stroke) (t_576 : Int) (own_15 : Int) (nx578 : Int → Option ((List Leaf) × Int)) : Option ((List Leaf) × Int) :=
  (geti l_0 t_576).bind fun y580 =>
  (bif ((y580.label.level == s_1.who.level) && ((y580.label.parts == s_1.who.parts) && true)) then
  nx578 (w64 (own_15 + (1 : Int)))
  else
  nx578 own_15)

def pen_put (fuel : Nat) (l_0 : List Leaf) (s_1 : Stroke) : Option ((List Leaf) × Int) :=
  (bif ((s_1.path.length : Int) == (0 : Int)) then
  some (([], (5 : Int)))
  else
  bif decide (0 ≤ (w64 ((s_1.path.length : Int) - (1 : Int))) ∧ (w64 ((s_1.path.length : Int) - (1 : Int))) ≤ (s_1.path.length : Int)) then
  (place_Go l_0 (({ level := s_1.who.level, parts := s_1.who.parts } : Label)) ((s_1.path.take ((w64 ((s_1.path.length : Int) - (1 : Int)))).toNat))).bind fun r5 =>
  (bif (!r5.2) then
  some (([], (5 : Int)))
  else
  (geti s_1.path ((w64 ((s_1.path.length : Int) - (1 : Int))))).bind fun y7 =>
  (place_Below l_0 (({ level := s_1.who.level, parts := s_1.who.parts } : Label)) r5.1).bind fun r9 =>
  (bif ((decide (y7 < (0 : Int))) || (decide (y7 > (r9.length : Int)))) then
  some (([], (5 : Int)))
  else
  forK (σ := Int) (fun i s nx_ => pen_put_b577 l_0 s_1 i s nx_) (fun s => pen_put_k18 l_0 s_1 fuel r5 y7 r9 s) ((l_0.length : Int) - (0 : Int)).toNat (0 : Int) ((0 : Int)))) else none)

set_option maxRecDepth 100000 in
set_option maxHeartbeats 4000000 in
theorem pen_put_ok (w0 : World) (m : Snap) (l : List HI) (fuel : Nat) (ul_0 : Value) (l_0 : List Leaf) (hl_0 : RS rLeaf m ul_0 l_0) (s_1 : Stroke) (us_1_2 : Value) (hs_1_2 : RS rI m us_1_2 s_1.path) (r : (List Leaf) × Int) (hr : pen_put fuel l_0 s_1 = some r) (w : World) (hc : cX w0 ⟨m, l⟩ w) :
    Calls Try.prog 42 [ul_0, .agg #[.int .i64 s_1.kind, .int .i64 s_1.who.level, .int .u32 (s_1.who.parts.toNat : Int), us_1_2, .int .i64 s_1.text]].toArray w fun e w' => ∃ z0 : Value, e = .returned (.tuple #[z0, .int .i64 r.2]) ∧ cX w0 ⟨m, hownT 42 4 Leaf.enc z0 r.1 :: l⟩ w' := by
  unfold pen_put at hr
  refine calls_of_Tr (N := 122) Try.func42 rfl hc rfl (Nat.le_of_ble_eq_true rfl) ?_
  refine Tr.seq ?_
  refine Tr.region_f (fun i => Nat.beq i 0) ?_
  refine W.e rfl rfl rfl rfl (by decide) (Ef.bx rfl (.t rfl) rfl) ?_
  rintro _ _ ⟨b1, rfl, rfl⟩
  refine ⟨.inl rfl, ?_⟩
  refine W.cast (m' := m) (l' := hcells b1 [_, _, _, _, _] 47 :: l) rfl rfl ?_
  refine W.q rfl rfl rfl rfl (by decide) (Yd.as rfl .c) ?_
  refine W.q rfl rfl rfl rfl (by decide) (Yd.as rfl .c) ?_
  refine W.end ?_
  refine NX.sub (env' := [(0, _), (3, _)]) ⟨rfl, rfl, trivial⟩ ?_
  refine NX.then ?_
  refine Tr.seq ?_
  refine Tr.seq ?_
  refine Tr.region_f (fun _ => false) ?_
  refine W.q rfl rfl rfl rfl (by decide) (Yd.fldB rfl Try.underlying47 rfl SZ33 rfl (.t rfl)) ?_
  refine W.q rfl rfl rfl rfl (by decide) (Yd.ldB (pos := 0) rfl rfl rfl ON33 (.t rfl)) ?_
  refine W.q rfl rfl rfl rfl (by decide) (Yd.lenR hs_1_2 rfl Try.underlying33 (.t rfl)) ?_
  refine W.q rfl rfl rfl rfl (by decide) (Yd.eql rfl (.t rfl) .c) ?_
  refine W.end ?_
  refine NX.sub (env' := [(0, _), (3, _), (20, _)]) ⟨rfl, rfl, rfl, trivial⟩ ?_
  refine NX.then ?_
  refine Tr.cond (.t rfl) (fun hb => ?_) (fun hb => ?_)
  · have hr := cond_t hb hr
    refine Tr.seq ?_
    refine Tr.region_f (fun _ => false) ?_
    refine W.q rfl rfl rfl rfl (by decide) (Yd.as rfl .c) ?_
    refine W.q rfl rfl rfl rfl (by decide) (Yd.as rfl .c) ?_
    refine W.end ?_
    refine NX.sub (env' := [(4, _), (5, _)]) ⟨rfl, rfl, trivial⟩ ?_
    refine NX.drop (l' := l) (.cons _ (.refl _)) ?_
    refine NX.then ?_
    refine Tr.ret' (RT.then ?_)
    refine res2 rfl rfl rfl ?_
    intro w hc
    cases hr
    exact ⟨_, rfl, (cX_nil hc)⟩
  · have hr := cond_f hb hr
    refine Tr.skip' ?_
    refine NX.then ?_
    refine Tr.seq ?_
    refine Tr.region_f (fun _ => false) ?_
    refine W.q rfl rfl rfl rfl (by decide) (Yd.fldB rfl Try.underlying47 rfl SZ33 rfl (.t rfl)) ?_
    refine W.q rfl rfl rfl rfl (by decide) (Yd.ldB (pos := 0) rfl rfl rfl ON33 (.t rfl)) ?_
    refine W.q rfl rfl rfl rfl (by decide) (Yd.lenR hs_1_2 rfl Try.underlying33 (.t rfl)) ?_
    refine W.q rfl rfl rfl rfl (by decide) (Yd.sub rfl (.t rfl) .c) ?_
    refine W.q rfl rfl rfl rfl (by decide) (Yd.as rfl (.t rfl)) ?_
    refine W.end ?_
    refine NX.sub (env' := [(0, _), (3, _), (6, _)]) ⟨rfl, rfl, rfl, trivial⟩ ?_
    refine NX.then ?_
    refine Tr.seq ?_
    obtain ⟨hq3, hr⟩ := guard_some hr; replace hq3 := of_decide_eq_true hq3
    obtain ⟨r5, hr6, hr⟩ := bind_some hr
    refine Tr.region_x (fun _ => false) (fun _ => false) (Ord.of [0, 1, 2, 3, 4, 5, 6, 7, 8, 9, 10, 11, 12]) FM (by kernel_rfl) ?_
    refine W.q rfl rfl rfl rfl (by decide) (Yd.mv rfl (.t rfl)) ?_
    refine W.q rfl rfl rfl rfl (by decide) (Yd.fldB rfl Try.underlying47 rfl SZ25 rfl (.t rfl)) ?_
    refine W.q rfl rfl rfl rfl (by decide) (Yd.ldBs (pos := 0) (us := [_, _]) rfl rfl rfl rfl ON25 US25 SZ25 (.t rfl)) ?_
    refine W.q rfl rfl rfl rfl (by decide) (Yd.fldB rfl Try.underlying47 rfl SZ33 rfl (.t rfl)) ?_
    refine W.q rfl rfl rfl rfl (by decide) (Yd.ldB (pos := 0) rfl rfl rfl ON33 (.t rfl)) ?_
    refine W.q rfl rfl rfl rfl (by decide) (Yd.mv rfl (.t rfl)) ?_
    have hu4 := RS.to (k := ((w64 ((s_1.path.length : Int) - (1 : Int)))).toNat) hs_1_2 (by omega)
    refine W.q rfl rfl rfl rfl (by decide) (Yd.slToR hs_1_2 rfl Try.underlying33 (Option.some_get IN3).symm (.t rfl) (.t rfl) hq3.1 hq3.2) ?_
    refine W.q rfl rfl rfl rfl (by decide) (Yd.call (v := .tuple #[.int .i64 r5.1, .bool r5.2]) rfl Try.func37 rfl rfl (.cons (.t rfl) (.cons (.t rfl) (.cons (.t rfl) .nil))) (fun x' hx w hw => place_Go_ok w0 x'.m x'.l _ _ (hl_0.mono hx.1) (({ level := s_1.who.level, parts := s_1.who.parts } : Label)) _ _ (hu4.mono hx.1) _ hr6 w hw)) ?_
    refine W.q rfl rfl rfl rfl (by decide) (Yd.mv rfl (.t rfl)) ?_
    refine W.q rfl rfl rfl rfl (by decide) (Yd.ext rfl (.t rfl) rfl) ?_
    refine W.q rfl rfl rfl rfl (by decide) (Yd.ext rfl (.t rfl) rfl) ?_
    refine W.q rfl rfl rfl rfl (by decide) (Yd.as rfl (.t rfl)) ?_
    refine W.q rfl rfl rfl rfl (by decide) (Yd.as rfl (.t rfl)) ?_
    refine W.end ?_
    refine NX.sub (env' := [(0, _), (3, _), (6, _), (7, _), (8, _)]) ⟨rfl, rfl, rfl, rfl, rfl, trivial⟩ ?_
    refine NX.then ?_
    refine Tr.seq ?_
    refine Tr.seq ?_
    refine Tr.region_f (fun _ => false) ?_
    refine W.q rfl rfl rfl rfl (by decide) (Yd.mv rfl (.t rfl)) ?_
    refine W.q rfl rfl rfl rfl (by decide) (Yd.not rfl (.t rfl)) ?_
    refine W.end ?_
    refine NX.sub (env' := [(0, _), (3, _), (6, _), (7, _), (37, _)]) ⟨rfl, rfl, rfl, rfl, rfl, trivial⟩ ?_
    refine NX.then ?_
    refine Tr.cond (.t rfl) (fun hb => ?_) (fun hb => ?_)
    · have hr := cond_t hb hr
      refine Tr.seq ?_
      refine Tr.region_f (fun _ => false) ?_
      refine W.q rfl rfl rfl rfl (by decide) (Yd.as rfl .c) ?_
      refine W.q rfl rfl rfl rfl (by decide) (Yd.as rfl .c) ?_
      refine W.end ?_
      refine NX.sub (env' := [(4, _), (5, _)]) ⟨rfl, rfl, trivial⟩ ?_
      refine NX.drop (l' := l) (.cons _ (.refl _)) ?_
      refine NX.then ?_
      refine Tr.ret' (RT.then ?_)
      refine res2 rfl rfl rfl ?_
      intro w hc
      cases hr
      exact ⟨_, rfl, (cX_nil hc)⟩
    · have hr := cond_f hb hr
      refine Tr.skip' ?_
      refine NX.then ?_
      refine Tr.seq ?_
      obtain ⟨y7, hy8, hr⟩ := bind_some hr
      obtain ⟨r9, hr10, hr⟩ := bind_some hr
      refine Tr.region_x (fun i => Nat.beq i 4) (fun _ => false) (Ord.of [0, 1, 2, 3, 5, 6, 7, 8, 9, 4, 10, 11]) FM (by kernel_rfl) ?_
      refine W.q rfl rfl rfl rfl (by decide) (Yd.mv rfl (.t rfl)) ?_
      refine W.q rfl rfl rfl rfl (by decide) (Yd.fldB rfl Try.underlying47 rfl SZ25 rfl (.t rfl)) ?_
      refine W.q rfl rfl rfl rfl (by decide) (Yd.ldBs (pos := 0) (us := [_, _]) rfl rfl rfl rfl ON25 US25 SZ25 (.t rfl)) ?_
      refine W.q rfl rfl rfl rfl (by decide) (Yd.mv rfl (.t rfl)) ?_
      refine W.q rfl rfl rfl rfl (by decide) (Yd.fldB rfl Try.underlying47 rfl SZ33 rfl (.t rfl)) ?_
      refine W.q rfl rfl rfl rfl (by decide) (Yd.ldB (pos := 0) rfl rfl rfl ON33 (.t rfl)) ?_
      refine W.q rfl rfl rfl rfl (by decide) (Yd.mv rfl (.t rfl)) ?_
      refine W.q rfl rfl rfl rfl (by decide) (Yd.idxR hs_1_2 hy8 rfl Try.underlying33 SZ3 (.t rfl) (.t rfl)) ?_
      refine W.q rfl rfl rfl rfl (by decide) (Yd.ldF hs_1_2 (.refl _) hy8 rfl rfl ON3 (.t rfl)) ?_
      refine W.e rfl rfl rfl rfl (by decide) (Ef.call (R := fun z x' => ∃ v11 : Value, z = v11 ∧ x' = ⟨m, hownT 3 1 encI v11 r9 :: hcells b1 [.int .i64 s_1.kind, .int .i64 s_1.who.level, .int .u32 (s_1.who.parts.toNat : Int), us_1_2, .int .i64 s_1.text] 47 :: l⟩) rfl Try.func39 rfl rfl (.cons (.t rfl) (.cons (.t rfl) (.cons (.t rfl) .nil))) (fun w hw => (place_Below_ok w0 _ _ _ _ hl_0 (({ level := s_1.who.level, parts := s_1.who.parts } : Label)) r5.1 _ hr10 w hw).mono fun e w' ⟨v11, he, hc'⟩ => ⟨_, _, he, ⟨v11, rfl, rfl⟩, hc'⟩)) ?_
      rintro v11 _ ⟨_, rfl, rfl⟩
      refine ⟨.inr ⟨.refl _, [_], rfl⟩, ?_⟩
      refine W.cast (m' := m) (l' := hownT 3 1 encI v11 _ :: hcells b1 [_, _, _, _, _] 47 :: l) rfl rfl ?_
      refine W.q rfl rfl rfl rfl (by decide) (Yd.as rfl (.t rfl)) ?_
      refine W.q rfl rfl rfl rfl (by decide) (Yd.as rfl (.t rfl)) ?_
      refine W.end ?_
      refine NX.sub (env' := [(0, _), (3, _), (7, _), (9, _), (10, _)]) ⟨rfl, rfl, rfl, rfl, rfl, trivial⟩ ?_
      refine NX.then ?_
      refine Tr.seq ?_
      refine Tr.seq ?_
      refine Tr.region_f (fun _ => false) ?_
      refine W.q rfl rfl rfl rfl (by decide) (Yd.mv rfl (.t rfl)) ?_
      refine W.q rfl rfl rfl rfl (by decide) (Yd.lss rfl (.t rfl) .c) ?_
      refine W.q rfl rfl rfl rfl (by decide) (Yd.mv rfl (.t rfl)) ?_
      refine W.g rfl rfl rfl rfl rfl (.t rfl _) rfl (by decide) (fun hG => Yd.mv rfl (.t rfl)) ?_
      refine W.g rfl rfl rfl rfl rfl (.t rfl _) rfl (by decide) (fun hG => Yd.mv rfl (.t rfl)) ?_
      refine W.g rfl rfl rfl rfl rfl (.t rfl _) rfl (by decide) (fun hG => Yd.lenO (p := 0) rfl rfl Try.underlying33 (.g rfl hG)) ?_
      refine W.g rfl rfl rfl rfl rfl (.t rfl _) rfl (by decide) (fun hG => Yd.gtr rfl (.g rfl hG) (.g rfl hG)) ?_
      refine W.q rfl rfl rfl rfl (by decide) (Yd.or rfl (.t rfl) .c rfl rfl) ?_
      refine W.end ?_
      refine NX.sub (env' := [(0, _), (3, _), (7, _), (9, _), (10, _), (55, _)]) ⟨rfl, rfl, rfl, rfl, rfl, rfl, trivial⟩ ?_
      refine NX.then ?_
      refine Tr.cond (.t rfl) (fun hb => ?_) (fun hb => ?_)
      · have hr := cond_t hb hr
        refine Tr.seq ?_
        refine Tr.region_f (fun _ => false) ?_
        refine W.q rfl rfl rfl rfl (by decide) (Yd.as rfl .c) ?_
        refine W.q rfl rfl rfl rfl (by decide) (Yd.as rfl .c) ?_
        refine W.end ?_
        refine NX.sub (env' := [(4, _), (5, _)]) ⟨rfl, rfl, trivial⟩ ?_
        refine NX.drop (l' := l) (.cons _ (.cons _ (.refl _))) ?_
        refine NX.then ?_
        refine Tr.ret' (RT.then ?_)
        refine res2 rfl rfl rfl ?_
        intro w hc
        cases hr
        exact ⟨_, rfl, (cX_nil hc)⟩
      · have hr := cond_f hb hr
        refine Tr.skip' ?_
        refine NX.then ?_
        refine Tr.seq ?_
        refine Tr.region_f (fun _ => false) ?_
        refine W.q rfl rfl rfl rfl (by decide) (Yd.as rfl .c) ?_
        refine W.end ?_
        refine NX.sub (env' := [(0, _), (3, _), (7, _), (9, _), (10, _), (11, _)]) ⟨rfl, rfl, rfl, rfl, rfl, rfl, trivial⟩ ?_
        refine NX.then ?_
        refine Tr.seq ?_
        refine Tr.seq ?_
        refine Tr.region_f (fun _ => false) ?_
        refine W.q rfl rfl rfl rfl (by decide) (Yd.mv rfl (.t rfl)) ?_
        refine W.q rfl rfl rfl rfl (by decide) (Yd.lenR hl_0 rfl Try.underlying22 (.t rfl)) ?_
        refine W.q rfl rfl rfl rfl (by decide) (Yd.mv rfl .c) ?_
        refine W.end ?_
        refine NX.sub (env' := [(0, _), (3, _), (7, _), (9, _), (10, _), (11, _), (56, _), (57, _), (58, _)]) ⟨rfl, rfl, rfl, rfl, rfl, rfl, rfl, rfl, rfl, trivial⟩ ?_
        refine NX.then ?_
        refine Tr.join (S := fun env x => ∃ own_17 : Int, env = [(0, ul_0), (3, bp b1 0), (7, .int .i64 r5.1), (9, v11), (10, .int .i64 y7), (11, .int .i64 own_17)] ∧ x = ⟨m, hownT 3 1 encI v11 r9 :: hcells b1 [.int .i64 s_1.kind, .int .i64 s_1.who.level, .int .u32 (s_1.who.parts.toNat : Int), us_1_2, .int .i64 s_1.text] 47 :: l⟩ ∧ pen_put_k18 l_0 s_1 fuel r5 y7 r9 own_17 = some r) ?_ (fun hk19 => ?_)
        · rintro _ _ ⟨own_17, rfl, rfl, hr⟩
          unfold pen_put_k18 at hr
          try dsimp only at hr
          refine NX.then ?_
          refine Tr.seq ?_
          refine Tr.seq ?_
          refine Tr.region_f (fun _ => false) ?_
          refine W.q rfl rfl rfl rfl (by decide) (Yd.mv rfl (.t rfl)) ?_
          refine W.q rfl rfl rfl rfl (by decide) (Yd.geq rfl (.t rfl) .c) ?_
          refine W.q rfl rfl rfl rfl (by decide) (Yd.mv rfl (.t rfl)) ?_
          refine W.g rfl rfl rfl rfl rfl (.t rfl _) rfl (by decide) (fun hG => Yd.mv rfl (.t rfl)) ?_
          refine W.g rfl rfl rfl rfl rfl (.t rfl _) rfl (by decide) (fun hG => Yd.lenR hl_0 rfl Try.underlying22 (.g rfl hG)) ?_
          refine W.g rfl rfl rfl rfl rfl (.t rfl _) rfl (by decide) (fun hG => Yd.geq rfl (.g rfl hG) .c) ?_
          refine W.q rfl rfl rfl rfl (by decide) (Yd.or rfl (.t rfl) .c rfl rfl) ?_
          refine W.end ?_
          refine NX.sub (env' := [(0, _), (3, _), (7, _), (9, _), (10, _), (76, _)]) ⟨rfl, rfl, rfl, rfl, rfl, rfl, trivial⟩ ?_
          refine NX.then ?_
          refine Tr.cond (.t rfl) (fun hb => ?_) (fun hb => ?_)
          · have hr := cond_t hb hr
            refine Tr.seq ?_
            refine Tr.region_f (fun _ => false) ?_
            refine W.q rfl rfl rfl rfl (by decide) (Yd.as rfl .c) ?_
            refine W.q rfl rfl rfl rfl (by decide) (Yd.as rfl .c) ?_
            refine W.end ?_
            refine NX.sub (env' := [(4, _), (5, _)]) ⟨rfl, rfl, trivial⟩ ?_
            refine NX.drop (l' := l) (.cons _ (.cons _ (.refl _))) ?_
            refine NX.then ?_
            refine Tr.ret' (RT.then ?_)
            refine res2 rfl rfl rfl ?_
            intro w hc
            cases hr
            exact ⟨_, rfl, (cX_nil hc)⟩
          · have hr := cond_f hb hr
            refine Tr.skip' ?_
            refine NX.then ?_
            refine Tr.seq ?_
            refine Tr.region_f (fun _ => false) ?_
            refine W.q rfl rfl rfl rfl (by decide) (Yd.mv rfl (.t rfl)) ?_
            refine W.q rfl rfl rfl rfl (by decide) (Yd.add rfl (.t rfl) .c) ?_
            refine W.q rfl rfl rfl rfl (by decide) (Yd.as rfl (.t rfl)) ?_
            refine W.end ?_
            refine NX.sub (env' := [(0, _), (3, _), (7, _), (9, _), (10, _), (14, _)]) ⟨rfl, rfl, rfl, rfl, rfl, rfl, trivial⟩ ?_
            refine NX.then ?_
            refine Tr.seq ?_
            refine Tr.seq ?_
            refine Tr.region_f (fun _ => false) ?_
            refine W.q rfl rfl rfl rfl (by decide) (Yd.mv rfl (.t rfl)) ?_
            refine W.q rfl rfl rfl rfl (by decide) (Yd.gtr rfl (.t rfl) .c) ?_
            refine W.end ?_
            refine NX.sub (env' := [(0, _), (3, _), (7, _), (9, _), (10, _), (14, _), (80, _)]) ⟨rfl, rfl, rfl, rfl, rfl, rfl, rfl, trivial⟩ ?_
            refine NX.then ?_
            refine Tr.join (S := fun env x => ∃ at_20 : Int, env = [(0, ul_0), (3, bp b1 0), (7, .int .i64 r5.1), (14, .int .i64 at_20)] ∧ x = ⟨m, hcells b1 [.int .i64 s_1.kind, .int .i64 s_1.who.level, .int .u32 (s_1.who.parts.toNat : Int), us_1_2, .int .i64 s_1.text] 47 :: l⟩ ∧ pen_put_k21 l_0 s_1 fuel r5 at_20 = some r) ?_ (fun hk22 => ?_)
            · rintro _ _ ⟨at_20, rfl, rfl, hr⟩
              unfold pen_put_k21 at hr
              try dsimp only at hr
              refine NX.then ?_
              refine Tr.seq ?_
              refine Tr.join (S := fun env x => ∃ r473 : List Leaf, ∃ v473 : Value, env = [(14, .int .i64 at_20), (15, v473)] ∧ x = ⟨m, hownT 42 4 Leaf.enc v473 r473 :: l⟩ ∧ (whileK (σ := Int × (List Leaf)) (fun s nx_ => pen_put_b583 at_20 s.1 s.2 nx_) fuel (((w64 (at_20 + (1 : Int)))), r473)) = some r) ?_ (fun hk513 => ?_)
              · rintro _ _ ⟨r473, v473, rfl, rfl, hr⟩
                refine NX.then ?_
                refine Tr.seq ?_
                refine Tr.seq ?_
                refine Tr.region_f (fun _ => false) ?_
                refine W.q rfl rfl rfl rfl (by decide) (Yd.mv rfl (.t rfl)) ?_
                refine W.q rfl rfl rfl rfl (by decide) (Yd.add rfl (.t rfl) .c) ?_
                refine W.q rfl rfl rfl rfl (by decide) (Yd.as rfl (.t rfl)) ?_
                refine W.end ?_
                refine NX.sub (env' := [(14, _), (15, _), (16, _)]) ⟨rfl, rfl, rfl, trivial⟩ ?_
                refine NX.then ?_
                refine Tr.join (S := fun env x => ∃ l579 : List Leaf, ∃ v580 : Value, env = [(15, v580)] ∧ x = ⟨m, hownT 42 4 Leaf.enc v580 l579 :: l⟩ ∧ pen_put_k581 l579 = some r) ?_ (fun hk582 => ?_)
                · rintro _ _ ⟨l579, v580, rfl, rfl, hr⟩
                  unfold pen_put_k581 at hr
                  try dsimp only at hr
                  refine NX.then ?_
                  refine Tr.seq ?_
                  refine Tr.region_f (fun _ => false) ?_
                  refine W.q rfl rfl rfl rfl (by decide) (Yd.mv rfl (.t rfl)) ?_
                  refine W.q rfl rfl rfl rfl (by decide) (Yd.as rfl (.t rfl)) ?_
                  refine W.q rfl rfl rfl rfl (by decide) (Yd.as rfl .c) ?_
                  refine W.end ?_
                  refine NX.sub (env' := [(4, _), (5, _)]) ⟨rfl, rfl, trivial⟩ ?_
                  refine NX.then ?_
                  refine Tr.ret' ?_
                  refine res2 rfl rfl rfl ?_
                  intro w hc
                  cases hr
                  exact ⟨_, rfl, hc⟩
                refine Tr.block ?_
                refine Tr.sub (env' := [(14, _), (15, _), (16, _)]) ⟨rfl, rfl, rfl, trivial⟩ ?_
                refine Tr.loop (S := fun n (z : Int × (List Leaf)) env x => match z with | (i_576, l577) => ∃ v578 : Value, env = [(14, .int .i64 at_20), (15, v578), (16, .int .i64 i_576)] ∧ x = ⟨m, hownT 42 4 Leaf.enc v578 l577 :: l⟩ ∧ whileK (σ := Int × (List Leaf)) (fun s nx_ => pen_put_b583 at_20 s.1 s.2 nx_) n (i_576, l577) = some r) _ ((w64 (at_20 + (1 : Int))), r473) ⟨_, rfl, rfl, hr⟩ ?_
                rintro n585 ⟨i_576, l577⟩ env x ⟨v578, rfl, rfl, hr⟩
                cases n585 with
                | zero => simp [whileK] at hr
                | succ n585 =>
                  obtain ⟨nx584, hnx584, hr⟩ := whileK_succ hr
                  try dsimp only at hr
                  unfold pen_put_b583 at hr
                  try dsimp only at hr
                  refine Tr.seq ?_
                  refine Tr.seq ?_
                  refine Tr.region_f (fun _ => false) ?_
                  refine W.q rfl rfl rfl rfl (by decide) (Yd.mv rfl (.t rfl)) ?_
                  refine W.q rfl rfl rfl rfl (by decide) (Yd.mv rfl (.t rfl)) ?_
                  refine W.q rfl rfl rfl rfl (by decide) (Yd.lenO (p := 0) rfl rfl Try.underlying22 (.t rfl)) ?_
                  refine W.q rfl rfl rfl rfl (by decide) (Yd.lss rfl (.t rfl) (.t rfl)) ?_
                  refine W.end ?_
                  refine NX.sub (env' := [(14, _), (15, _), (16, _), (103, _)]) ⟨rfl, rfl, rfl, rfl, trivial⟩ ?_
                  refine NX.then ?_
                  refine Tr.cond (.t rfl) (fun hb => ?_) (fun hb => ?_)
                  · have hr := cond_t hb hr
                    refine Tr.skip' ?_
                    refine NX.then ?_
                    refine Tr.seq ?_
                    refine Tr.block ?_
                    refine Tr.seq ?_
                    obtain ⟨y586, hy587, hr⟩ := bind_some hr
                    refine Tr.region_f (fun _ => false) ?_
                    refine W.q rfl rfl rfl rfl (by decide) (Yd.mv rfl (.t rfl)) ?_
                    refine W.q rfl rfl rfl rfl (by decide) (Yd.mv rfl (.t rfl)) ?_
                    refine W.q rfl rfl rfl rfl (by decide) (Yd.idxT (pos := 0) rfl hy587 rfl Try.underlying22 SZ42 (.t rfl) (.t rfl)) ?_
                    refine W.q rfl rfl rfl rfl (by decide) (Yd.fldT (pos := 0) rfl hy587 rfl Try.underlying42 rfl SZ3 rfl (.t rfl)) ?_
                    refine W.q rfl rfl rfl rfl (by decide) (Yd.ldTf (enc := Leaf.enc) (n := 4) (pos := 0) (fun _ => rfl) rfl hy587 rfl rfl ON3 (.t rfl)) ?_
                    refine W.q rfl rfl rfl rfl (by decide) (Yd.mv rfl (.t rfl)) ?_
                    refine W.q rfl rfl rfl rfl (by decide) (Yd.geq rfl (.t rfl) (.t rfl)) ?_
                    refine W.end ?_
                    refine NX.sub (env' := [(14, _), (15, _), (16, _), (112, _)]) ⟨rfl, rfl, rfl, rfl, trivial⟩ ?_
                    refine NX.then ?_
                    refine Tr.cond (.t rfl) (fun hb => ?_) (fun hb => ?_)
                    · have hr := cond_t hb hr
                      obtain ⟨y588, hy589, hr⟩ := bind_some hr
                      refine Tr.region_f (fun i => Nat.beq i 8) ?_
                      refine W.q rfl rfl rfl rfl (by decide) (Yd.mv rfl (.t rfl)) ?_
                      refine W.q rfl rfl rfl rfl (by decide) (Yd.mv rfl (.t rfl)) ?_
                      refine W.q rfl rfl rfl rfl (by decide) (Yd.idxT (pos := 0) rfl hy589 rfl Try.underlying22 SZ42 (.t rfl) (.t rfl)) ?_
                      refine W.q rfl rfl rfl rfl (by decide) (Yd.fldT (pos := 0) rfl hy589 rfl Try.underlying42 rfl SZ3 rfl (.t rfl)) ?_
                      refine W.q rfl rfl rfl rfl (by decide) (Yd.ldTf (enc := Leaf.enc) (n := 4) (pos := 0) (fun _ => rfl) rfl hy589 rfl rfl ON3 (.t rfl)) ?_
                      refine W.q rfl rfl rfl rfl (by decide) (Yd.add rfl (.t rfl) .c) ?_
                      refine W.q rfl rfl rfl rfl (by decide) (Yd.idxT (pos := 0) rfl hy589 rfl Try.underlying22 SZ42 (.t rfl) (.t rfl)) ?_
                      refine W.q rfl rfl rfl rfl (by decide) (Yd.fldT (pos := 0) rfl hy589 rfl Try.underlying42 rfl SZ3 rfl (.t rfl)) ?_
                      refine W.s rfl rfl rfl rfl (Ef.stTf (enc := Leaf.enc) (n := 4) (pos := 0) (y := ({ up := (w64 (y588.up + (1 : Int))), text := y588.text, label := ({ level := y588.label.level, parts := y588.label.parts } : Label) } : Leaf)) (us := [_]) (fun _ => rfl) rfl hy589 rfl (.t rfl) (.t rfl) SZ3 rfl rfl rfl rfl (by decide) (Nat.le_of_ble_eq_true rfl)) ?_
                      rintro _ _ ⟨rfl, rfl⟩
                      refine ⟨.inl rfl, ?_⟩
                      refine W.cast (m' := m) (l' := hownT 42 4 Leaf.enc v578 _ :: l) rfl rfl ?_
                      refine W.end ?_
                      refine NX.sub (env' := [(14, _), (15, _), (16, _)]) ⟨rfl, rfl, rfl, trivial⟩ ?_
                      refine NX.block ?_
                      refine NX.then ?_
                      refine Tr.region_f (fun _ => false) ?_
                      refine W.q rfl rfl rfl rfl (by decide) (Yd.mv rfl (.t rfl)) ?_
                      refine W.q rfl rfl rfl rfl (by decide) (Yd.add rfl (.t rfl) .c) ?_
                      refine W.q rfl rfl rfl rfl (by decide) (Yd.as rfl (.t rfl)) ?_
                      refine W.end ?_
                      refine NX.sub (env' := [(14, _), (15, _), (16, _)]) ⟨rfl, rfl, rfl, trivial⟩ ?_
                      refine NX.sub (env' := [(14, _), (15, _), (16, _)]) ⟨rfl, rfl, rfl, trivial⟩ ?_
                      exact NX.again n585 ((w64 (i_576 + (1 : Int))), (l577.set i_576.toNat (({ up := (w64 (y588.up + (1 : Int))), text := y588.text, label := ({ level := y588.label.level, parts := y588.label.parts } : Label) } : Leaf)))) (Nat.lt_succ_self _) ⟨_, rfl, rfl, ((hnx584 _).symm.trans hr)⟩
                    · have hr := cond_f hb hr
                      refine Tr.skip' ?_
                      refine NX.block ?_
                      refine NX.then ?_
                      refine Tr.region_f (fun _ => false) ?_
                      refine W.q rfl rfl rfl rfl (by decide) (Yd.mv rfl (.t rfl)) ?_
                      refine W.q rfl rfl rfl rfl (by decide) (Yd.add rfl (.t rfl) .c) ?_
                      refine W.q rfl rfl rfl rfl (by decide) (Yd.as rfl (.t rfl)) ?_
                      refine W.end ?_
                      refine NX.sub (env' := [(14, _), (15, _), (16, _)]) ⟨rfl, rfl, rfl, trivial⟩ ?_
                      refine NX.sub (env' := [(14, _), (15, _), (16, _)]) ⟨rfl, rfl, rfl, trivial⟩ ?_
                      exact NX.again n585 ((w64 (i_576 + (1 : Int))), l577) (Nat.lt_succ_self _) ⟨_, rfl, rfl, ((hnx584 _).symm.trans hr)⟩
                  · have hr := cond_f hb hr
                    refine Tr.exit' (EX.then (EX.then (EX.block ?_)))
                    refine NX.sub (env' := [(15, _)]) ⟨rfl, trivial⟩ ?_
                    exact hk582 _ _ ⟨_, _, rfl, rfl, hr⟩
              obtain ⟨r113, hr114, hr⟩ := bind_some hr
              obtain ⟨r473, hr474, hr⟩ := bind_some hr
              refine Tr.region_x (fun i => Nat.beq i 1 || Nat.beq i 9 || Nat.beq i 10) (fun i => Nat.beq i 10) (.one 0 (.one 2 (.one 3 (.one 4 (.one 5 (.one 6 (.one 7 (.one 8 (.two 1 9 (Ord.of [9, 10, 11]) (Ord.of [1, 10, 11])))))))))) FM (by kernel_rfl) ?_
              refine W.q rfl rfl rfl rfl (by decide) (Yd.mv rfl (.t rfl)) ?_
              refine W.q rfl rfl rfl rfl (by decide) (Yd.mv rfl (.t rfl)) ?_
              refine W.q rfl rfl rfl rfl (by decide) (Yd.mv rfl (.t rfl)) ?_
              refine W.q rfl rfl rfl rfl (by decide) (Yd.fldB rfl Try.underlying47 rfl SZ3 rfl (.t rfl)) ?_
              refine W.q rfl rfl rfl rfl (by decide) (Yd.ldB (pos := 0) rfl rfl rfl ON3 (.t rfl)) ?_
              refine W.q rfl rfl rfl rfl (by decide) (Yd.fldB rfl Try.underlying47 rfl SZ25 rfl (.t rfl)) ?_
              refine W.q rfl rfl rfl rfl (by decide) (Yd.ldBs (pos := 0) (us := [_, _]) rfl rfl rfl rfl ON25 US25 SZ25 (.t rfl)) ?_
              refine W.q rfl rfl rfl rfl (by decide) (Yd.bld (cells := [.int .i64 r5.1, .int .i64 s_1.text, .int .i64 s_1.who.level, .int .u32 (s_1.who.parts.toNat : Int)]) rfl ZI42 PL42 (.cons (.t rfl) (.cons (.t rfl) (.cons (.t rfl) .nil))) rfl) ?_
              refine W.two ?_ ?_
              ·
                refine W.e rfl rfl rfl rfl (by decide) (Ef.call (R := fun z x' => ∃ v113 : Value, z = v113 ∧ x' = ⟨m, hownT 42 4 Leaf.enc v113 r113 :: hcells b1 [.int .i64 s_1.kind, .int .i64 s_1.who.level, .int .u32 (s_1.who.parts.toNat : Int), us_1_2, .int .i64 s_1.text] 47 :: l⟩) rfl Try.func44 rfl rfl (.cons (.t rfl) .nil) (fun w hw => (slices_Clone_SapiLeafapiLeaf_ok w0 _ _ _ _ hl_0 _ hr114 w hw).mono fun e w' ⟨v113, he, hc'⟩ => ⟨_, _, he, ⟨v113, rfl, rfl⟩, hc'⟩)) ?_
                rintro v113 _ ⟨_, rfl, rfl⟩
                refine ⟨.inr ⟨.refl _, [_], rfl⟩, ?_⟩
                refine W.cast (m' := m) (l' := hownT 42 4 Leaf.enc v113 _ :: hcells b1 [_, _, _, _, _] 47 :: l) rfl rfl ?_
                refine W.e rfl rfl rfl rfl (by decide) (Ef.bsT (enc := Leaf.enc) (vs := [_]) (ys := [({ up := r5.1, text := s_1.text, label := ({ level := s_1.who.level, parts := s_1.who.parts } : Label) } : Leaf)]) (fun _ => rfl) IF42 rfl Try.underlying22 (by decide) rfl (.cons (.t rfl) .nil) rfl rfl (by decide)) ?_
                rintro v433 _ rfl
                refine ⟨.inr ⟨.refl _, [_], rfl⟩, ?_⟩
                refine W.cast (m' := m) (l' := hownT 42 4 Leaf.enc v433 _ :: hownT 42 4 Leaf.enc v113 _ :: hcells b1 [_, _, _, _, _] 47 :: l) rfl rfl ?_
                refine W.e rfl rfl rfl rfl (by decide) (Ef.call (R := fun z x' => ∃ v473 : Value, z = v473 ∧ x' = ⟨m, hownT 42 4 Leaf.enc v473 r473 :: hcells b1 [.int .i64 s_1.kind, .int .i64 s_1.who.level, .int .u32 (s_1.who.parts.toNat : Int), us_1_2, .int .i64 s_1.text] 47 :: l⟩) rfl Try.func47 rfl rfl (.cons (.t rfl) (.cons (.t rfl) (.cons (.t rfl) .nil))) (by intro w hw; replace hw := cX_front (p := 1) hw rfl; exact (slices_Insert_SapiLeafapiLeaf_ok w0 _ _ _ _ at_20 _ _ _ hr474 w hw).mono fun e w' ⟨v473, he, hc'⟩ => ⟨_, _, he, ⟨v473, rfl, rfl⟩, hc'⟩)) ?_
                rintro v473 _ ⟨_, rfl, rfl⟩
                refine ⟨.inl rfl, ?_⟩
                refine W.cast (m' := m) (l' := hownT 42 4 Leaf.enc v473 _ :: hcells b1 [_, _, _, _, _] 47 :: l) rfl rfl ?_
                refine W.q rfl rfl rfl rfl (by decide) (Yd.as rfl (.t rfl)) ?_
                refine W.end ?_
                refine NX.sub (env' := [(14, _), (15, _)]) ⟨rfl, rfl, trivial⟩ ?_
                refine NX.drop (l' := hownT 42 4 Leaf.enc v473 _ :: l) (.cons_cons _ (.cons _ (.refl _))) ?_
                exact hk513 _ _ ⟨_, _, rfl, rfl, hr⟩
              ·
                refine W.e rfl rfl rfl rfl (by decide) (Ef.bsT (enc := Leaf.enc) (vs := [_]) (ys := [({ up := r5.1, text := s_1.text, label := ({ level := s_1.who.level, parts := s_1.who.parts } : Label) } : Leaf)]) (fun _ => rfl) IF42 rfl Try.underlying22 (by decide) rfl (.cons (.t rfl) .nil) rfl rfl (by decide)) ?_
                rintro v433 _ rfl
                refine ⟨.inr ⟨.refl _, [_], rfl⟩, ?_⟩
                refine W.cast (m' := m) (l' := hownT 42 4 Leaf.enc v433 _ :: hcells b1 [_, _, _, _, _] 47 :: l) rfl rfl ?_
                refine W.e rfl rfl rfl rfl (by decide) (Ef.call (R := fun z x' => ∃ v113 : Value, z = v113 ∧ x' = ⟨m, hownT 42 4 Leaf.enc v113 r113 :: hownT 42 4 Leaf.enc v433 (([({ up := r5.1, text := s_1.text, label := ({ level := s_1.who.level, parts := s_1.who.parts } : Label) } : Leaf)] : List Leaf)) :: hcells b1 [.int .i64 s_1.kind, .int .i64 s_1.who.level, .int .u32 (s_1.who.parts.toNat : Int), us_1_2, .int .i64 s_1.text] 47 :: l⟩) rfl Try.func44 rfl rfl (.cons (.t rfl) .nil) (fun w hw => (slices_Clone_SapiLeafapiLeaf_ok w0 _ _ _ _ hl_0 _ hr114 w hw).mono fun e w' ⟨v113, he, hc'⟩ => ⟨_, _, he, ⟨v113, rfl, rfl⟩, hc'⟩)) ?_
                rintro v113 _ ⟨_, rfl, rfl⟩
                refine ⟨.inr ⟨.refl _, [_], rfl⟩, ?_⟩
                refine W.cast (m' := m) (l' := hownT 42 4 Leaf.enc v113 _ :: hownT 42 4 Leaf.enc v433 _ :: hcells b1 [_, _, _, _, _] 47 :: l) rfl rfl ?_
                refine W.e rfl rfl rfl rfl (by decide) (Ef.call (R := fun z x' => ∃ v473 : Value, z = v473 ∧ x' = ⟨m, hownT 42 4 Leaf.enc v473 r473 :: hcells b1 [.int .i64 s_1.kind, .int .i64 s_1.who.level, .int .u32 (s_1.who.parts.toNat : Int), us_1_2, .int .i64 s_1.text] 47 :: l⟩) rfl Try.func47 rfl rfl (.cons (.t rfl) (.cons (.t rfl) (.cons (.t rfl) .nil))) (by intro w hw; replace hw := cX_front (p := 1) hw rfl; replace hw := cX_front (p := 1) hw rfl; exact (slices_Insert_SapiLeafapiLeaf_ok w0 _ _ _ _ at_20 _ _ _ hr474 w hw).mono fun e w' ⟨v473, he, hc'⟩ => ⟨_, _, he, ⟨v473, rfl, rfl⟩, hc'⟩)) ?_
                rintro v473 _ ⟨_, rfl, rfl⟩
                refine ⟨.inl rfl, ?_⟩
                refine W.cast (m' := m) (l' := hownT 42 4 Leaf.enc v473 _ :: hcells b1 [_, _, _, _, _] 47 :: l) rfl rfl ?_
                refine W.q rfl rfl rfl rfl (by decide) (Yd.as rfl (.t rfl)) ?_
                refine W.end ?_
                refine NX.sub (env' := [(14, _), (15, _)]) ⟨rfl, rfl, trivial⟩ ?_
                refine NX.drop (l' := hownT 42 4 Leaf.enc v473 _ :: l) (.cons_cons _ (.cons _ (.refl _))) ?_
                exact hk513 _ _ ⟨_, _, rfl, rfl, hr⟩
            refine Tr.cond (.t rfl) (fun hb => ?_) (fun hb => ?_)
            · have hr := cond_t hb hr
              obtain ⟨y573, hy574, hr⟩ := bind_some hr
              refine Tr.region_f (fun _ => false) ?_
              refine W.q rfl rfl rfl rfl (by decide) (Yd.mv rfl (.t rfl)) ?_
              refine W.q rfl rfl rfl rfl (by decide) (Yd.mv rfl (.t rfl)) ?_
              refine W.q rfl rfl rfl rfl (by decide) (Yd.sub rfl (.t rfl) .c) ?_
              refine W.q rfl rfl rfl rfl (by decide) (Yd.idxT (pos := 0) rfl hy574 rfl Try.underlying33 SZ3 (.t rfl) (.t rfl)) ?_
              refine W.q rfl rfl rfl rfl (by decide) (Yd.ldT (enc := encI) (n := 1) (pos := 0) (fun _ => rfl) rfl hy574 rfl rfl ON3 (.t rfl)) ?_
              refine W.q rfl rfl rfl rfl (by decide) (Yd.add rfl (.t rfl) .c) ?_
              refine W.q rfl rfl rfl rfl (by decide) (Yd.as rfl (.t rfl)) ?_
              refine W.end ?_
              refine NX.sub (env' := [(0, _), (3, _), (7, _), (14, _)]) ⟨rfl, rfl, rfl, rfl, trivial⟩ ?_
              refine NX.drop (l' := hcells b1 [_, _, _, _, _] 47 :: l) (.cons _ (.cons_cons _ (.refl _))) ?_
              refine NX.sub (env' := [(0, _), (3, _), (7, _), (14, _)]) ⟨rfl, rfl, rfl, rfl, trivial⟩ ?_
              exact hk22 _ _ ⟨_, rfl, rfl, hr⟩
            · have hr := cond_f hb hr
              refine Tr.skip' ?_
              refine NX.sub (env' := [(0, _), (3, _), (7, _), (14, _)]) ⟨rfl, rfl, rfl, rfl, trivial⟩ ?_
              refine NX.drop (l' := hcells b1 [_, _, _, _, _] 47 :: l) (.cons _ (.cons_cons _ (.refl _))) ?_
              exact hk22 _ _ ⟨_, rfl, rfl, hr⟩
        have hlen575 := (hl_0).2.1
        refine Tr.block ?_
        refine Tr.sub (env' := [(0, _), (3, _), (7, _), (9, _), (10, _), (11, _), (56, _), (57, _), (58, _)]) ⟨rfl, rfl, rfl, rfl, rfl, rfl, rfl, rfl, rfl, trivial⟩ ?_
        refine Tr.loop (S := fun n (z : Int × Int) env x => match z with | (t_576, own_15) => env = [(0, ul_0), (3, bp b1 0), (7, .int .i64 r5.1), (9, v11), (10, .int .i64 y7), (11, .int .i64 own_15), (56, ul_0), (57, .int .i64 ((l_0.length : Int))), (58, .int .i64 t_576)] ∧ x = ⟨m, hownT 3 1 encI v11 r9 :: hcells b1 [.int .i64 s_1.kind, .int .i64 s_1.who.level, .int .u32 (s_1.who.parts.toNat : Int), us_1_2, .int .i64 s_1.text] 47 :: l⟩ ∧ n = ((l_0.length : Int) - t_576).toNat ∧ 0 ≤ t_576 ∧ forK (σ := Int) (fun i s nx_ => pen_put_b577 l_0 s_1 i s nx_) (fun s => pen_put_k18 l_0 s_1 fuel r5 y7 r9 s) n t_576 own_15 = some r) _ ((0 : Int), (0 : Int)) ⟨rfl, rfl, rfl, (by omega), hr⟩ ?_
        rintro n579 ⟨t_576, own_15⟩ env x ⟨rfl, rfl, hnt_576, h0t_576, hr⟩
        cases n579 with
        | zero =>
          simp only [forK] at hr
          refine Tr.seq ?_
          refine Tr.region_f (fun _ => false) ?_
          refine W.q rfl rfl rfl rfl (by decide) (Yd.lss rfl (.t rfl) (.t rfl)) ?_
          refine W.end ?_
          refine NX.sub (env' := [(0, _), (3, _), (7, _), (9, _), (10, _), (11, _), (56, _), (57, _), (58, _), (59, _)]) ⟨rfl, rfl, rfl, rfl, rfl, rfl, rfl, rfl, rfl, rfl, trivial⟩ ?_
          refine NX.then ?_
          refine Tr.seq ?_
          refine Tr.cond (.t rfl) (fun hb => ?_) (fun hb => ?_)
          · exact absurd (hb.symm.trans (fr_end hnt_576)) (by decide)
          ·
            refine Tr.exit' (EX.then (EX.then (EX.block ?_)))
            refine NX.sub (env' := [(0, _), (3, _), (7, _), (9, _), (10, _), (11, _)]) ⟨rfl, rfl, rfl, rfl, rfl, rfl, trivial⟩ ?_
            exact hk19 _ _ ⟨_, rfl, rfl, hr⟩
        | succ n579 =>
          obtain ⟨nx578, hnx578, hr⟩ := forK_succ hr
          try dsimp only at hr
          unfold pen_put_b577 at hr
          try dsimp only at hr
          have hltt_576 := fr_bnd hnt_576
          refine Tr.seq ?_
          refine Tr.region_f (fun _ => false) ?_
          refine W.q rfl rfl rfl rfl (by decide) (Yd.lss rfl (.t rfl) (.t rfl)) ?_
          refine W.end ?_
          refine NX.sub (env' := [(0, _), (3, _), (7, _), (9, _), (10, _), (11, _), (56, _), (57, _), (58, _), (59, _)]) ⟨rfl, rfl, rfl, rfl, rfl, rfl, rfl, rfl, rfl, rfl, trivial⟩ ?_
          refine NX.then ?_
          refine Tr.seq ?_
          refine Tr.cond (.t rfl) (fun hb => ?_) (fun hb => ?_)
          rotate_left
          · exact absurd (hb.symm.trans (fr_go hnt_576)) (by decide)
          ·
            refine Tr.skip' ?_
            refine NX.then ?_
            refine Tr.seq ?_
            refine Tr.block ?_
            refine Tr.seq ?_
            obtain ⟨y580, hy581, hr⟩ := bind_some hr
            refine Tr.region_f (fun i => Nat.beq i 2 || Nat.beq i 3) ?_
            refine W.q rfl rfl rfl rfl (by decide) (Yd.idxR hl_0 hy581 rfl Try.underlying22 SZ42 (.t rfl) (.t rfl)) ?_
            refine W.q rfl rfl rfl rfl (by decide) (Yd.ldFs (us := [_, _, _, _]) hl_0 (.refl _) hy581 rfl rfl ON42 US42 SZ42 (.t rfl)) ?_
            refine W.e rfl rfl rfl rfl (by decide) (Ef.al rfl ZR42 rfl) ?_
            rintro _ _ ⟨b582, rfl, rfl⟩
            refine ⟨.inl rfl, ?_⟩
            refine W.cast (m' := m) (l' := hcells b582 [_, _, _, _] 42 :: hownT 3 1 encI v11 _ :: hcells b1 [_, _, _, _, _] 47 :: l) rfl rfl ?_
            refine W.s rfl rfl rfl rfl (Ef.stB (pos := 0) (us := [_, _, _, _]) (cs' := [_, _, _, _]) rfl rfl (.t rfl) (.t rfl) SZ42 rfl rfl rfl (Nat.le_of_ble_eq_true rfl) rfl) ?_
            rintro _ _ ⟨rfl, rfl⟩
            refine ⟨.inl rfl, ?_⟩
            refine W.cast (m' := m) (l' := hcells b582 [_, _, _, _] 42 :: hownT 3 1 encI v11 _ :: hcells b1 [_, _, _, _, _] 47 :: l) rfl rfl ?_
            refine W.end ?_
            refine NX.sub (env' := [(0, _), (3, _), (7, _), (9, _), (10, _), (11, _), (56, _), (57, _), (58, _), (13, _)]) ⟨rfl, rfl, rfl, rfl, rfl, rfl, rfl, rfl, rfl, rfl, trivial⟩ ?_
            refine NX.then ?_
            refine Tr.seq ?_
            refine Tr.region_f (fun _ => false) ?_
            refine W.q rfl rfl rfl rfl (by decide) (Yd.fldB rfl Try.underlying42 rfl SZ25 rfl (.t rfl)) ?_
            refine W.q rfl rfl rfl rfl (by decide) (Yd.ldBs (pos := 0) (us := [_, _]) rfl rfl rfl rfl ON25 US25 SZ25 (.t rfl)) ?_
            refine W.q rfl rfl rfl rfl (by decide) (Yd.fldB rfl Try.underlying47 rfl SZ25 rfl (.t rfl)) ?_
            refine W.q rfl rfl rfl rfl (by decide) (Yd.ldBs (pos := 2) (us := [_, _]) rfl rfl rfl rfl ON25 US25 SZ25 (.t rfl)) ?_
            refine W.q rfl rfl rfl rfl (by decide) (Yd.eqA rfl GU25 (fun w => EQ25 w y580.label.level y580.label.parts s_1.who.level s_1.who.parts) (.t rfl) (.t rfl)) ?_
            refine W.end ?_
            refine NX.sub (env' := [(0, _), (3, _), (7, _), (9, _), (10, _), (11, _), (56, _), (57, _), (58, _), (66, _)]) ⟨rfl, rfl, rfl, rfl, rfl, rfl, rfl, rfl, rfl, rfl, trivial⟩ ?_
            refine NX.drop (l' := hownT 3 1 encI v11 _ :: hcells b1 [_, _, _, _, _] 47 :: l) (.cons _ (.cons_cons _ (.cons_cons _ (.refl _)))) ?_
            refine NX.then ?_
            refine Tr.cond (.t rfl) (fun hb => ?_) (fun hb => ?_)
            · have hr := cond_t hb hr
              refine Tr.region_f (fun _ => false) ?_
              refine W.q rfl rfl rfl rfl (by decide) (Yd.mv rfl (.t rfl)) ?_
              refine W.q rfl rfl rfl rfl (by decide) (Yd.add rfl (.t rfl) .c) ?_
              refine W.q rfl rfl rfl rfl (by decide) (Yd.as rfl (.t rfl)) ?_
              refine W.end ?_
              refine NX.sub (env' := [(0, _), (3, _), (7, _), (9, _), (10, _), (11, _), (56, _), (57, _), (58, _)]) ⟨rfl, rfl, rfl, rfl, rfl, rfl, rfl, rfl, rfl, trivial⟩ ?_
              refine NX.block ?_
              refine NX.then ?_
              refine Tr.region_f (fun _ => false) ?_
              refine W.q rfl rfl rfl rfl (by decide) (Yd.add rfl (.t rfl) .c) ?_
              refine W.q rfl rfl rfl rfl (by decide) (Yd.mv rfl (.t rfl)) ?_
              refine W.end ?_
              refine NX.sub (env' := [(0, _), (3, _), (7, _), (9, _), (10, _), (11, _), (56, _), (57, _), (58, _)]) ⟨rfl, rfl, rfl, rfl, rfl, rfl, rfl, rfl, rfl, trivial⟩ ?_
              refine NX.sub (env' := [(0, _), (3, _), (7, _), (9, _), (10, _), (11, _), (56, _), (57, _), (58, _)]) ⟨rfl, rfl, rfl, rfl, rfl, rfl, rfl, rfl, rfl, trivial⟩ ?_
              have hw := w64_id (n := t_576 + 1) (by omega) (by omega)
              exact NX.again n579 (t_576 + 1, (w64 (own_15 + (1 : Int)))) (Nat.lt_succ_self _) ⟨(by rw [hw] <;> rfl), rfl, (fr_dec hnt_576), (by omega), ((hnx578 _).symm.trans hr)⟩
            · have hr := cond_f hb hr
              refine Tr.skip' ?_
              refine NX.block ?_
              refine NX.then ?_
              refine Tr.region_f (fun _ => false) ?_
              refine W.q rfl rfl rfl rfl (by decide) (Yd.add rfl (.t rfl) .c) ?_
              refine W.q rfl rfl rfl rfl (by decide) (Yd.mv rfl (.t rfl)) ?_
              refine W.end ?_
              refine NX.sub (env' := [(0, _), (3, _), (7, _), (9, _), (10, _), (11, _), (56, _), (57, _), (58, _)]) ⟨rfl, rfl, rfl, rfl, rfl, rfl, rfl, rfl, rfl, trivial⟩ ?_
              refine NX.sub (env' := [(0, _), (3, _), (7, _), (9, _), (10, _), (11, _), (56, _), (57, _), (58, _)]) ⟨rfl, rfl, rfl, rfl, rfl, rfl, rfl, rfl, rfl, trivial⟩ ?_
              have hw := w64_id (n := t_576 + 1) (by omega) (by omega)
              exact NX.again n579 (t_576 + 1, own_15) (Nat.lt_succ_self _) ⟨(by rw [hw] <;> rfl), rfl, (fr_dec hnt_576), (by omega), ((hnx578 _).symm.trans hr)⟩

def pen_drop_k28 (l22 : List Leaf) : Option ((List Leaf)) :=
  some l22

def pen_drop_b32 (l_0 : List Leaf) (k_1 : Int) (t_31 : Int) (l16 : List Leaf) (l18 : List Bool) (l20 : List Int) (nx33 : ((List Leaf) × (List Bool) × (List Int)) → Option ((List Leaf))) : Option ((List Leaf)) :=
  (geti l_0 t_31).bind fun y35 =>
  bif (!(((t_31 == k_1) == false) && ((decide (y35.up ≥ (0 : Int))) == true)) || (geti l18 y35.up).isSome) then
  (geti l18 t_31).bind fun y40 =>
  (geti ((l18.set t_31.toNat (((t_31 == k_1) || ((decide (y35.up ≥ (0 : Int))) && ((geti l18 y35.up).getD false)))))) t_31).bind fun y42 =>
  (bif y42 then
  nx33 (l16, (l18.set t_31.toNat (((t_31 == k_1) || ((decide (y35.up ≥ (0 : Int))) && ((geti l18 y35.up).getD false))))), l20)
  else
  (geti l20 t_31).bind fun y44 =>
  (bif (decide (y35.up ≥ (0 : Int))) then
  (geti ((l20.set t_31.toNat ((l16.length : Int)))) y35.up).bind fun y46 =>
  bif decide (l16.length + (([({ up := y46, text := y35.text, label := ({ level := y35.label.level, parts := y35.label.parts } : Label) } : Leaf)] : List Leaf)).length ≤ 4398046511104) then
  nx33 ((l16 ++ ([({ up := y46, text := y35.text, label := ({ level := y35.label.level, parts := y35.label.parts } : Label) } : Leaf)] : List Leaf)), (l18.set t_31.toNat (((t_31 == k_1) || ((decide (y35.up ≥ (0 : Int))) && ((geti l18 y35.up).getD false))))), (l20.set t_31.toNat ((l16.length : Int)))) else none
  else
  bif decide (l16.length + (([({ up := y35.up, text := y35.text, label := ({ level := y35.label.level, parts := y35.label.parts } : Label) } : Leaf)] : List Leaf)).length ≤ 4398046511104) then
  nx33 ((l16 ++ ([({ up := y35.up, text := y35.text, label := ({ level := y35.label.level, parts := y35.label.parts } : Label) } : Leaf)] : List Leaf)), (l18.set t_31.toNat (((t_31 == k_1) || ((decide (y35.up ≥ (0 : Int))) && ((geti l18 y35.up).getD false))))), (l20.set t_31.toNat ((l16.length : Int)))) else none)) else none

def pen_drop (l_0 : List Leaf) (k_1 : Int) : Option ((List Leaf)) :=
  bif decide (0 ≤ (l_0.length : Int) ∧ (l_0.length : Int) ≤ 1048576) then
  bif decide (0 ≤ (l_0.length : Int) ∧ (l_0.length : Int) ≤ 1048576) then
  forK (σ := (List Leaf) × (List Bool) × (List Int)) (fun i s nx_ => pen_drop_b32 l_0 k_1 i s.1 s.2.1 s.2.2 nx_) (fun s => pen_drop_k28 s.1) ((l_0.length : Int) - (0 : Int)).toNat (0 : Int) ((([] : List Leaf)), ((List.replicate ((l_0.length : Int)).toNat false)), ((List.replicate ((l_0.length : Int)).toNat (0 : Int)))) else none else none

set_option maxRecDepth 100000 in
set_option maxHeartbeats 4000000 in
theorem pen_drop_ok (w0 : World) (m : Snap) (l : List HI) (ul_0 : Value) (l_0 : List Leaf) (hl_0 : RS rLeaf m ul_0 l_0) (k_1 : Int) (r : (List Leaf)) (hr : pen_drop l_0 k_1 = some r) (w : World) (hc : cX w0 ⟨m, l⟩ w) :
    Calls Try.prog 43 [ul_0, .int .i64 k_1].toArray w fun e w' => ∃ z0 : Value, e = .returned (z0) ∧ cX w0 ⟨m, hownT 42 4 Leaf.enc z0 r :: l⟩ w' := by
  unfold pen_drop at hr
  refine calls_of_Tr (N := 65) Try.func43 rfl hc rfl (Nat.le_of_ble_eq_true rfl) ?_
  refine Tr.seq ?_
  refine Tr.region_f (fun _ => false) ?_
  refine W.q rfl rfl rfl rfl (by decide) (Yd.as rfl .c) ?_
  refine W.end ?_
  refine NX.sub (env' := [(0, _), (1, _)]) ⟨rfl, rfl, trivial⟩ ?_
  refine NX.then ?_
  refine Tr.seq ?_
  obtain ⟨hq1, hr⟩ := guard_some hr; replace hq1 := of_decide_eq_true hq1
  refine Tr.region_f (fun i => Nat.beq i 2) ?_
  refine W.q rfl rfl rfl rfl (by decide) (Yd.mv rfl (.t rfl)) ?_
  refine W.q rfl rfl rfl rfl (by decide) (Yd.lenR hl_0 rfl Try.underlying22 (.t rfl)) ?_
  refine W.e rfl rfl rfl rfl (by decide) (Ef.mkT (enc := encI) (0 : Int) IF3 rfl Try.underlying33 rfl rfl (by decide) (.t rfl) (.t rfl) (by omega) (by omega) (by omega)) ?_
  rintro v2 _ rfl
  refine ⟨.inl rfl, ?_⟩
  refine W.cast (m' := m) (l' := hownT 3 1 encI v2 _ :: l) rfl rfl ?_
  refine W.q rfl rfl rfl rfl (by decide) (Yd.as rfl (.t rfl)) ?_
  refine W.end ?_
  refine NX.sub (env' := [(0, _), (1, _), (5, _)]) ⟨rfl, rfl, rfl, trivial⟩ ?_
  refine NX.then ?_
  refine Tr.seq ?_
  obtain ⟨hq4, hr⟩ := guard_some hr; replace hq4 := of_decide_eq_true hq4
  refine Tr.region_f (fun i => Nat.beq i 2) ?_
  refine W.q rfl rfl rfl rfl (by decide) (Yd.mv rfl (.t rfl)) ?_
  refine W.q rfl rfl rfl rfl (by decide) (Yd.lenR hl_0 rfl Try.underlying22 (.t rfl)) ?_
  refine W.e rfl rfl rfl rfl (by decide) (Ef.mkT (enc := encB) false IF4 rfl Try.underlying66 rfl rfl (by decide) (.t rfl) (.t rfl) (by omega) (by omega) (by omega)) ?_
  rintro v5 _ rfl
  refine ⟨.inl rfl, ?_⟩
  refine W.cast (m' := m) (l' := hownT 4 1 encB v5 _ :: hownT 3 1 encI v2 _ :: l) rfl rfl ?_
  refine W.q rfl rfl rfl rfl (by decide) (Yd.as rfl (.t rfl)) ?_
  refine W.end ?_
  refine NX.sub (env' := [(0, _), (1, _), (5, _), (6, _)]) ⟨rfl, rfl, rfl, rfl, trivial⟩ ?_
  refine NX.then ?_
  refine Tr.seq ?_
  refine Tr.region_f (fun _ => false) ?_
  refine W.q rfl rfl rfl rfl (by decide) (Yd.as rfl .c) ?_
  refine W.end ?_
  refine NX.sub (env' := [(0, _), (1, _), (5, _), (6, _), (7, _)]) ⟨rfl, rfl, rfl, rfl, rfl, trivial⟩ ?_
  refine NX.then ?_
  refine Tr.seq ?_
  refine Tr.seq ?_
  refine Tr.region_f (fun _ => false) ?_
  refine W.q rfl rfl rfl rfl (by decide) (Yd.mv rfl (.t rfl)) ?_
  refine W.q rfl rfl rfl rfl (by decide) (Yd.lenR hl_0 rfl Try.underlying22 (.t rfl)) ?_
  refine W.q rfl rfl rfl rfl (by decide) (Yd.mv rfl .c) ?_
  refine W.end ?_
  refine NX.sub (env' := [(1, _), (5, _), (6, _), (7, _), (16, _), (17, _), (18, _)]) ⟨rfl, rfl, rfl, rfl, rfl, rfl, rfl, trivial⟩ ?_
  refine NX.then ?_
  refine Tr.addnil 42 4 ?_
  refine Tr.join (S := fun env x => ∃ l22 : List Leaf, ∃ v23 : Value, env = [(7, v23)] ∧ x = ⟨m, hownT 42 4 Leaf.enc v23 l22 :: l⟩ ∧ pen_drop_k28 l22 = some r) ?_ (fun hk29 => ?_)
  · rintro _ _ ⟨l22, v23, rfl, rfl, hr⟩
    unfold pen_drop_k28 at hr
    try dsimp only at hr
    refine NX.then ?_
    refine Tr.seq ?_
    refine Tr.region_f (fun _ => false) ?_
    refine W.q rfl rfl rfl rfl (by decide) (Yd.mv rfl (.t rfl)) ?_
    refine W.q rfl rfl rfl rfl (by decide) (Yd.as rfl (.t rfl)) ?_
    refine W.end ?_
    refine NX.sub (env' := [(4, _)]) ⟨rfl, trivial⟩ ?_
    refine NX.then ?_
    refine Tr.ret' ?_
    refine res1 rfl rfl ?_
    intro w hc
    cases hr
    exact ⟨_, rfl, hc⟩
  have hlen30 := (hl_0).2.1
  refine Tr.block ?_
  refine Tr.sub (env' := [(1, _), (5, _), (6, _), (7, _), (16, _), (17, _), (18, _)]) ⟨rfl, rfl, rfl, rfl, rfl, rfl, rfl, trivial⟩ ?_
  refine Tr.loop (S := fun n (z : Int × (List Leaf) × (List Bool) × (List Int)) env x => match z with | (t_31, l16, l18, l20) => ∃ v17 : Value, ∃ v19 : Value, ∃ v21 : Value, env = [(1, .int .i64 k_1), (5, v21), (6, v19), (7, v17), (16, ul_0), (17, .int .i64 ((l_0.length : Int))), (18, .int .i64 t_31)] ∧ x = ⟨m, hownT 42 4 Leaf.enc v17 l16 :: hownT 4 1 encB v19 l18 :: hownT 3 1 encI v21 l20 :: l⟩ ∧ n = ((l_0.length : Int) - t_31).toNat ∧ 0 ≤ t_31 ∧ forK (σ := (List Leaf) × (List Bool) × (List Int)) (fun i s nx_ => pen_drop_b32 l_0 k_1 i s.1 s.2.1 s.2.2 nx_) (fun s => pen_drop_k28 s.1) n t_31 (l16, l18, l20) = some r) _ ((0 : Int), ([] : List Leaf), (List.replicate ((l_0.length : Int)).toNat false), (List.replicate ((l_0.length : Int)).toNat (0 : Int))) ⟨_, _, _, rfl, rfl, rfl, (by omega), hr⟩ ?_
  rintro n34 ⟨t_31, l16, l18, l20⟩ env x ⟨v17, v19, v21, rfl, rfl, hnt_31, h0t_31, hr⟩
  cases n34 with
  | zero =>
    simp only [forK] at hr
    refine Tr.seq ?_
    refine Tr.region_f (fun _ => false) ?_
    refine W.q rfl rfl rfl rfl (by decide) (Yd.lss rfl (.t rfl) (.t rfl)) ?_
    refine W.end ?_
    refine NX.sub (env' := [(1, _), (5, _), (6, _), (7, _), (16, _), (17, _), (18, _), (19, _)]) ⟨rfl, rfl, rfl, rfl, rfl, rfl, rfl, rfl, trivial⟩ ?_
    refine NX.then ?_
    refine Tr.seq ?_
    refine Tr.cond (.t rfl) (fun hb => ?_) (fun hb => ?_)
    · exact absurd (hb.symm.trans (fr_end hnt_31)) (by decide)
    ·
      refine Tr.exit' (EX.then (EX.then (EX.block ?_)))
      refine NX.sub (env' := [(7, _)]) ⟨rfl, trivial⟩ ?_
      refine NX.drop (l' := hownT 42 4 Leaf.enc v17 _ :: l) (.cons_cons _ (.cons _ (.cons _ (.refl _)))) ?_
      exact hk29 _ _ ⟨_, _, rfl, rfl, hr⟩
  | succ n34 =>
    obtain ⟨nx33, hnx33, hr⟩ := forK_succ hr
    try dsimp only at hr
    unfold pen_drop_b32 at hr
    try dsimp only at hr
    have hltt_31 := fr_bnd hnt_31
    refine Tr.seq ?_
    refine Tr.region_f (fun _ => false) ?_
    refine W.q rfl rfl rfl rfl (by decide) (Yd.lss rfl (.t rfl) (.t rfl)) ?_
    refine W.end ?_
    refine NX.sub (env' := [(1, _), (5, _), (6, _), (7, _), (16, _), (17, _), (18, _), (19, _)]) ⟨rfl, rfl, rfl, rfl, rfl, rfl, rfl, rfl, trivial⟩ ?_
    refine NX.then ?_
    refine Tr.seq ?_
    refine Tr.cond (.t rfl) (fun hb => ?_) (fun hb => ?_)
    rotate_left
    · exact absurd (hb.symm.trans (fr_go hnt_31)) (by decide)
    ·
      refine Tr.skip' ?_
      refine NX.then ?_
      refine Tr.seq ?_
      refine Tr.block ?_
      refine Tr.seq ?_
      obtain ⟨y35, hy36, hr⟩ := bind_some hr
      refine Tr.region_f (fun i => Nat.beq i 3 || Nat.beq i 5) ?_
      refine W.q rfl rfl rfl rfl (by decide) (Yd.mv rfl (.t rfl)) ?_
      refine W.q rfl rfl rfl rfl (by decide) (Yd.idxR hl_0 hy36 rfl Try.underlying22 SZ42 (.t rfl) (.t rfl)) ?_
      refine W.q rfl rfl rfl rfl (by decide) (Yd.ldFs (us := [_, _, _, _]) hl_0 (.refl _) hy36 rfl rfl ON42 US42 SZ42 (.t rfl)) ?_
      refine W.e rfl rfl rfl rfl (by decide) (Ef.al rfl ZR42 rfl) ?_
      rintro _ _ ⟨b37, rfl, rfl⟩
      refine ⟨.inl rfl, ?_⟩
      refine W.cast (m' := m) (l' := hcells b37 [_, _, _, _] 42 :: hownT 42 4 Leaf.enc v17 _ :: hownT 4 1 encB v19 _ :: hownT 3 1 encI v21 _ :: l) rfl rfl ?_
      refine W.q rfl rfl rfl rfl (by decide) (Yd.as rfl (.t rfl)) ?_
      refine W.s rfl rfl rfl rfl (Ef.stB (pos := 0) (us := [_, _, _, _]) (cs' := [_, _, _, _]) rfl rfl (.t rfl) (.t rfl) SZ42 rfl rfl rfl (Nat.le_of_ble_eq_true rfl) rfl) ?_
      rintro _ _ ⟨rfl, rfl⟩
      refine ⟨.inl rfl, ?_⟩
      refine W.cast (m' := m) (l' := hcells b37 [_, _, _, _] 42 :: hownT 42 4 Leaf.enc v17 _ :: hownT 4 1 encB v19 _ :: hownT 3 1 encI v21 _ :: l) rfl rfl ?_
      refine W.end ?_
      refine NX.sub (env' := [(1, _), (5, _), (6, _), (7, _), (16, _), (17, _), (18, _), (9, _), (8, _)]) ⟨rfl, rfl, rfl, rfl, rfl, rfl, rfl, rfl, rfl, trivial⟩ ?_
      refine NX.then ?_
      refine Tr.seq ?_
      obtain ⟨ha39, hr⟩ := guard_some hr
      obtain ⟨y40, hy41, hr⟩ := bind_some hr
      refine Tr.region_f (fun i => Nat.beq i 18) ?_
      refine W.q rfl rfl rfl rfl (by decide) (Yd.mv rfl (.t rfl)) ?_
      refine W.q rfl rfl rfl rfl (by decide) (Yd.mv rfl (.t rfl)) ?_
      refine W.q rfl rfl rfl rfl (by decide) (Yd.mv rfl (.t rfl)) ?_
      refine W.q rfl rfl rfl rfl (by decide) (Yd.mv rfl (.t rfl)) ?_
      refine W.q rfl rfl rfl rfl (by decide) (Yd.eql rfl (.t rfl) (.t rfl)) ?_
      refine W.q rfl rfl rfl rfl (by decide) (Yd.mv rfl (.t rfl)) ?_
      refine W.g rfl rfl rfl rfl rfl (.t rfl _) rfl (by decide) (fun hG => Yd.fldB rfl Try.underlying42 rfl SZ3 rfl (.t rfl)) ?_
      refine W.g rfl rfl rfl rfl rfl (.t rfl _) rfl (by decide) (fun hG => Yd.ldB (pos := 0) rfl rfl rfl ON3 (.g rfl hG)) ?_
      refine W.g rfl rfl rfl rfl rfl (.t rfl _) rfl (by decide) (fun hG => Yd.geq rfl (.g rfl hG) .c) ?_
      refine W.g rfl rfl rfl rfl rfl (.t rfl _) rfl (by decide) (fun hG => Yd.mv rfl (.g rfl hG)) ?_
      refine W.g rfl rfl rfl rfl rfl (.g rfl _) rfl (by decide) (fun hG => Yd.mv rfl (.t rfl)) ?_
      refine W.g rfl rfl rfl rfl rfl (.g rfl _) rfl (by decide) (fun hG => Yd.fldB rfl Try.underlying42 rfl SZ3 rfl (.t rfl)) ?_
      refine W.g rfl rfl rfl rfl rfl (.g rfl _) rfl (by decide) (fun hG => Yd.ldB (pos := 0) rfl rfl rfl ON3 (.g rfl hG)) ?_
      refine W.g rfl rfl rfl rfl rfl (.g rfl _) rfl (by decide) (fun hG => Yd.idxT (pos := 2) rfl (gd_get (d := false) ha39 hG) rfl Try.underlying66 SZ4 (.g rfl hG) (.g rfl hG)) ?_
      refine W.g rfl rfl rfl rfl rfl (.g rfl _) rfl (by decide) (fun hG => Yd.ldT (enc := encB) (n := 1) (pos := 2) (fun _ => rfl) rfl (gd_get (d := false) ha39 hG) rfl rfl ON4 (.g rfl hG)) ?_
      refine W.g rfl rfl rfl rfl rfl (.t rfl _) rfl (by decide) (fun hG => Yd.andG rfl (.g rfl hG) .c rfl rfl hG) ?_
      refine W.q rfl rfl rfl rfl (by decide) (Yd.or rfl (.t rfl) .c rfl rfl) ?_
      refine W.q rfl rfl rfl rfl (by decide) (Yd.idxT (pos := 2) rfl hy41 rfl Try.underlying66 SZ4 (.t rfl) (.t rfl)) ?_
      refine W.s rfl rfl rfl rfl (Ef.stT (enc := encB) (n := 1) (pos := 2) (y := ((t_31 == k_1) || ((decide (y35.up ≥ (0 : Int))) && ((geti l18 y35.up).getD false)))) (us := [_]) (fun _ => rfl) rfl hy41 rfl (.t rfl) (.t rfl) SZ4 rfl rfl rfl (by decide)) ?_
      rintro _ _ ⟨rfl, rfl⟩
      refine ⟨.inl rfl, ?_⟩
      refine W.cast (m' := m) (l' := hcells b37 [_, _, _, _] 42 :: hownT 42 4 Leaf.enc v17 _ :: hownT 4 1 encB v19 _ :: hownT 3 1 encI v21 _ :: l) rfl rfl ?_
      refine W.end ?_
      refine NX.sub (env' := [(1, _), (5, _), (6, _), (7, _), (16, _), (17, _), (18, _), (9, _), (8, _)]) ⟨rfl, rfl, rfl, rfl, rfl, rfl, rfl, rfl, rfl, trivial⟩ ?_
      refine NX.then ?_
      refine Tr.seq ?_
      refine Tr.seq ?_
      obtain ⟨y42, hy43, hr⟩ := bind_some hr
      refine Tr.region_f (fun _ => false) ?_
      refine W.q rfl rfl rfl rfl (by decide) (Yd.mv rfl (.t rfl)) ?_
      refine W.q rfl rfl rfl rfl (by decide) (Yd.mv rfl (.t rfl)) ?_
      refine W.q rfl rfl rfl rfl (by decide) (Yd.idxT (pos := 2) rfl hy43 rfl Try.underlying66 SZ4 (.t rfl) (.t rfl)) ?_
      refine W.q rfl rfl rfl rfl (by decide) (Yd.ldT (enc := encB) (n := 1) (pos := 2) (fun _ => rfl) rfl hy43 rfl rfl ON4 (.t rfl)) ?_
      refine W.end ?_
      refine NX.sub (env' := [(1, _), (5, _), (6, _), (7, _), (16, _), (17, _), (18, _), (9, _), (8, _), (44, _)]) ⟨rfl, rfl, rfl, rfl, rfl, rfl, rfl, rfl, rfl, rfl, trivial⟩ ?_
      refine NX.then ?_
      refine Tr.cond (.t rfl) (fun hb => ?_) (fun hb => ?_)
      · have hr := cond_t hb hr
        refine Tr.exit' (EX.then (EX.block ?_))
        refine NX.then ?_
        refine Tr.region_f (fun _ => false) ?_
        refine W.q rfl rfl rfl rfl (by decide) (Yd.add rfl (.t rfl) .c) ?_
        refine W.q rfl rfl rfl rfl (by decide) (Yd.mv rfl (.t rfl)) ?_
        refine W.end ?_
        refine NX.sub (env' := [(1, _), (5, _), (6, _), (7, _), (16, _), (17, _), (18, _)]) ⟨rfl, rfl, rfl, rfl, rfl, rfl, rfl, trivial⟩ ?_
        refine NX.drop (l' := hownT 42 4 Leaf.enc v17 _ :: hownT 4 1 encB v19 _ :: hownT 3 1 encI v21 _ :: l) (.cons _ (.cons_cons _ (.cons_cons _ (.cons_cons _ (.refl _))))) ?_
        refine NX.sub (env' := [(1, _), (5, _), (6, _), (7, _), (16, _), (17, _), (18, _)]) ⟨rfl, rfl, rfl, rfl, rfl, rfl, rfl, trivial⟩ ?_
        have hw := w64_id (n := t_31 + 1) (by omega) (by omega)
        exact NX.again n34 (t_31 + 1, l16, (l18.set t_31.toNat (((t_31 == k_1) || ((decide (y35.up ≥ (0 : Int))) && ((geti l18 y35.up).getD false))))), l20) (Nat.lt_succ_self _) ⟨_, _, _, (by rw [hw] <;> rfl), rfl, (fr_dec hnt_31), (by omega), ((hnx33 _).symm.trans hr)⟩
      · have hr := cond_f hb hr
        refine Tr.skip' ?_
        refine NX.then ?_
        refine Tr.seq ?_
        obtain ⟨y44, hy45, hr⟩ := bind_some hr
        refine Tr.region_f (fun i => Nat.beq i 5) ?_
        refine W.q rfl rfl rfl rfl (by decide) (Yd.mv rfl (.t rfl)) ?_
        refine W.q rfl rfl rfl rfl (by decide) (Yd.mv rfl (.t rfl)) ?_
        refine W.q rfl rfl rfl rfl (by decide) (Yd.mv rfl (.t rfl)) ?_
        refine W.q rfl rfl rfl rfl (by decide) (Yd.lenO (p := 1) rfl rfl Try.underlying22 (.t rfl)) ?_
        refine W.q rfl rfl rfl rfl (by decide) (Yd.idxT (pos := 3) rfl hy45 rfl Try.underlying33 SZ3 (.t rfl) (.t rfl)) ?_
        refine W.s rfl rfl rfl rfl (Ef.stT (enc := encI) (n := 1) (pos := 3) (y := (l16.length : Int)) (us := [_]) (fun _ => rfl) rfl hy45 rfl (.t rfl) (.t rfl) SZ3 rfl rfl rfl (by decide)) ?_
        rintro _ _ ⟨rfl, rfl⟩
        refine ⟨.inl rfl, ?_⟩
        refine W.cast (m' := m) (l' := hcells b37 [_, _, _, _] 42 :: hownT 42 4 Leaf.enc v17 _ :: hownT 4 1 encB v19 _ :: hownT 3 1 encI v21 _ :: l) rfl rfl ?_
        refine W.end ?_
        refine NX.sub (env' := [(1, _), (5, _), (6, _), (7, _), (16, _), (17, _), (18, _), (9, _)]) ⟨rfl, rfl, rfl, rfl, rfl, rfl, rfl, rfl, trivial⟩ ?_
        refine NX.then ?_
        refine Tr.seq ?_
        refine Tr.seq ?_
        refine Tr.region_f (fun _ => false) ?_
        refine W.q rfl rfl rfl rfl (by decide) (Yd.fldB rfl Try.underlying42 rfl SZ3 rfl (.t rfl)) ?_
        refine W.q rfl rfl rfl rfl (by decide) (Yd.ldB (pos := 0) rfl rfl rfl ON3 (.t rfl)) ?_
        refine W.q rfl rfl rfl rfl (by decide) (Yd.geq rfl (.t rfl) .c) ?_
        refine W.end ?_
        refine NX.sub (env' := [(1, _), (5, _), (6, _), (7, _), (16, _), (17, _), (18, _), (9, _), (52, _)]) ⟨rfl, rfl, rfl, rfl, rfl, rfl, rfl, rfl, rfl, trivial⟩ ?_
        refine NX.then ?_
        refine Tr.cond (.t rfl) (fun hb => ?_) (fun hb => ?_)
        · have hr := cond_t hb hr
          obtain ⟨y46, hy47, hr⟩ := bind_some hr
          refine Tr.region_f (fun i => Nat.beq i 6) ?_
          refine W.q rfl rfl rfl rfl (by decide) (Yd.mv rfl (.t rfl)) ?_
          refine W.q rfl rfl rfl rfl (by decide) (Yd.fldB rfl Try.underlying42 rfl SZ3 rfl (.t rfl)) ?_
          refine W.q rfl rfl rfl rfl (by decide) (Yd.ldB (pos := 0) rfl rfl rfl ON3 (.t rfl)) ?_
          refine W.q rfl rfl rfl rfl (by decide) (Yd.idxT (pos := 3) rfl hy47 rfl Try.underlying33 SZ3 (.t rfl) (.t rfl)) ?_
          refine W.q rfl rfl rfl rfl (by decide) (Yd.ldT (enc := encI) (n := 1) (pos := 3) (fun _ => rfl) rfl hy47 rfl rfl ON3 (.t rfl)) ?_
          refine W.q rfl rfl rfl rfl (by decide) (Yd.fldB rfl Try.underlying42 rfl SZ3 rfl (.t rfl)) ?_
          refine W.s rfl rfl rfl rfl (Ef.stB (pos := 0) (us := [_]) (cs' := [_, _, _, _]) rfl rfl (.t rfl) (.t rfl) SZ3 rfl rfl rfl (Nat.le_of_ble_eq_true rfl) rfl) ?_
          rintro _ _ ⟨rfl, rfl⟩
          refine ⟨.inl rfl, ?_⟩
          refine W.cast (m' := m) (l' := hcells b37 [_, _, _, _] 42 :: hownT 42 4 Leaf.enc v17 _ :: hownT 4 1 encB v19 _ :: hownT 3 1 encI v21 _ :: l) rfl rfl ?_
          refine W.end ?_
          refine NX.sub (env' := [(1, _), (5, _), (6, _), (7, _), (16, _), (17, _), (18, _), (9, _)]) ⟨rfl, rfl, rfl, rfl, rfl, rfl, rfl, rfl, trivial⟩ ?_
          refine NX.then ?_
          obtain ⟨hq51, hr⟩ := guard_some hr; replace hq51 := of_decide_eq_true hq51
          refine Tr.region_f (fun i => Nat.beq i 2 || Nat.beq i 3) ?_
          refine W.q rfl rfl rfl rfl (by decide) (Yd.mv rfl (.t rfl)) ?_
          refine W.q rfl rfl rfl rfl (by decide) (Yd.ldBs (pos := 0) (us := [_, _, _, _]) rfl rfl rfl rfl ON42 US42 SZ42 (.t rfl)) ?_
          refine W.e rfl rfl rfl rfl (by decide) (Ef.bsT (enc := Leaf.enc) (vs := [_]) (ys := [({ up := y46, text := y35.text, label := ({ level := y35.label.level, parts := y35.label.parts } : Label) } : Leaf)]) (fun _ => rfl) IF42 rfl Try.underlying22 (by decide) rfl (.cons (.t rfl) .nil) rfl rfl (by decide)) ?_
          rintro v48 _ rfl
          refine ⟨.inl rfl, ?_⟩
          refine W.cast (m' := m) (l' := hownT 42 4 Leaf.enc v48 _ :: hcells b37 [_, _, _, _] 42 :: hownT 42 4 Leaf.enc v17 _ :: hownT 4 1 encB v19 _ :: hownT 3 1 encI v21 _ :: l) rfl rfl ?_
          refine W.e rfl rfl rfl rfl (by decide) (Ef.apI (pos := 2) (enc := Leaf.enc) (xs := l16) (ys := ([({ up := y46, text := y35.text, label := ({ level := y35.label.level, parts := y35.label.parts } : Label) } : Leaf)] : List Leaf)) (fun _ => rfl) IF42 rfl rfl Try.underlying22 rfl (by decide) (.t rfl) (.t rfl) (Src.own (pos := 0) rfl) (fun _ => rfl) (by omega) (by omega)) ?_
          rintro v50 _ rfl
          refine ⟨.inl rfl, ?_⟩
          refine W.cast (m' := m) (l' := hownT 42 4 Leaf.enc v48 _ :: hcells b37 [_, _, _, _] 42 :: hownT 42 4 Leaf.enc v50 _ :: hownT 4 1 encB v19 _ :: hownT 3 1 encI v21 _ :: l) rfl rfl ?_
          refine W.q rfl rfl rfl rfl (by decide) (Yd.as rfl (.t rfl)) ?_
          refine W.end ?_
          refine NX.sub (env' := [(1, _), (5, _), (6, _), (7, _), (16, _), (17, _), (18, _)]) ⟨rfl, rfl, rfl, rfl, rfl, rfl, rfl, trivial⟩ ?_
          refine NX.drop (l' := hownT 42 4 Leaf.enc v50 _ :: hownT 4 1 encB v19 _ :: hownT 3 1 encI v21 _ :: l) (.cons _ (.cons _ (.cons_cons _ (.cons_cons _ (.cons_cons _ (.refl _)))))) ?_
          refine NX.block ?_
          refine NX.then ?_
          refine Tr.region_f (fun _ => false) ?_
          refine W.q rfl rfl rfl rfl (by decide) (Yd.add rfl (.t rfl) .c) ?_
          refine W.q rfl rfl rfl rfl (by decide) (Yd.mv rfl (.t rfl)) ?_
          refine W.end ?_
          refine NX.sub (env' := [(1, _), (5, _), (6, _), (7, _), (16, _), (17, _), (18, _)]) ⟨rfl, rfl, rfl, rfl, rfl, rfl, rfl, trivial⟩ ?_
          refine NX.sub (env' := [(1, _), (5, _), (6, _), (7, _), (16, _), (17, _), (18, _)]) ⟨rfl, rfl, rfl, rfl, rfl, rfl, rfl, trivial⟩ ?_
          have hw := w64_id (n := t_31 + 1) (by omega) (by omega)
          exact NX.again n34 (t_31 + 1, (l16 ++ ([({ up := y46, text := y35.text, label := ({ level := y35.label.level, parts := y35.label.parts } : Label) } : Leaf)] : List Leaf)), (l18.set t_31.toNat (((t_31 == k_1) || ((decide (y35.up ≥ (0 : Int))) && ((geti l18 y35.up).getD false))))), (l20.set t_31.toNat ((l16.length : Int)))) (Nat.lt_succ_self _) ⟨_, _, _, (by rw [hw] <;> rfl), rfl, (fr_dec hnt_31), (by omega), ((hnx33 _).symm.trans hr)⟩
        · have hr := cond_f hb hr
          refine Tr.skip' ?_
          refine NX.then ?_
          obtain ⟨hq55, hr⟩ := guard_some hr; replace hq55 := of_decide_eq_true hq55
          refine Tr.region_f (fun i => Nat.beq i 2 || Nat.beq i 3) ?_
          refine W.q rfl rfl rfl rfl (by decide) (Yd.mv rfl (.t rfl)) ?_
          refine W.q rfl rfl rfl rfl (by decide) (Yd.ldBs (pos := 0) (us := [_, _, _, _]) rfl rfl rfl rfl ON42 US42 SZ42 (.t rfl)) ?_
          refine W.e rfl rfl rfl rfl (by decide) (Ef.bsT (enc := Leaf.enc) (vs := [_]) (ys := [({ up := y35.up, text := y35.text, label := ({ level := y35.label.level, parts := y35.label.parts } : Label) } : Leaf)]) (fun _ => rfl) IF42 rfl Try.underlying22 (by decide) rfl (.cons (.t rfl) .nil) rfl rfl (by decide)) ?_
          rintro v52 _ rfl
          refine ⟨.inl rfl, ?_⟩
          refine W.cast (m' := m) (l' := hownT 42 4 Leaf.enc v52 _ :: hcells b37 [_, _, _, _] 42 :: hownT 42 4 Leaf.enc v17 _ :: hownT 4 1 encB v19 _ :: hownT 3 1 encI v21 _ :: l) rfl rfl ?_
          refine W.e rfl rfl rfl rfl (by decide) (Ef.apI (pos := 2) (enc := Leaf.enc) (xs := l16) (ys := ([({ up := y35.up, text := y35.text, label := ({ level := y35.label.level, parts := y35.label.parts } : Label) } : Leaf)] : List Leaf)) (fun _ => rfl) IF42 rfl rfl Try.underlying22 rfl (by decide) (.t rfl) (.t rfl) (Src.own (pos := 0) rfl) (fun _ => rfl) (by omega) (by omega)) ?_
          rintro v54 _ rfl
          refine ⟨.inl rfl, ?_⟩
          refine W.cast (m' := m) (l' := hownT 42 4 Leaf.enc v52 _ :: hcells b37 [_, _, _, _] 42 :: hownT 42 4 Leaf.enc v54 _ :: hownT 4 1 encB v19 _ :: hownT 3 1 encI v21 _ :: l) rfl rfl ?_
          refine W.q rfl rfl rfl rfl (by decide) (Yd.as rfl (.t rfl)) ?_
          refine W.end ?_
          refine NX.sub (env' := [(1, _), (5, _), (6, _), (7, _), (16, _), (17, _), (18, _)]) ⟨rfl, rfl, rfl, rfl, rfl, rfl, rfl, trivial⟩ ?_
          refine NX.drop (l' := hownT 42 4 Leaf.enc v54 _ :: hownT 4 1 encB v19 _ :: hownT 3 1 encI v21 _ :: l) (.cons _ (.cons _ (.cons_cons _ (.cons_cons _ (.cons_cons _ (.refl _)))))) ?_
          refine NX.block ?_
          refine NX.then ?_
          refine Tr.region_f (fun _ => false) ?_
          refine W.q rfl rfl rfl rfl (by decide) (Yd.add rfl (.t rfl) .c) ?_
          refine W.q rfl rfl rfl rfl (by decide) (Yd.mv rfl (.t rfl)) ?_
          refine W.end ?_
          refine NX.sub (env' := [(1, _), (5, _), (6, _), (7, _), (16, _), (17, _), (18, _)]) ⟨rfl, rfl, rfl, rfl, rfl, rfl, rfl, trivial⟩ ?_
          refine NX.sub (env' := [(1, _), (5, _), (6, _), (7, _), (16, _), (17, _), (18, _)]) ⟨rfl, rfl, rfl, rfl, rfl, rfl, rfl, trivial⟩ ?_
          have hw := w64_id (n := t_31 + 1) (by omega) (by omega)
          exact NX.again n34 (t_31 + 1, (l16 ++ ([({ up := y35.up, text := y35.text, label := ({ level := y35.label.level, parts := y35.label.parts } : Label) } : Leaf)] : List Leaf)), (l18.set t_31.toNat (((t_31 == k_1) || ((decide (y35.up ≥ (0 : Int))) && ((geti l18 y35.up).getD false))))), (l20.set t_31.toNat ((l16.length : Int)))) (Nat.lt_succ_self _) ⟨_, _, _, (by rw [hw] <;> rfl), rfl, (fr_dec hnt_31), (by omega), ((hnx33 _).symm.trans hr)⟩

def pen_Do_k12 (l_0 : List Leaf) (s_1 : Stroke) (t_11 : Bool) : Option ((List Leaf) × Int) :=
  (bif t_11 then
  (place_Find l_0 (({ level := s_1.who.level, parts := s_1.who.parts } : Label)) s_1.path).bind fun r14 =>
  (bif (r14.2 != (0 : Int)) then
  some (([], r14.2))
  else
  (geti l_0 r14.1).bind fun y16 =>
  (bif (!((y16.label.level == s_1.who.level) && ((y16.label.parts == s_1.who.parts) && true))) then
  some (([], (7 : Int)))
  else
  (bif (s_1.kind == (3 : Int)) then
  (pen_drop l_0 r14.1).bind fun r18 =>
  some ((r18, (0 : Int)))
  else
  (slices_Clone_SapiLeafapiLeaf l_0).bind fun r22 =>
  (geti r22 r14.1).bind fun y26 =>
  some (((r22.set r14.1.toNat (({ up := y26.up, text := s_1.text, label := ({ level := y26.label.level, parts := y26.label.parts } : Label) } : Leaf))), (0 : Int))))))
  else
  some (([], (6 : Int))))

def pen_Do (fuel : Nat) (l_0 : List Leaf) (s_1 : Stroke) : Option ((List Leaf) × Int) :=
  (page_Check l_0).bind fun r3 =>
  (bif (r3 != (0 : Int)) then
  some (([], r3))
  else
  (label_Check (({ level := s_1.who.level, parts := s_1.who.parts } : Label))).bind fun r5 =>
  (bif (r5 != (0 : Int)) then
  some (([], r5))
  else
  (bif (s_1.kind == (1 : Int)) then
  (pen_put fuel l_0 (({ kind := s_1.kind, who := ({ level := s_1.who.level, parts := s_1.who.parts } : Label), path := s_1.path, text := s_1.text } : Stroke))).bind fun r7 =>
  some ((r7.1, r7.2))
  else
  (bif (s_1.kind == (2 : Int)) then
  pen_Do_k12 l_0 s_1 ((s_1.kind == (2 : Int)))
  else
  pen_Do_k12 l_0 s_1 ((s_1.kind == (3 : Int)))))))

set_option maxRecDepth 100000 in
set_option maxHeartbeats 4000000 in
theorem pen_Do_ok (w0 : World) (m : Snap) (l : List HI) (fuel : Nat) (ul_0 : Value) (l_0 : List Leaf) (hl_0 : RS rLeaf m ul_0 l_0) (s_1 : Stroke) (us_1_2 : Value) (hs_1_2 : RS rI m us_1_2 s_1.path) (r : (List Leaf) × Int) (hr : pen_Do fuel l_0 s_1 = some r) (w : World) (hc : cX w0 ⟨m, l⟩ w) :
    Calls Try.prog 22 [ul_0, .agg #[.int .i64 s_1.kind, .int .i64 s_1.who.level, .int .u32 (s_1.who.parts.toNat : Int), us_1_2, .int .i64 s_1.text]].toArray w fun e w' => ∃ z0 : Value, e = .returned (.tuple #[z0, .int .i64 r.2]) ∧ cX w0 ⟨m, hownT 42 4 Leaf.enc z0 r.1 :: l⟩ w' := by
  unfold pen_Do at hr
  refine calls_of_Tr (N := 69) Try.func22 rfl hc rfl (Nat.le_of_ble_eq_true rfl) ?_
  refine Tr.seq ?_
  refine Tr.region_f (fun i => Nat.beq i 0) ?_
  refine W.e rfl rfl rfl rfl (by decide) (Ef.bx rfl (.t rfl) rfl) ?_
  rintro _ _ ⟨b1, rfl, rfl⟩
  refine ⟨.inl rfl, ?_⟩
  refine W.cast (m' := m) (l' := hcells b1 [_, _, _, _, _] 47 :: l) rfl rfl ?_
  refine W.q rfl rfl rfl rfl (by decide) (Yd.as rfl .c) ?_
  refine W.q rfl rfl rfl rfl (by decide) (Yd.as rfl .c) ?_
  refine W.end ?_
  refine NX.sub (env' := [(0, _), (3, _)]) ⟨rfl, rfl, trivial⟩ ?_
  refine NX.then ?_
  refine Tr.seq ?_
  refine Tr.seq ?_
  obtain ⟨r3, hr4, hr⟩ := bind_some hr
  refine Tr.region_f (fun _ => false) ?_
  refine W.q rfl rfl rfl rfl (by decide) (Yd.mv rfl (.t rfl)) ?_
  refine W.q rfl rfl rfl rfl (by decide) (Yd.call (v := .int .i64 r3) rfl Try.func31 rfl rfl (.cons (.t rfl) .nil) (fun x' hx w hw => page_Check_ok w0 x'.m x'.l _ _ (hl_0.mono hx.1) _ hr4 w hw)) ?_
  refine W.q rfl rfl rfl rfl (by decide) (Yd.as rfl (.t rfl)) ?_
  refine W.end ?_
  refine NX.sub (env' := [(0, _), (3, _), (6, _)]) ⟨rfl, rfl, rfl, trivial⟩ ?_
  refine NX.then ?_
  refine Tr.seq ?_
  refine Tr.region_f (fun _ => false) ?_
  refine W.q rfl rfl rfl rfl (by decide) (Yd.mv rfl (.t rfl)) ?_
  refine W.q rfl rfl rfl rfl (by decide) (Yd.neq rfl (.t rfl) .c) ?_
  refine W.end ?_
  refine NX.sub (env' := [(0, _), (3, _), (6, _), (14, _)]) ⟨rfl, rfl, rfl, rfl, trivial⟩ ?_
  refine NX.then ?_
  refine Tr.cond (.t rfl) (fun hb => ?_) (fun hb => ?_)
  · have hr := cond_t hb hr
    refine Tr.seq ?_
    refine Tr.region_f (fun _ => false) ?_
    refine W.q rfl rfl rfl rfl (by decide) (Yd.mv rfl (.t rfl)) ?_
    refine W.q rfl rfl rfl rfl (by decide) (Yd.as rfl .c) ?_
    refine W.q rfl rfl rfl rfl (by decide) (Yd.as rfl (.t rfl)) ?_
    refine W.end ?_
    refine NX.sub (env' := [(4, _), (5, _)]) ⟨rfl, rfl, trivial⟩ ?_
    refine NX.drop (l' := l) (.cons _ (.refl _)) ?_
    refine NX.then ?_
    refine Tr.ret' (RT.then ?_)
    refine res2 rfl rfl rfl ?_
    intro w hc
    cases hr
    exact ⟨_, rfl, (cX_nil hc)⟩
  · have hr := cond_f hb hr
    refine Tr.skip' ?_
    refine NX.then ?_
    refine Tr.seq ?_
    refine Tr.seq ?_
    obtain ⟨r5, hr6, hr⟩ := bind_some hr
    refine Tr.region_f (fun _ => false) ?_
    refine W.q rfl rfl rfl rfl (by decide) (Yd.fldB rfl Try.underlying47 rfl SZ25 rfl (.t rfl)) ?_
    refine W.q rfl rfl rfl rfl (by decide) (Yd.ldBs (pos := 0) (us := [_, _]) rfl rfl rfl rfl ON25 US25 SZ25 (.t rfl)) ?_
    refine W.q rfl rfl rfl rfl (by decide) (Yd.call (v := .int .i64 r5) rfl Try.func32 rfl rfl (.cons (.t rfl) .nil) (fun x' hx w hw => label_Check_ok w0 x'.m x'.l (({ level := s_1.who.level, parts := s_1.who.parts } : Label)) _ hr6 w hw)) ?_
    refine W.q rfl rfl rfl rfl (by decide) (Yd.as rfl (.t rfl)) ?_
    refine W.end ?_
    refine NX.sub (env' := [(0, _), (3, _), (7, _)]) ⟨rfl, rfl, rfl, trivial⟩ ?_
    refine NX.then ?_
    refine Tr.seq ?_
    refine Tr.region_f (fun _ => false) ?_
    refine W.q rfl rfl rfl rfl (by decide) (Yd.mv rfl (.t rfl)) ?_
    refine W.q rfl rfl rfl rfl (by decide) (Yd.neq rfl (.t rfl) .c) ?_
    refine W.end ?_
    refine NX.sub (env' := [(0, _), (3, _), (7, _), (20, _)]) ⟨rfl, rfl, rfl, rfl, trivial⟩ ?_
    refine NX.then ?_
    refine Tr.cond (.t rfl) (fun hb => ?_) (fun hb => ?_)
    · have hr := cond_t hb hr
      refine Tr.seq ?_
      refine Tr.region_f (fun _ => false) ?_
      refine W.q rfl rfl rfl rfl (by decide) (Yd.mv rfl (.t rfl)) ?_
      refine W.q rfl rfl rfl rfl (by decide) (Yd.as rfl .c) ?_
      refine W.q rfl rfl rfl rfl (by decide) (Yd.as rfl (.t rfl)) ?_
      refine W.end ?_
      refine NX.sub (env' := [(4, _), (5, _)]) ⟨rfl, rfl, trivial⟩ ?_
      refine NX.drop (l' := l) (.cons _ (.refl _)) ?_
      refine NX.then ?_
      refine Tr.ret' (RT.then ?_)
      refine res2 rfl rfl rfl ?_
      intro w hc
      cases hr
      exact ⟨_, rfl, (cX_nil hc)⟩
    · have hr := cond_f hb hr
      refine Tr.skip' ?_
      refine NX.then ?_
      refine Tr.seq ?_
      refine Tr.seq ?_
      refine Tr.region_f (fun _ => false) ?_
      refine W.q rfl rfl rfl rfl (by decide) (Yd.fldB rfl Try.underlying47 rfl SZ3 rfl (.t rfl)) ?_
      refine W.q rfl rfl rfl rfl (by decide) (Yd.ldB (pos := 0) rfl rfl rfl ON3 (.t rfl)) ?_
      refine W.end ?_
      refine NX.sub (env' := [(0, _), (3, _), (23, _)]) ⟨rfl, rfl, rfl, trivial⟩ ?_
      refine NX.then ?_
      refine Tr.block ?_
      refine Tr.seq ?_
      refine Tr.region_f (fun _ => false) ?_
      refine W.q rfl rfl rfl rfl (by decide) (Yd.eql rfl (.t rfl) .c) ?_
      refine W.q rfl rfl rfl rfl (by decide) (Yd.as rfl (.t rfl)) ?_
      refine W.end ?_
      refine NX.sub (env' := [(0, _), (3, _), (23, _), (24, _)]) ⟨rfl, rfl, rfl, rfl, trivial⟩ ?_
      refine NX.then ?_
      refine Tr.cond (.t rfl) (fun hb => ?_) (fun hb => ?_)
      · have hr := cond_t hb hr
        refine Tr.seq ?_
        obtain ⟨r7, hr8, hr⟩ := bind_some hr
        refine Tr.region_f (fun i => Nat.beq i 2) ?_
        refine W.q rfl rfl rfl rfl (by decide) (Yd.mv rfl (.t rfl)) ?_
        refine W.q rfl rfl rfl rfl (by decide) (Yd.ldBs (pos := 0) (us := [_, _, _, _, _]) rfl rfl rfl rfl ON47 US47 SZ47 (.t rfl)) ?_
        refine W.e rfl rfl rfl rfl (by decide) (Ef.call (R := fun z x' => ∃ v9 : Value, z = .tuple #[v9, .int .i64 r7.2] ∧ x' = ⟨m, hownT 42 4 Leaf.enc v9 r7.1 :: hcells b1 [.int .i64 s_1.kind, .int .i64 s_1.who.level, .int .u32 (s_1.who.parts.toNat : Int), us_1_2, .int .i64 s_1.text] 47 :: l⟩) rfl Try.func42 rfl rfl (.cons (.t rfl) (.cons (.t rfl) .nil)) (fun w hw => (pen_put_ok w0 _ _ fuel _ _ hl_0 _ _ hs_1_2 _ hr8 w hw).mono fun e w' ⟨v9, he, hc'⟩ => ⟨_, _, he, ⟨v9, rfl, rfl⟩, hc'⟩)) ?_
        rintro _ _ ⟨v9, rfl, rfl⟩
        refine ⟨.inl rfl, ?_⟩
        refine W.cast (m' := m) (l' := hownT 42 4 Leaf.enc v9 _ :: hcells b1 [_, _, _, _, _] 47 :: l) rfl rfl ?_
        refine W.q rfl rfl rfl rfl (by decide) (Yd.ext rfl (.t rfl) rfl) ?_
        refine W.q rfl rfl rfl rfl (by decide) (Yd.ext rfl (.t rfl) rfl) ?_
        refine W.q rfl rfl rfl rfl (by decide) (Yd.as rfl (.t rfl)) ?_
        refine W.q rfl rfl rfl rfl (by decide) (Yd.as rfl (.t rfl)) ?_
        refine W.end ?_
        refine NX.sub (env' := [(4, _), (5, _)]) ⟨rfl, rfl, trivial⟩ ?_
        refine NX.drop (l' := hownT 42 4 Leaf.enc v9 _ :: l) (.cons_cons _ (.cons _ (.refl _))) ?_
        refine NX.then ?_
        refine Tr.ret' (RT.block (RT.then ?_))
        refine res2 rfl rfl rfl ?_
        intro w hc
        cases hr
        exact ⟨_, rfl, hc⟩
      · have hr := cond_f hb hr
        refine Tr.seq ?_
        refine Tr.seq ?_
        refine Tr.region_f (fun _ => false) ?_
        refine W.q rfl rfl rfl rfl (by decide) (Yd.eql rfl (.t rfl) .c) ?_
        refine W.q rfl rfl rfl rfl (by decide) (Yd.as rfl (.t rfl)) ?_
        refine W.end ?_
        refine NX.sub (env' := [(0, _), (3, _), (23, _), (31, _)]) ⟨rfl, rfl, rfl, rfl, trivial⟩ ?_
        refine NX.then ?_
        refine Tr.join (S := fun env x => ∃ t_11 : Bool, env = [(0, ul_0), (3, bp b1 0), (31, .bool t_11)] ∧ x = ⟨m, hcells b1 [.int .i64 s_1.kind, .int .i64 s_1.who.level, .int .u32 (s_1.who.parts.toNat : Int), us_1_2, .int .i64 s_1.text] 47 :: l⟩ ∧ pen_Do_k12 l_0 s_1 t_11 = some r) ?_ (fun hk13 => ?_)
        · rintro _ _ ⟨t_11, rfl, rfl, hr⟩
          unfold pen_Do_k12 at hr
          try dsimp only at hr
          refine NX.then ?_
          refine Tr.cond (.t rfl) (fun hb => ?_) (fun hb => ?_)
          · have hr := cond_t hb hr
            refine Tr.skip' ?_
            refine NX.block ?_
            refine NX.then ?_
            refine Tr.seq ?_
            obtain ⟨r14, hr15, hr⟩ := bind_some hr
            refine Tr.region_f (fun _ => false) ?_
            refine W.q rfl rfl rfl rfl (by decide) (Yd.mv rfl (.t rfl)) ?_
            refine W.q rfl rfl rfl rfl (by decide) (Yd.fldB rfl Try.underlying47 rfl SZ25 rfl (.t rfl)) ?_
            refine W.q rfl rfl rfl rfl (by decide) (Yd.ldBs (pos := 0) (us := [_, _]) rfl rfl rfl rfl ON25 US25 SZ25 (.t rfl)) ?_
            refine W.q rfl rfl rfl rfl (by decide) (Yd.fldB rfl Try.underlying47 rfl SZ33 rfl (.t rfl)) ?_
            refine W.q rfl rfl rfl rfl (by decide) (Yd.ldB (pos := 0) rfl rfl rfl ON33 (.t rfl)) ?_
            refine W.q rfl rfl rfl rfl (by decide) (Yd.call (v := .tuple #[.int .i64 r14.1, .int .i64 r14.2]) rfl Try.func16 rfl rfl (.cons (.t rfl) (.cons (.t rfl) (.cons (.t rfl) .nil))) (fun x' hx w hw => place_Find_ok w0 x'.m x'.l _ _ (hl_0.mono hx.1) (({ level := s_1.who.level, parts := s_1.who.parts } : Label)) _ _ (hs_1_2.mono hx.1) _ hr15 w hw)) ?_
            refine W.q rfl rfl rfl rfl (by decide) (Yd.mv rfl (.t rfl)) ?_
            refine W.q rfl rfl rfl rfl (by decide) (Yd.ext rfl (.t rfl) rfl) ?_
            refine W.q rfl rfl rfl rfl (by decide) (Yd.ext rfl (.t rfl) rfl) ?_
            refine W.q rfl rfl rfl rfl (by decide) (Yd.as rfl (.t rfl)) ?_
            refine W.q rfl rfl rfl rfl (by decide) (Yd.as rfl (.t rfl)) ?_
            refine W.end ?_
            refine NX.sub (env' := [(0, _), (3, _), (8, _), (9, _)]) ⟨rfl, rfl, rfl, rfl, trivial⟩ ?_
            refine NX.then ?_
            refine Tr.seq ?_
            refine Tr.seq ?_
            refine Tr.region_f (fun _ => false) ?_
            refine W.q rfl rfl rfl rfl (by decide) (Yd.mv rfl (.t rfl)) ?_
            refine W.q rfl rfl rfl rfl (by decide) (Yd.neq rfl (.t rfl) .c) ?_
            refine W.end ?_
            refine NX.sub (env' := [(0, _), (3, _), (8, _), (9, _), (44, _)]) ⟨rfl, rfl, rfl, rfl, rfl, trivial⟩ ?_
            refine NX.then ?_
            refine Tr.cond (.t rfl) (fun hb => ?_) (fun hb => ?_)
            · have hr := cond_t hb hr
              refine Tr.seq ?_
              refine Tr.region_f (fun _ => false) ?_
              refine W.q rfl rfl rfl rfl (by decide) (Yd.mv rfl (.t rfl)) ?_
              refine W.q rfl rfl rfl rfl (by decide) (Yd.as rfl .c) ?_
              refine W.q rfl rfl rfl rfl (by decide) (Yd.as rfl (.t rfl)) ?_
              refine W.end ?_
              refine NX.sub (env' := [(4, _), (5, _)]) ⟨rfl, rfl, trivial⟩ ?_
              refine NX.drop (l' := l) (.cons _ (.refl _)) ?_
              refine NX.then ?_
              refine Tr.ret' (RT.then ?_)
              refine res2 rfl rfl rfl ?_
              intro w hc
              cases hr
              exact ⟨_, rfl, (cX_nil hc)⟩
            · have hr := cond_f hb hr
              refine Tr.skip' ?_
              refine NX.then ?_
              refine Tr.seq ?_
              refine Tr.seq ?_
              obtain ⟨y16, hy17, hr⟩ := bind_some hr
              refine Tr.region_x (fun _ => false) (fun _ => false) (Ord.of [0, 1, 2, 3, 4, 5, 6, 7]) FM (by kernel_rfl) ?_
              refine W.q rfl rfl rfl rfl (by decide) (Yd.mv rfl (.t rfl)) ?_
              refine W.q rfl rfl rfl rfl (by decide) (Yd.mv rfl (.t rfl)) ?_
              refine W.q rfl rfl rfl rfl (by decide) (Yd.idxR hl_0 hy17 rfl Try.underlying22 SZ42 (.t rfl) (.t rfl)) ?_
              refine W.q rfl rfl rfl rfl (by decide) (Yd.fldA rfl Try.underlying42 rfl SZ25 rfl (adr_head hl_0 hy17) (.t rfl)) ?_
              refine W.q rfl rfl rfl rfl (by decide) (Yd.ldFp (us := [_, _]) hl_0 (.refl _) hy17 rfl rfl rfl ON25 US25 SZ25 (.t rfl)) ?_
              refine W.q rfl rfl rfl rfl (by decide) (Yd.fldB rfl Try.underlying47 rfl SZ25 rfl (.t rfl)) ?_
              refine W.q rfl rfl rfl rfl (by decide) (Yd.ldBs (pos := 0) (us := [_, _]) rfl rfl rfl rfl ON25 US25 SZ25 (.t rfl)) ?_
              refine W.q rfl rfl rfl rfl (by decide) (Yd.neA rfl GU25 (fun w => ne_of_eq (EQ25 w y16.label.level y16.label.parts s_1.who.level s_1.who.parts)) (.t rfl) (.t rfl)) ?_
              refine W.end ?_
              refine NX.sub (env' := [(0, _), (3, _), (8, _), (53, _)]) ⟨rfl, rfl, rfl, rfl, trivial⟩ ?_
              refine NX.then ?_
              refine Tr.cond (.t rfl) (fun hb => ?_) (fun hb => ?_)
              · have hr := cond_t hb hr
                refine Tr.seq ?_
                refine Tr.region_f (fun _ => false) ?_
                refine W.q rfl rfl rfl rfl (by decide) (Yd.as rfl .c) ?_
                refine W.q rfl rfl rfl rfl (by decide) (Yd.as rfl .c) ?_
                refine W.end ?_
                refine NX.sub (env' := [(4, _), (5, _)]) ⟨rfl, rfl, trivial⟩ ?_
                refine NX.drop (l' := l) (.cons _ (.refl _)) ?_
                refine NX.then ?_
                refine Tr.ret' (RT.then ?_)
                refine res2 rfl rfl rfl ?_
                intro w hc
                cases hr
                exact ⟨_, rfl, (cX_nil hc)⟩
              · have hr := cond_f hb hr
                refine Tr.skip' ?_
                refine NX.then ?_
                refine Tr.seq ?_
                refine Tr.seq ?_
                refine Tr.region_f (fun _ => false) ?_
                refine W.q rfl rfl rfl rfl (by decide) (Yd.fldB rfl Try.underlying47 rfl SZ3 rfl (.t rfl)) ?_
                refine W.q rfl rfl rfl rfl (by decide) (Yd.ldB (pos := 0) rfl rfl rfl ON3 (.t rfl)) ?_
                refine W.q rfl rfl rfl rfl (by decide) (Yd.eql rfl (.t rfl) .c) ?_
                refine W.end ?_
                refine NX.sub (env' := [(0, _), (3, _), (8, _), (56, _)]) ⟨rfl, rfl, rfl, rfl, trivial⟩ ?_
                refine NX.then ?_
                refine Tr.cond (.t rfl) (fun hb => ?_) (fun hb => ?_)
                · have hr := cond_t hb hr
                  refine Tr.seq ?_
                  obtain ⟨r18, hr19, hr⟩ := bind_some hr
                  refine Tr.region_f (fun i => Nat.beq i 2) ?_
                  refine W.q rfl rfl rfl rfl (by decide) (Yd.mv rfl (.t rfl)) ?_
                  refine W.q rfl rfl rfl rfl (by decide) (Yd.mv rfl (.t rfl)) ?_
                  refine W.e rfl rfl rfl rfl (by decide) (Ef.call (R := fun z x' => ∃ v20 : Value, z = v20 ∧ x' = ⟨m, hownT 42 4 Leaf.enc v20 r18 :: hcells b1 [.int .i64 s_1.kind, .int .i64 s_1.who.level, .int .u32 (s_1.who.parts.toNat : Int), us_1_2, .int .i64 s_1.text] 47 :: l⟩) rfl Try.func43 rfl rfl (.cons (.t rfl) (.cons (.t rfl) .nil)) (fun w hw => (pen_drop_ok w0 _ _ _ _ hl_0 r14.1 _ hr19 w hw).mono fun e w' ⟨v20, he, hc'⟩ => ⟨_, _, he, ⟨v20, rfl, rfl⟩, hc'⟩)) ?_
                  rintro v20 _ ⟨_, rfl, rfl⟩
                  refine ⟨.inl rfl, ?_⟩
                  refine W.cast (m' := m) (l' := hownT 42 4 Leaf.enc v20 _ :: hcells b1 [_, _, _, _, _] 47 :: l) rfl rfl ?_
                  refine W.q rfl rfl rfl rfl (by decide) (Yd.as rfl (.t rfl)) ?_
                  refine W.q rfl rfl rfl rfl (by decide) (Yd.as rfl .c) ?_
                  refine W.end ?_
                  refine NX.sub (env' := [(4, _), (5, _)]) ⟨rfl, rfl, trivial⟩ ?_
                  refine NX.drop (l' := hownT 42 4 Leaf.enc v20 _ :: l) (.cons_cons _ (.cons _ (.refl _))) ?_
                  refine NX.then ?_
                  refine Tr.ret' (RT.then ?_)
                  refine res2 rfl rfl rfl ?_
                  intro w hc
                  cases hr
                  exact ⟨_, rfl, hc⟩
                · have hr := cond_f hb hr
                  refine Tr.skip' ?_
                  refine NX.then ?_
                  refine Tr.seq ?_
                  obtain ⟨r22, hr23, hr⟩ := bind_some hr
                  refine Tr.region_f (fun i => Nat.beq i 1) ?_
                  refine W.q rfl rfl rfl rfl (by decide) (Yd.mv rfl (.t rfl)) ?_
                  refine W.e rfl rfl rfl rfl (by decide) (Ef.call (R := fun z x' => ∃ v24 : Value, z = v24 ∧ x' = ⟨m, hownT 42 4 Leaf.enc v24 r22 :: hcells b1 [.int .i64 s_1.kind, .int .i64 s_1.who.level, .int .u32 (s_1.who.parts.toNat : Int), us_1_2, .int .i64 s_1.text] 47 :: l⟩) rfl Try.func44 rfl rfl (.cons (.t rfl) .nil) (fun w hw => (slices_Clone_SapiLeafapiLeaf_ok w0 _ _ _ _ hl_0 _ hr23 w hw).mono fun e w' ⟨v24, he, hc'⟩ => ⟨_, _, he, ⟨v24, rfl, rfl⟩, hc'⟩)) ?_
                  rintro v24 _ ⟨_, rfl, rfl⟩
                  refine ⟨.inl rfl, ?_⟩
                  refine W.cast (m' := m) (l' := hownT 42 4 Leaf.enc v24 _ :: hcells b1 [_, _, _, _, _] 47 :: l) rfl rfl ?_
                  refine W.q rfl rfl rfl rfl (by decide) (Yd.as rfl (.t rfl)) ?_
                  refine W.end ?_
                  refine NX.sub (env' := [(3, _), (8, _), (10, _)]) ⟨rfl, rfl, rfl, trivial⟩ ?_
                  refine NX.then ?_
                  refine Tr.seq ?_
                  obtain ⟨y26, hy27, hr⟩ := bind_some hr
                  refine Tr.region_f (fun i => Nat.beq i 6) ?_
                  refine W.q rfl rfl rfl rfl (by decide) (Yd.mv rfl (.t rfl)) ?_
                  refine W.q rfl rfl rfl rfl (by decide) (Yd.mv rfl (.t rfl)) ?_
                  refine W.q rfl rfl rfl rfl (by decide) (Yd.fldB rfl Try.underlying47 rfl SZ3 rfl (.t rfl)) ?_
                  refine W.q rfl rfl rfl rfl (by decide) (Yd.ldB (pos := 1) rfl rfl rfl ON3 (.t rfl)) ?_
                  refine W.q rfl rfl rfl rfl (by decide) (Yd.idxT (pos := 0) rfl hy27 rfl Try.underlying22 SZ42 (.t rfl) (.t rfl)) ?_
                  refine W.q rfl rfl rfl rfl (by decide) (Yd.fldT (pos := 0) rfl hy27 rfl Try.underlying42 rfl SZ3 rfl (.t rfl)) ?_
                  refine W.s rfl rfl rfl rfl (Ef.stTf (enc := Leaf.enc) (n := 4) (pos := 0) (y := ({ up := y26.up, text := s_1.text, label := ({ level := y26.label.level, parts := y26.label.parts } : Label) } : Leaf)) (us := [_]) (fun _ => rfl) rfl hy27 rfl (.t rfl) (.t rfl) SZ3 rfl rfl rfl rfl (by decide) (Nat.le_of_ble_eq_true rfl)) ?_
                  rintro _ _ ⟨rfl, rfl⟩
                  refine ⟨.inl rfl, ?_⟩
                  refine W.cast (m' := m) (l' := hownT 42 4 Leaf.enc v24 _ :: hcells b1 [_, _, _, _, _] 47 :: l) rfl rfl ?_
                  refine W.end ?_
                  refine NX.sub (env' := [(10, _)]) ⟨rfl, trivial⟩ ?_
                  refine NX.drop (l' := hownT 42 4 Leaf.enc v24 _ :: l) (.cons_cons _ (.cons _ (.refl _))) ?_
                  refine NX.then ?_
                  refine Tr.seq ?_
                  refine Tr.region_f (fun _ => false) ?_
                  refine W.q rfl rfl rfl rfl (by decide) (Yd.mv rfl (.t rfl)) ?_
                  refine W.q rfl rfl rfl rfl (by decide) (Yd.as rfl (.t rfl)) ?_
                  refine W.q rfl rfl rfl rfl (by decide) (Yd.as rfl .c) ?_
                  refine W.end ?_
                  refine NX.sub (env' := [(4, _), (5, _)]) ⟨rfl, rfl, trivial⟩ ?_
                  refine NX.then ?_
                  refine Tr.ret' ?_
                  refine res2 rfl rfl rfl ?_
                  intro w hc
                  cases hr
                  exact ⟨_, rfl, hc⟩
          · have hr := cond_f hb hr
            refine Tr.seq ?_
            refine Tr.region_f (fun _ => false) ?_
            refine W.q rfl rfl rfl rfl (by decide) (Yd.as rfl .c) ?_
            refine W.q rfl rfl rfl rfl (by decide) (Yd.as rfl .c) ?_
            refine W.end ?_
            refine NX.sub (env' := [(4, _), (5, _)]) ⟨rfl, rfl, trivial⟩ ?_
            refine NX.drop (l' := l) (.cons _ (.refl _)) ?_
            refine NX.then ?_
            refine Tr.ret' (RT.block (RT.then ?_))
            refine res2 rfl rfl rfl ?_
            intro w hc
            cases hr
            exact ⟨_, rfl, (cX_nil hc)⟩
        refine Tr.cond (.t rfl) (fun hb => ?_) (fun hb => ?_)
        · have hr := cond_t hb hr
          refine Tr.skip' ?_
          refine NX.sub (env' := [(0, _), (3, _), (31, _)]) ⟨rfl, rfl, rfl, trivial⟩ ?_
          exact hk13 _ _ ⟨_, rfl, rfl, hr⟩
        · have hr := cond_f hb hr
          refine Tr.region_f (fun _ => false) ?_
          refine W.q rfl rfl rfl rfl (by decide) (Yd.eql rfl (.t rfl) .c) ?_
          refine W.q rfl rfl rfl rfl (by decide) (Yd.as rfl (.t rfl)) ?_
          refine W.end ?_
          refine NX.sub (env' := [(0, _), (3, _), (31, _)]) ⟨rfl, rfl, rfl, trivial⟩ ?_
          refine NX.sub (env' := [(0, _), (3, _), (31, _)]) ⟨rfl, rfl, rfl, trivial⟩ ?_
          exact hk13 _ _ ⟨_, rfl, rfl, hr⟩

def syllogistref_Put_k32 (l30 : List Leaf) : Option ((List Leaf) × Int) :=
  some ((l30, (0 : Int)))

def syllogistref_Put_k39 (l_0 : List Leaf) (at_20 : Int) (i_27 : Int) (nx35 : ((Int × (List Leaf)) → Option ((List Leaf) × Int))) (l37 : List Leaf) : Option ((List Leaf) × Int) :=
  (bif (decide (i_27 < (l_0.length : Int))) then
  (geti l_0 i_27).bind fun y41 =>
  (bif (decide (y41.up ≥ at_20)) then
  bif decide (l37.length + (([({ up := (w64 (y41.up + (1 : Int))), text := y41.text, label := ({ level := y41.label.level, parts := y41.label.parts } : Label) } : Leaf)] : List Leaf)).length ≤ 4398046511104) then
  nx35 ((w64 (i_27 + (1 : Int))), (l37 ++ ([({ up := (w64 (y41.up + (1 : Int))), text := y41.text, label := ({ level := y41.label.level, parts := y41.label.parts } : Label) } : Leaf)] : List Leaf))) else none
  else
  bif decide (l37.length + (([({ up := y41.up, text := y41.text, label := ({ level := y41.label.level, parts := y41.label.parts } : Label) } : Leaf)] : List Leaf)).length ≤ 4398046511104) then
  nx35 ((w64 (i_27 + (1 : Int))), (l37 ++ ([({ up := y41.up, text := y41.text, label := ({ level := y41.label.level, parts := y41.label.parts } : Label) } : Leaf)] : List Leaf))) else none)
  else
  nx35 ((w64 (i_27 + (1 : Int))), l37))

def syllogistref_Put_b34 (l_0 : List Leaf) (s_1 : Stroke) (up_5 : Int) (at_20 : Int) (i_27 : Int) (l28 : List Leaf) (nx35 : (Int × (List Leaf)) → Option ((List Leaf) × Int)) : Option ((List Leaf) × Int) :=
  (bif (decide (i_27 ≤ (l_0.length : Int))) then
  (bif (i_27 == at_20) then
  bif decide (l28.length + (([({ up := up_5, text := s_1.text, label := ({ level := s_1.who.level, parts := s_1.who.parts } : Label) } : Leaf)] : List Leaf)).length ≤ 4398046511104) then
  syllogistref_Put_k39 l_0 at_20 i_27 nx35 ((l28 ++ ([({ up := up_5, text := s_1.text, label := ({ level := s_1.who.level, parts := s_1.who.parts } : Label) } : Leaf)] : List Leaf))) else none
  else
  syllogistref_Put_k39 l_0 at_20 i_27 nx35 l28)
  else
  syllogistref_Put_k32 l28)

def syllogistref_Put_k21 (l_0 : List Leaf) (s_1 : Stroke) (fuel : Nat) (up_5 : Int) (own_17 : Int) (at_20 : Int) : Option ((List Leaf) × Int) :=
  (bif (decide (at_20 < (0 : Int))) then
  some (([], (5 : Int)))
  else
  (bif ((decide (own_17 ≥ (4 : Int))) || (decide ((l_0.length : Int) ≥ (40 : Int)))) then
  some (([], (1 : Int)))
  else
  whileK (σ := Int × (List Leaf)) (fun s nx_ => syllogistref_Put_b34 l_0 s_1 up_5 at_20 s.1 s.2 nx_) fuel (((0 : Int)), (([] : List Leaf)))))

def syllogistref_Put_k18 (l_0 : List Leaf) (s_1 : Stroke) (fuel : Nat) (y3 : Int) (up_5 : Int) (at_16 : Int) (own_17 : Int) : Option ((List Leaf) × Int) :=
  (bif (y3 == (0 : Int)) then
  syllogistref_Put_k21 l_0 s_1 fuel up_5 own_17 ((w64 (up_5 + (1 : Int))))
  else
  syllogistref_Put_k21 l_0 s_1 fuel up_5 own_17 at_16)

def syllogistref_Put_k67 (s_1 : Stroke) (y3 : Int) (up_5 : Int) (t_58 : Int) (at_12 : Int) (seen_13 : Int) (nx60 : ((Int × Int × Int) → Option ((List Leaf) × Int))) (y62 : Leaf) (own_66 : Int) : Option ((List Leaf) × Int) :=
  bif (!((y62.up == up_5) == true) || (syllogistref_Below (({ level := y62.label.level, parts := y62.label.parts } : Label)) (({ level := s_1.who.level, parts := s_1.who.parts } : Label))).isSome) then
  (bif ((y62.up == up_5) && (((syllogistref_Below (({ level := y62.label.level, parts := y62.label.parts } : Label)) (({ level := s_1.who.level, parts := s_1.who.parts } : Label))).getD false))) then
  (bif ((w64 (seen_13 + (1 : Int))) == y3) then
  nx60 ((w64 (t_58 + (1 : Int))), (w64 (seen_13 + (1 : Int))), own_66)
  else
  nx60 (at_12, (w64 (seen_13 + (1 : Int))), own_66))
  else
  nx60 (at_12, seen_13, own_66)) else none

def syllogistref_Put_b59 (l_0 : List Leaf) (s_1 : Stroke) (y3 : Int) (up_5 : Int) (t_58 : Int) (at_12 : Int) (seen_13 : Int) (own_14 : Int) (nx60 : (Int × Int × Int) → Option ((List Leaf) × Int)) : Option ((List Leaf) × Int) :=
  (geti l_0 t_58).bind fun y62 =>
  (bif ((y62.label.level == s_1.who.level) && ((y62.label.parts == s_1.who.parts) && true)) then
  syllogistref_Put_k67 s_1 y3 up_5 t_58 at_12 seen_13 nx60 y62 ((w64 (own_14 + (1 : Int))))
  else
  syllogistref_Put_k67 s_1 y3 up_5 t_58 at_12 seen_13 nx60 y62 own_14)

def syllogistref_Put_k6 (l_0 : List Leaf) (s_1 : Stroke) (fuel : Nat) (y3 : Int) (up_5 : Int) : Option ((List Leaf) × Int) :=
  forK (σ := Int × Int × Int) (fun i s nx_ => syllogistref_Put_b59 l_0 s_1 y3 up_5 i s.1 s.2.1 s.2.2 nx_) (fun s => syllogistref_Put_k18 l_0 s_1 fuel y3 up_5 s.1 s.2.2) ((l_0.length : Int) - (0 : Int)).toNat (0 : Int) (((-1 : Int)), ((0 : Int)), ((0 : Int)))

def syllogistref_Put (fuel : Nat) (l_0 : List Leaf) (s_1 : Stroke) : Option ((List Leaf) × Int) :=
  (bif ((s_1.path.length : Int) == (0 : Int)) then
  some (([], (5 : Int)))
  else
  (geti s_1.path ((w64 ((s_1.path.length : Int) - (1 : Int))))).bind fun y3 =>
  (bif (decide ((s_1.path.length : Int) > (1 : Int))) then
  bif decide (0 ≤ (w64 ((s_1.path.length : Int) - (1 : Int))) ∧ (w64 ((s_1.path.length : Int) - (1 : Int))) ≤ (s_1.path.length : Int)) then
  (syllogistref_Found fuel l_0 (({ level := s_1.who.level, parts := s_1.who.parts } : Label)) ((s_1.path.take ((w64 ((s_1.path.length : Int) - (1 : Int)))).toNat))).bind fun r72 =>
  (bif (decide (r72 < (0 : Int))) then
  some (([], (5 : Int)))
  else
  syllogistref_Put_k6 l_0 s_1 fuel y3 r72) else none
  else
  syllogistref_Put_k6 l_0 s_1 fuel y3 ((-1 : Int))))

set_option maxRecDepth 100000 in
set_option maxHeartbeats 4000000 in
theorem syllogistref_Put_ok (w0 : World) (m : Snap) (l : List HI) (fuel : Nat) (ul_0 : Value) (l_0 : List Leaf) (hl_0 : RS rLeaf m ul_0 l_0) (s_1 : Stroke) (us_1_2 : Value) (hs_1_2 : RS rI m us_1_2 s_1.path) (r : (List Leaf) × Int) (hr : syllogistref_Put fuel l_0 s_1 = some r) (w : World) (hc : cX w0 ⟨m, l⟩ w) :
    Calls Try.prog 45 [ul_0, .agg #[.int .i64 s_1.kind, .int .i64 s_1.who.level, .int .u32 (s_1.who.parts.toNat : Int), us_1_2, .int .i64 s_1.text]].toArray w fun e w' => ∃ z0 : Value, e = .returned (.tuple #[z0, .int .i64 r.2]) ∧ cX w0 ⟨m, hownT 42 4 Leaf.enc z0 r.1 :: l⟩ w' := by
  unfold syllogistref_Put at hr
  refine calls_of_Tr (N := 130) Try.func45 rfl hc rfl (Nat.le_of_ble_eq_true rfl) ?_
  refine Tr.seq ?_
  refine Tr.region_f (fun i => Nat.beq i 0) ?_
  refine W.e rfl rfl rfl rfl (by decide) (Ef.bx rfl (.t rfl) rfl) ?_
  rintro _ _ ⟨b1, rfl, rfl⟩
  refine ⟨.inl rfl, ?_⟩
  refine W.cast (m' := m) (l' := hcells b1 [_, _, _, _, _] 47 :: l) rfl rfl ?_
  refine W.q rfl rfl rfl rfl (by decide) (Yd.as rfl .c) ?_
  refine W.q rfl rfl rfl rfl (by decide) (Yd.as rfl .c) ?_
  refine W.end ?_
  refine NX.sub (env' := [(0, _), (3, _)]) ⟨rfl, rfl, trivial⟩ ?_
  refine NX.then ?_
  refine Tr.seq ?_
  refine Tr.seq ?_
  refine Tr.region_f (fun _ => false) ?_
  refine W.q rfl rfl rfl rfl (by decide) (Yd.fldB rfl Try.underlying47 rfl SZ33 rfl (.t rfl)) ?_
  refine W.q rfl rfl rfl rfl (by decide) (Yd.ldB (pos := 0) rfl rfl rfl ON33 (.t rfl)) ?_
  refine W.q rfl rfl rfl rfl (by decide) (Yd.lenR hs_1_2 rfl Try.underlying33 (.t rfl)) ?_
  refine W.q rfl rfl rfl rfl (by decide) (Yd.eql rfl (.t rfl) .c) ?_
  refine W.end ?_
  refine NX.sub (env' := [(0, _), (3, _), (19, _)]) ⟨rfl, rfl, rfl, trivial⟩ ?_
  refine NX.then ?_
  refine Tr.cond (.t rfl) (fun hb => ?_) (fun hb => ?_)
  · have hr := cond_t hb hr
    refine Tr.seq ?_
    refine Tr.region_f (fun _ => false) ?_
    refine W.q rfl rfl rfl rfl (by decide) (Yd.as rfl .c) ?_
    refine W.q rfl rfl rfl rfl (by decide) (Yd.as rfl .c) ?_
    refine W.end ?_
    refine NX.sub (env' := [(4, _), (5, _)]) ⟨rfl, rfl, trivial⟩ ?_
    refine NX.drop (l' := l) (.cons _ (.refl _)) ?_
    refine NX.then ?_
    refine Tr.ret' (RT.then ?_)
    refine res2 rfl rfl rfl ?_
    intro w hc
    cases hr
    exact ⟨_, rfl, (cX_nil hc)⟩
  · have hr := cond_f hb hr
    refine Tr.skip' ?_
    refine NX.then ?_
    refine Tr.seq ?_
    obtain ⟨y3, hy4, hr⟩ := bind_some hr
    refine Tr.region_f (fun _ => false) ?_
    refine W.q rfl rfl rfl rfl (by decide) (Yd.fldB rfl Try.underlying47 rfl SZ33 rfl (.t rfl)) ?_
    refine W.q rfl rfl rfl rfl (by decide) (Yd.ldB (pos := 0) rfl rfl rfl ON33 (.t rfl)) ?_
    refine W.q rfl rfl rfl rfl (by decide) (Yd.fldB rfl Try.underlying47 rfl SZ33 rfl (.t rfl)) ?_
    refine W.q rfl rfl rfl rfl (by decide) (Yd.ldB (pos := 0) rfl rfl rfl ON33 (.t rfl)) ?_
    refine W.q rfl rfl rfl rfl (by decide) (Yd.lenR hs_1_2 rfl Try.underlying33 (.t rfl)) ?_
    refine W.q rfl rfl rfl rfl (by decide) (Yd.sub rfl (.t rfl) .c) ?_
    refine W.q rfl rfl rfl rfl (by decide) (Yd.idxR hs_1_2 hy4 rfl Try.underlying33 SZ3 (.t rfl) (.t rfl)) ?_
    refine W.q rfl rfl rfl rfl (by decide) (Yd.ldF hs_1_2 (.refl _) hy4 rfl rfl ON3 (.t rfl)) ?_
    refine W.q rfl rfl rfl rfl (by decide) (Yd.as rfl (.t rfl)) ?_
    refine W.end ?_
    refine NX.sub (env' := [(0, _), (3, _), (6, _)]) ⟨rfl, rfl, rfl, trivial⟩ ?_
    refine NX.then ?_
    refine Tr.seq ?_
    refine Tr.region_f (fun _ => false) ?_
    refine W.q rfl rfl rfl rfl (by decide) (Yd.as rfl .c) ?_
    refine W.end ?_
    refine NX.sub (env' := [(0, _), (3, _), (6, _), (7, _)]) ⟨rfl, rfl, rfl, rfl, trivial⟩ ?_
    refine NX.then ?_
    refine Tr.seq ?_
    refine Tr.seq ?_
    refine Tr.region_f (fun _ => false) ?_
    refine W.q rfl rfl rfl rfl (by decide) (Yd.fldB rfl Try.underlying47 rfl SZ33 rfl (.t rfl)) ?_
    refine W.q rfl rfl rfl rfl (by decide) (Yd.ldB (pos := 0) rfl rfl rfl ON33 (.t rfl)) ?_
    refine W.q rfl rfl rfl rfl (by decide) (Yd.lenR hs_1_2 rfl Try.underlying33 (.t rfl)) ?_
    refine W.q rfl rfl rfl rfl (by decide) (Yd.gtr rfl (.t rfl) .c) ?_
    refine W.end ?_
    refine NX.sub (env' := [(0, _), (3, _), (6, _), (7, _), (31, _)]) ⟨rfl, rfl, rfl, rfl, rfl, trivial⟩ ?_
    refine NX.then ?_
    refine Tr.join (S := fun env x => ∃ up_5 : Int, env = [(0, ul_0), (3, bp b1 0), (6, .int .i64 y3), (7, .int .i64 up_5)] ∧ x = ⟨m, hcells b1 [.int .i64 s_1.kind, .int .i64 s_1.who.level, .int .u32 (s_1.who.parts.toNat : Int), us_1_2, .int .i64 s_1.text] 47 :: l⟩ ∧ syllogistref_Put_k6 l_0 s_1 fuel y3 up_5 = some r) ?_ (fun hk7 => ?_)
    · rintro _ _ ⟨up_5, rfl, rfl, hr⟩
      unfold syllogistref_Put_k6 at hr
      try dsimp only at hr
      refine NX.then ?_
      refine Tr.seq ?_
      refine Tr.region_f (fun _ => false) ?_
      refine W.q rfl rfl rfl rfl (by decide) (Yd.as rfl .c) ?_
      refine W.end ?_
      refine NX.sub (env' := [(0, _), (3, _), (6, _), (7, _), (8, _)]) ⟨rfl, rfl, rfl, rfl, rfl, trivial⟩ ?_
      refine NX.then ?_
      refine Tr.seq ?_
      refine Tr.region_f (fun _ => false) ?_
      refine W.q rfl rfl rfl rfl (by decide) (Yd.as rfl .c) ?_
      refine W.end ?_
      refine NX.sub (env' := [(0, _), (3, _), (6, _), (7, _), (8, _), (9, _)]) ⟨rfl, rfl, rfl, rfl, rfl, rfl, trivial⟩ ?_
      refine NX.then ?_
      refine Tr.seq ?_
      refine Tr.region_f (fun _ => false) ?_
      refine W.q rfl rfl rfl rfl (by decide) (Yd.as rfl .c) ?_
      refine W.end ?_
      refine NX.sub (env' := [(0, _), (3, _), (6, _), (7, _), (8, _), (9, _), (10, _)]) ⟨rfl, rfl, rfl, rfl, rfl, rfl, rfl, trivial⟩ ?_
      refine NX.then ?_
      refine Tr.seq ?_
      refine Tr.seq ?_
      refine Tr.region_f (fun _ => false) ?_
      refine W.q rfl rfl rfl rfl (by decide) (Yd.mv rfl (.t rfl)) ?_
      refine W.q rfl rfl rfl rfl (by decide) (Yd.lenR hl_0 rfl Try.underlying22 (.t rfl)) ?_
      refine W.q rfl rfl rfl rfl (by decide) (Yd.mv rfl .c) ?_
      refine W.end ?_
      refine NX.sub (env' := [(0, _), (3, _), (6, _), (7, _), (8, _), (9, _), (10, _), (45, _), (46, _), (47, _)]) ⟨rfl, rfl, rfl, rfl, rfl, rfl, rfl, rfl, rfl, rfl, trivial⟩ ?_
      refine NX.then ?_
      refine Tr.join (S := fun env x => ∃ at_16 : Int, ∃ own_17 : Int, env = [(0, ul_0), (3, bp b1 0), (6, .int .i64 y3), (7, .int .i64 up_5), (8, .int .i64 at_16), (10, .int .i64 own_17)] ∧ x = ⟨m, hcells b1 [.int .i64 s_1.kind, .int .i64 s_1.who.level, .int .u32 (s_1.who.parts.toNat : Int), us_1_2, .int .i64 s_1.text] 47 :: l⟩ ∧ syllogistref_Put_k18 l_0 s_1 fuel y3 up_5 at_16 own_17 = some r) ?_ (fun hk19 => ?_)
      · rintro _ _ ⟨at_16, own_17, rfl, rfl, hr⟩
        unfold syllogistref_Put_k18 at hr
        try dsimp only at hr
        refine NX.then ?_
        refine Tr.seq ?_
        refine Tr.seq ?_
        refine Tr.region_f (fun _ => false) ?_
        refine W.q rfl rfl rfl rfl (by decide) (Yd.mv rfl (.t rfl)) ?_
        refine W.q rfl rfl rfl rfl (by decide) (Yd.eql rfl (.t rfl) .c) ?_
        refine W.end ?_
        refine NX.sub (env' := [(0, _), (3, _), (7, _), (8, _), (10, _), (79, _)]) ⟨rfl, rfl, rfl, rfl, rfl, rfl, trivial⟩ ?_
        refine NX.then ?_
        refine Tr.join (S := fun env x => ∃ at_20 : Int, env = [(0, ul_0), (3, bp b1 0), (7, .int .i64 up_5), (8, .int .i64 at_20), (10, .int .i64 own_17)] ∧ x = ⟨m, hcells b1 [.int .i64 s_1.kind, .int .i64 s_1.who.level, .int .u32 (s_1.who.parts.toNat : Int), us_1_2, .int .i64 s_1.text] 47 :: l⟩ ∧ syllogistref_Put_k21 l_0 s_1 fuel up_5 own_17 at_20 = some r) ?_ (fun hk22 => ?_)
        · rintro _ _ ⟨at_20, rfl, rfl, hr⟩
          unfold syllogistref_Put_k21 at hr
          try dsimp only at hr
          refine NX.then ?_
          refine Tr.seq ?_
          refine Tr.seq ?_
          refine Tr.region_f (fun _ => false) ?_
          refine W.q rfl rfl rfl rfl (by decide) (Yd.mv rfl (.t rfl)) ?_
          refine W.q rfl rfl rfl rfl (by decide) (Yd.lss rfl (.t rfl) .c) ?_
          refine W.end ?_
          refine NX.sub (env' := [(0, _), (3, _), (7, _), (8, _), (10, _), (83, _)]) ⟨rfl, rfl, rfl, rfl, rfl, rfl, trivial⟩ ?_
          refine NX.then ?_
          refine Tr.cond (.t rfl) (fun hb => ?_) (fun hb => ?_)
          · have hr := cond_t hb hr
            refine Tr.seq ?_
            refine Tr.region_f (fun _ => false) ?_
            refine W.q rfl rfl rfl rfl (by decide) (Yd.as rfl .c) ?_
            refine W.q rfl rfl rfl rfl (by decide) (Yd.as rfl .c) ?_
            refine W.end ?_
            refine NX.sub (env' := [(4, _), (5, _)]) ⟨rfl, rfl, trivial⟩ ?_
            refine NX.drop (l' := l) (.cons _ (.refl _)) ?_
            refine NX.then ?_
            refine Tr.ret' (RT.then ?_)
            refine res2 rfl rfl rfl ?_
            intro w hc
            cases hr
            exact ⟨_, rfl, (cX_nil hc)⟩
          · have hr := cond_f hb hr
            refine Tr.skip' ?_
            refine NX.then ?_
            refine Tr.seq ?_
            refine Tr.seq ?_
            refine Tr.region_f (fun _ => false) ?_
            refine W.q rfl rfl rfl rfl (by decide) (Yd.mv rfl (.t rfl)) ?_
            refine W.q rfl rfl rfl rfl (by decide) (Yd.geq rfl (.t rfl) .c) ?_
            refine W.q rfl rfl rfl rfl (by decide) (Yd.mv rfl (.t rfl)) ?_
            refine W.g rfl rfl rfl rfl rfl (.t rfl _) rfl (by decide) (fun hG => Yd.mv rfl (.t rfl)) ?_
            refine W.g rfl rfl rfl rfl rfl (.t rfl _) rfl (by decide) (fun hG => Yd.lenR hl_0 rfl Try.underlying22 (.g rfl hG)) ?_
            refine W.g rfl rfl rfl rfl rfl (.t rfl _) rfl (by decide) (fun hG => Yd.geq rfl (.g rfl hG) .c) ?_
            refine W.q rfl rfl rfl rfl (by decide) (Yd.or rfl (.t rfl) .c rfl rfl) ?_
            refine W.end ?_
            refine NX.sub (env' := [(0, _), (3, _), (7, _), (8, _), (90, _)]) ⟨rfl, rfl, rfl, rfl, rfl, trivial⟩ ?_
            refine NX.then ?_
            refine Tr.cond (.t rfl) (fun hb => ?_) (fun hb => ?_)
            · have hr := cond_t hb hr
              refine Tr.seq ?_
              refine Tr.region_f (fun _ => false) ?_
              refine W.q rfl rfl rfl rfl (by decide) (Yd.as rfl .c) ?_
              refine W.q rfl rfl rfl rfl (by decide) (Yd.as rfl .c) ?_
              refine W.end ?_
              refine NX.sub (env' := [(4, _), (5, _)]) ⟨rfl, rfl, trivial⟩ ?_
              refine NX.drop (l' := l) (.cons _ (.refl _)) ?_
              refine NX.then ?_
              refine Tr.ret' (RT.then ?_)
              refine res2 rfl rfl rfl ?_
              intro w hc
              cases hr
              exact ⟨_, rfl, (cX_nil hc)⟩
            · have hr := cond_f hb hr
              refine Tr.skip' ?_
              refine NX.then ?_
              refine Tr.seq ?_
              refine Tr.region_f (fun _ => false) ?_
              refine W.q rfl rfl rfl rfl (by decide) (Yd.as rfl .c) ?_
              refine W.end ?_
              refine NX.sub (env' := [(0, _), (3, _), (7, _), (8, _), (13, _)]) ⟨rfl, rfl, rfl, rfl, rfl, trivial⟩ ?_
              refine NX.then ?_
              refine Tr.seq ?_
              refine Tr.seq ?_
              refine Tr.region_f (fun _ => false) ?_
              refine W.q rfl rfl rfl rfl (by decide) (Yd.as rfl .c) ?_
              refine W.end ?_
              refine NX.sub (env' := [(0, _), (3, _), (7, _), (8, _), (13, _), (14, _)]) ⟨rfl, rfl, rfl, rfl, rfl, rfl, trivial⟩ ?_
              refine NX.then ?_
              refine Tr.addnil 42 4 ?_
              refine Tr.join (S := fun env x => ∃ l30 : List Leaf, ∃ v31 : Value, env = [(13, v31)] ∧ x = ⟨m, hownT 42 4 Leaf.enc v31 l30 :: l⟩ ∧ syllogistref_Put_k32 l30 = some r) ?_ (fun hk33 => ?_)
              · rintro _ _ ⟨l30, v31, rfl, rfl, hr⟩
                unfold syllogistref_Put_k32 at hr
                try dsimp only at hr
                refine NX.then ?_
                refine Tr.seq ?_
                refine Tr.region_f (fun _ => false) ?_
                refine W.q rfl rfl rfl rfl (by decide) (Yd.mv rfl (.t rfl)) ?_
                refine W.q rfl rfl rfl rfl (by decide) (Yd.as rfl (.t rfl)) ?_
                refine W.q rfl rfl rfl rfl (by decide) (Yd.as rfl .c) ?_
                refine W.end ?_
                refine NX.sub (env' := [(4, _), (5, _)]) ⟨rfl, rfl, trivial⟩ ?_
                refine NX.then ?_
                refine Tr.ret' ?_
                refine res2 rfl rfl rfl ?_
                intro w hc
                cases hr
                exact ⟨_, rfl, hc⟩
              refine Tr.block ?_
              refine Tr.sub (env' := [(0, _), (3, _), (7, _), (8, _), (13, _), (14, _)]) ⟨rfl, rfl, rfl, rfl, rfl, rfl, trivial⟩ ?_
              refine Tr.loop (S := fun n (z : Int × (List Leaf)) env x => match z with | (i_27, l28) => ∃ v29 : Value, env = [(0, ul_0), (3, bp b1 0), (7, .int .i64 up_5), (8, .int .i64 at_20), (13, v29), (14, .int .i64 i_27)] ∧ x = ⟨m, hownT 42 4 Leaf.enc v29 l28 :: hcells b1 [.int .i64 s_1.kind, .int .i64 s_1.who.level, .int .u32 (s_1.who.parts.toNat : Int), us_1_2, .int .i64 s_1.text] 47 :: l⟩ ∧ whileK (σ := Int × (List Leaf)) (fun s nx_ => syllogistref_Put_b34 l_0 s_1 up_5 at_20 s.1 s.2 nx_) n (i_27, l28) = some r) _ ((0 : Int), ([] : List Leaf)) ⟨_, rfl, rfl, hr⟩ ?_
              rintro n36 ⟨i_27, l28⟩ env x ⟨v29, rfl, rfl, hr⟩
              cases n36 with
              | zero => simp [whileK] at hr
              | succ n36 =>
                obtain ⟨nx35, hnx35, hr⟩ := whileK_succ hr
                try dsimp only at hr
                unfold syllogistref_Put_b34 at hr
                try dsimp only at hr
                refine Tr.seq ?_
                refine Tr.seq ?_
                refine Tr.region_f (fun _ => false) ?_
                refine W.q rfl rfl rfl rfl (by decide) (Yd.mv rfl (.t rfl)) ?_
                refine W.q rfl rfl rfl rfl (by decide) (Yd.mv rfl (.t rfl)) ?_
                refine W.q rfl rfl rfl rfl (by decide) (Yd.lenR hl_0 rfl Try.underlying22 (.t rfl)) ?_
                refine W.q rfl rfl rfl rfl (by decide) (Yd.leq rfl (.t rfl) (.t rfl)) ?_
                refine W.end ?_
                refine NX.sub (env' := [(0, _), (3, _), (7, _), (8, _), (13, _), (14, _), (94, _)]) ⟨rfl, rfl, rfl, rfl, rfl, rfl, rfl, trivial⟩ ?_
                refine NX.then ?_
                refine Tr.cond (.t rfl) (fun hb => ?_) (fun hb => ?_)
                · have hr := cond_t hb hr
                  refine Tr.skip' ?_
                  refine NX.then ?_
                  refine Tr.seq ?_
                  refine Tr.block ?_
                  refine Tr.seq ?_
                  refine Tr.seq ?_
                  refine Tr.region_f (fun _ => false) ?_
                  refine W.q rfl rfl rfl rfl (by decide) (Yd.mv rfl (.t rfl)) ?_
                  refine W.q rfl rfl rfl rfl (by decide) (Yd.mv rfl (.t rfl)) ?_
                  refine W.q rfl rfl rfl rfl (by decide) (Yd.eql rfl (.t rfl) (.t rfl)) ?_
                  refine W.end ?_
                  refine NX.sub (env' := [(0, _), (3, _), (7, _), (8, _), (13, _), (14, _), (99, _)]) ⟨rfl, rfl, rfl, rfl, rfl, rfl, rfl, trivial⟩ ?_
                  refine NX.then ?_
                  refine Tr.join (S := fun env x => ∃ l37 : List Leaf, ∃ v38 : Value, env = [(0, ul_0), (3, bp b1 0), (7, .int .i64 up_5), (8, .int .i64 at_20), (13, v38), (14, .int .i64 i_27)] ∧ x = ⟨m, hownT 42 4 Leaf.enc v38 l37 :: hcells b1 [.int .i64 s_1.kind, .int .i64 s_1.who.level, .int .u32 (s_1.who.parts.toNat : Int), us_1_2, .int .i64 s_1.text] 47 :: l⟩ ∧ syllogistref_Put_k39 l_0 at_20 i_27 nx35 l37 = some r) ?_ (fun hk40 => ?_)
                  · rintro _ _ ⟨l37, v38, rfl, rfl, hr⟩
                    unfold syllogistref_Put_k39 at hr
                    try dsimp only at hr
                    refine NX.then ?_
                    refine Tr.seq ?_
                    refine Tr.region_f (fun _ => false) ?_
                    refine W.q rfl rfl rfl rfl (by decide) (Yd.mv rfl (.t rfl)) ?_
                    refine W.q rfl rfl rfl rfl (by decide) (Yd.mv rfl (.t rfl)) ?_
                    refine W.q rfl rfl rfl rfl (by decide) (Yd.lenR hl_0 rfl Try.underlying22 (.t rfl)) ?_
                    refine W.q rfl rfl rfl rfl (by decide) (Yd.lss rfl (.t rfl) (.t rfl)) ?_
                    refine W.end ?_
                    refine NX.sub (env' := [(0, _), (3, _), (7, _), (8, _), (13, _), (14, _), (112, _)]) ⟨rfl, rfl, rfl, rfl, rfl, rfl, rfl, trivial⟩ ?_
                    refine NX.then ?_
                    refine Tr.cond (.t rfl) (fun hb => ?_) (fun hb => ?_)
                    · have hr := cond_t hb hr
                      refine Tr.seq ?_
                      obtain ⟨y41, hy42, hr⟩ := bind_some hr
                      refine Tr.region_f (fun i => Nat.beq i 4 || Nat.beq i 5) ?_
                      refine W.q rfl rfl rfl rfl (by decide) (Yd.mv rfl (.t rfl)) ?_
                      refine W.q rfl rfl rfl rfl (by decide) (Yd.mv rfl (.t rfl)) ?_
                      refine W.q rfl rfl rfl rfl (by decide) (Yd.idxR hl_0 hy42 rfl Try.underlying22 SZ42 (.t rfl) (.t rfl)) ?_
                      refine W.q rfl rfl rfl rfl (by decide) (Yd.ldFs (us := [_, _, _, _]) hl_0 (.refl _) hy42 rfl rfl ON42 US42 SZ42 (.t rfl)) ?_
                      refine W.e rfl rfl rfl rfl (by decide) (Ef.al rfl ZR42 rfl) ?_
                      rintro _ _ ⟨b43, rfl, rfl⟩
                      refine ⟨.inl rfl, ?_⟩
                      refine W.cast (m' := m) (l' := hcells b43 [_, _, _, _] 42 :: hownT 42 4 Leaf.enc v38 _ :: hcells b1 [_, _, _, _, _] 47 :: l) rfl rfl ?_
                      refine W.s rfl rfl rfl rfl (Ef.stB (pos := 0) (us := [_, _, _, _]) (cs' := [_, _, _, _]) rfl rfl (.t rfl) (.t rfl) SZ42 rfl rfl rfl (Nat.le_of_ble_eq_true rfl) rfl) ?_
                      rintro _ _ ⟨rfl, rfl⟩
                      refine ⟨.inl rfl, ?_⟩
                      refine W.cast (m' := m) (l' := hcells b43 [_, _, _, _] 42 :: hownT 42 4 Leaf.enc v38 _ :: hcells b1 [_, _, _, _, _] 47 :: l) rfl rfl ?_
                      refine W.end ?_
                      refine NX.sub (env' := [(0, _), (3, _), (7, _), (8, _), (13, _), (14, _), (15, _)]) ⟨rfl, rfl, rfl, rfl, rfl, rfl, rfl, trivial⟩ ?_
                      refine NX.then ?_
                      refine Tr.seq ?_
                      refine Tr.seq ?_
                      refine Tr.region_f (fun _ => false) ?_
                      refine W.q rfl rfl rfl rfl (by decide) (Yd.fldB rfl Try.underlying42 rfl SZ3 rfl (.t rfl)) ?_
                      refine W.q rfl rfl rfl rfl (by decide) (Yd.ldB (pos := 0) rfl rfl rfl ON3 (.t rfl)) ?_
                      refine W.q rfl rfl rfl rfl (by decide) (Yd.mv rfl (.t rfl)) ?_
                      refine W.q rfl rfl rfl rfl (by decide) (Yd.geq rfl (.t rfl) (.t rfl)) ?_
                      refine W.end ?_
                      refine NX.sub (env' := [(0, _), (3, _), (7, _), (8, _), (13, _), (14, _), (15, _), (120, _)]) ⟨rfl, rfl, rfl, rfl, rfl, rfl, rfl, rfl, trivial⟩ ?_
                      refine NX.then ?_
                      refine Tr.cond (.t rfl) (fun hb => ?_) (fun hb => ?_)
                      · have hr := cond_t hb hr
                        refine Tr.region_f (fun i => Nat.beq i 4) ?_
                        refine W.q rfl rfl rfl rfl (by decide) (Yd.fldB rfl Try.underlying42 rfl SZ3 rfl (.t rfl)) ?_
                        refine W.q rfl rfl rfl rfl (by decide) (Yd.ldB (pos := 0) rfl rfl rfl ON3 (.t rfl)) ?_
                        refine W.q rfl rfl rfl rfl (by decide) (Yd.add rfl (.t rfl) .c) ?_
                        refine W.q rfl rfl rfl rfl (by decide) (Yd.fldB rfl Try.underlying42 rfl SZ3 rfl (.t rfl)) ?_
                        refine W.s rfl rfl rfl rfl (Ef.stB (pos := 0) (us := [_]) (cs' := [_, _, _, _]) rfl rfl (.t rfl) (.t rfl) SZ3 rfl rfl rfl (Nat.le_of_ble_eq_true rfl) rfl) ?_
                        rintro _ _ ⟨rfl, rfl⟩
                        refine ⟨.inl rfl, ?_⟩
                        refine W.cast (m' := m) (l' := hcells b43 [_, _, _, _] 42 :: hownT 42 4 Leaf.enc v38 _ :: hcells b1 [_, _, _, _, _] 47 :: l) rfl rfl ?_
                        refine W.end ?_
                        refine NX.sub (env' := [(0, _), (3, _), (7, _), (8, _), (13, _), (14, _), (15, _)]) ⟨rfl, rfl, rfl, rfl, rfl, rfl, rfl, trivial⟩ ?_
                        refine NX.then ?_
                        obtain ⟨hq48, hr⟩ := guard_some hr; replace hq48 := of_decide_eq_true hq48
                        refine Tr.region_f (fun i => Nat.beq i 2 || Nat.beq i 3) ?_
                        refine W.q rfl rfl rfl rfl (by decide) (Yd.mv rfl (.t rfl)) ?_
                        refine W.q rfl rfl rfl rfl (by decide) (Yd.ldBs (pos := 0) (us := [_, _, _, _]) rfl rfl rfl rfl ON42 US42 SZ42 (.t rfl)) ?_
                        refine W.e rfl rfl rfl rfl (by decide) (Ef.bsT (enc := Leaf.enc) (vs := [_]) (ys := [({ up := (w64 (y41.up + (1 : Int))), text := y41.text, label := ({ level := y41.label.level, parts := y41.label.parts } : Label) } : Leaf)]) (fun _ => rfl) IF42 rfl Try.underlying22 (by decide) rfl (.cons (.t rfl) .nil) rfl rfl (by decide)) ?_
                        rintro v45 _ rfl
                        refine ⟨.inl rfl, ?_⟩
                        refine W.cast (m' := m) (l' := hownT 42 4 Leaf.enc v45 _ :: hcells b43 [_, _, _, _] 42 :: hownT 42 4 Leaf.enc v38 _ :: hcells b1 [_, _, _, _, _] 47 :: l) rfl rfl ?_
                        refine W.e rfl rfl rfl rfl (by decide) (Ef.apI (pos := 2) (enc := Leaf.enc) (xs := l37) (ys := ([({ up := (w64 (y41.up + (1 : Int))), text := y41.text, label := ({ level := y41.label.level, parts := y41.label.parts } : Label) } : Leaf)] : List Leaf)) (fun _ => rfl) IF42 rfl rfl Try.underlying22 rfl (by decide) (.t rfl) (.t rfl) (Src.own (pos := 0) rfl) (fun _ => rfl) (by omega) (by omega)) ?_
                        rintro v47 _ rfl
                        refine ⟨.inl rfl, ?_⟩
                        refine W.cast (m' := m) (l' := hownT 42 4 Leaf.enc v45 _ :: hcells b43 [_, _, _, _] 42 :: hownT 42 4 Leaf.enc v47 _ :: hcells b1 [_, _, _, _, _] 47 :: l) rfl rfl ?_
                        refine W.q rfl rfl rfl rfl (by decide) (Yd.as rfl (.t rfl)) ?_
                        refine W.end ?_
                        refine NX.sub (env' := [(0, _), (3, _), (7, _), (8, _), (13, _), (14, _)]) ⟨rfl, rfl, rfl, rfl, rfl, rfl, trivial⟩ ?_
                        refine NX.drop (l' := hownT 42 4 Leaf.enc v47 _ :: hcells b1 [_, _, _, _, _] 47 :: l) (.cons _ (.cons _ (.cons_cons _ (.cons_cons _ (.refl _))))) ?_
                        refine NX.block ?_
                        refine NX.then ?_
                        refine Tr.region_f (fun _ => false) ?_
                        refine W.q rfl rfl rfl rfl (by decide) (Yd.mv rfl (.t rfl)) ?_
                        refine W.q rfl rfl rfl rfl (by decide) (Yd.add rfl (.t rfl) .c) ?_
                        refine W.q rfl rfl rfl rfl (by decide) (Yd.as rfl (.t rfl)) ?_
                        refine W.end ?_
                        refine NX.sub (env' := [(0, _), (3, _), (7, _), (8, _), (13, _), (14, _)]) ⟨rfl, rfl, rfl, rfl, rfl, rfl, trivial⟩ ?_
                        refine NX.sub (env' := [(0, _), (3, _), (7, _), (8, _), (13, _), (14, _)]) ⟨rfl, rfl, rfl, rfl, rfl, rfl, trivial⟩ ?_
                        exact NX.again n36 ((w64 (i_27 + (1 : Int))), (l37 ++ ([({ up := (w64 (y41.up + (1 : Int))), text := y41.text, label := ({ level := y41.label.level, parts := y41.label.parts } : Label) } : Leaf)] : List Leaf))) (Nat.lt_succ_self _) ⟨_, rfl, rfl, ((hnx35 _).symm.trans hr)⟩
                      · have hr := cond_f hb hr
                        refine Tr.skip' ?_
                        refine NX.then ?_
                        obtain ⟨hq52, hr⟩ := guard_some hr; replace hq52 := of_decide_eq_true hq52
                        refine Tr.region_f (fun i => Nat.beq i 2 || Nat.beq i 3) ?_
                        refine W.q rfl rfl rfl rfl (by decide) (Yd.mv rfl (.t rfl)) ?_
                        refine W.q rfl rfl rfl rfl (by decide) (Yd.ldBs (pos := 0) (us := [_, _, _, _]) rfl rfl rfl rfl ON42 US42 SZ42 (.t rfl)) ?_
                        refine W.e rfl rfl rfl rfl (by decide) (Ef.bsT (enc := Leaf.enc) (vs := [_]) (ys := [({ up := y41.up, text := y41.text, label := ({ level := y41.label.level, parts := y41.label.parts } : Label) } : Leaf)]) (fun _ => rfl) IF42 rfl Try.underlying22 (by decide) rfl (.cons (.t rfl) .nil) rfl rfl (by decide)) ?_
                        rintro v49 _ rfl
                        refine ⟨.inl rfl, ?_⟩
                        refine W.cast (m' := m) (l' := hownT 42 4 Leaf.enc v49 _ :: hcells b43 [_, _, _, _] 42 :: hownT 42 4 Leaf.enc v38 _ :: hcells b1 [_, _, _, _, _] 47 :: l) rfl rfl ?_
                        refine W.e rfl rfl rfl rfl (by decide) (Ef.apI (pos := 2) (enc := Leaf.enc) (xs := l37) (ys := ([({ up := y41.up, text := y41.text, label := ({ level := y41.label.level, parts := y41.label.parts } : Label) } : Leaf)] : List Leaf)) (fun _ => rfl) IF42 rfl rfl Try.underlying22 rfl (by decide) (.t rfl) (.t rfl) (Src.own (pos := 0) rfl) (fun _ => rfl) (by omega) (by omega)) ?_
                        rintro v51 _ rfl
                        refine ⟨.inl rfl, ?_⟩
                        refine W.cast (m' := m) (l' := hownT 42 4 Leaf.enc v49 _ :: hcells b43 [_, _, _, _] 42 :: hownT 42 4 Leaf.enc v51 _ :: hcells b1 [_, _, _, _, _] 47 :: l) rfl rfl ?_
                        refine W.q rfl rfl rfl rfl (by decide) (Yd.as rfl (.t rfl)) ?_
                        refine W.end ?_
                        refine NX.sub (env' := [(0, _), (3, _), (7, _), (8, _), (13, _), (14, _)]) ⟨rfl, rfl, rfl, rfl, rfl, rfl, trivial⟩ ?_
                        refine NX.drop (l' := hownT 42 4 Leaf.enc v51 _ :: hcells b1 [_, _, _, _, _] 47 :: l) (.cons _ (.cons _ (.cons_cons _ (.cons_cons _ (.refl _))))) ?_
                        refine NX.block ?_
                        refine NX.then ?_
                        refine Tr.region_f (fun _ => false) ?_
                        refine W.q rfl rfl rfl rfl (by decide) (Yd.mv rfl (.t rfl)) ?_
                        refine W.q rfl rfl rfl rfl (by decide) (Yd.add rfl (.t rfl) .c) ?_
                        refine W.q rfl rfl rfl rfl (by decide) (Yd.as rfl (.t rfl)) ?_
                        refine W.end ?_
                        refine NX.sub (env' := [(0, _), (3, _), (7, _), (8, _), (13, _), (14, _)]) ⟨rfl, rfl, rfl, rfl, rfl, rfl, trivial⟩ ?_
                        refine NX.sub (env' := [(0, _), (3, _), (7, _), (8, _), (13, _), (14, _)]) ⟨rfl, rfl, rfl, rfl, rfl, rfl, trivial⟩ ?_
                        exact NX.again n36 ((w64 (i_27 + (1 : Int))), (l37 ++ ([({ up := y41.up, text := y41.text, label := ({ level := y41.label.level, parts := y41.label.parts } : Label) } : Leaf)] : List Leaf))) (Nat.lt_succ_self _) ⟨_, rfl, rfl, ((hnx35 _).symm.trans hr)⟩
                    · have hr := cond_f hb hr
                      refine Tr.skip' ?_
                      refine NX.block ?_
                      refine NX.then ?_
                      refine Tr.region_f (fun _ => false) ?_
                      refine W.q rfl rfl rfl rfl (by decide) (Yd.mv rfl (.t rfl)) ?_
                      refine W.q rfl rfl rfl rfl (by decide) (Yd.add rfl (.t rfl) .c) ?_
                      refine W.q rfl rfl rfl rfl (by decide) (Yd.as rfl (.t rfl)) ?_
                      refine W.end ?_
                      refine NX.sub (env' := [(0, _), (3, _), (7, _), (8, _), (13, _), (14, _)]) ⟨rfl, rfl, rfl, rfl, rfl, rfl, trivial⟩ ?_
                      refine NX.sub (env' := [(0, _), (3, _), (7, _), (8, _), (13, _), (14, _)]) ⟨rfl, rfl, rfl, rfl, rfl, rfl, trivial⟩ ?_
                      exact NX.again n36 ((w64 (i_27 + (1 : Int))), l37) (Nat.lt_succ_self _) ⟨_, rfl, rfl, ((hnx35 _).symm.trans hr)⟩
                  refine Tr.cond (.t rfl) (fun hb => ?_) (fun hb => ?_)
                  · have hr := cond_t hb hr
                    obtain ⟨hq56, hr⟩ := guard_some hr; replace hq56 := of_decide_eq_true hq56
                    refine Tr.region_f (fun i => Nat.beq i 7 || Nat.beq i 8) ?_
                    refine W.q rfl rfl rfl rfl (by decide) (Yd.mv rfl (.t rfl)) ?_
                    refine W.q rfl rfl rfl rfl (by decide) (Yd.mv rfl (.t rfl)) ?_
                    refine W.q rfl rfl rfl rfl (by decide) (Yd.fldB rfl Try.underlying47 rfl SZ3 rfl (.t rfl)) ?_
                    refine W.q rfl rfl rfl rfl (by decide) (Yd.ldB (pos := 1) rfl rfl rfl ON3 (.t rfl)) ?_
                    refine W.q rfl rfl rfl rfl (by decide) (Yd.fldB rfl Try.underlying47 rfl SZ25 rfl (.t rfl)) ?_
                    refine W.q rfl rfl rfl rfl (by decide) (Yd.ldBs (pos := 1) (us := [_, _]) rfl rfl rfl rfl ON25 US25 SZ25 (.t rfl)) ?_
                    refine W.q rfl rfl rfl rfl (by decide) (Yd.bld (cells := [.int .i64 up_5, .int .i64 s_1.text, .int .i64 s_1.who.level, .int .u32 (s_1.who.parts.toNat : Int)]) rfl ZI42 PL42 (.cons (.t rfl) (.cons (.t rfl) (.cons (.t rfl) .nil))) rfl) ?_
                    refine W.e rfl rfl rfl rfl (by decide) (Ef.bsT (enc := Leaf.enc) (vs := [_]) (ys := [({ up := up_5, text := s_1.text, label := ({ level := s_1.who.level, parts := s_1.who.parts } : Label) } : Leaf)]) (fun _ => rfl) IF42 rfl Try.underlying22 (by decide) rfl (.cons (.t rfl) .nil) rfl rfl (by decide)) ?_
                    rintro v53 _ rfl
                    refine ⟨.inl rfl, ?_⟩
                    refine W.cast (m' := m) (l' := hownT 42 4 Leaf.enc v53 _ :: hownT 42 4 Leaf.enc v29 _ :: hcells b1 [_, _, _, _, _] 47 :: l) rfl rfl ?_
                    refine W.e rfl rfl rfl rfl (by decide) (Ef.apI (pos := 1) (enc := Leaf.enc) (xs := l28) (ys := ([({ up := up_5, text := s_1.text, label := ({ level := s_1.who.level, parts := s_1.who.parts } : Label) } : Leaf)] : List Leaf)) (fun _ => rfl) IF42 rfl rfl Try.underlying22 rfl (by decide) (.t rfl) (.t rfl) (Src.own (pos := 0) rfl) (fun _ => rfl) (by omega) (by omega)) ?_
                    rintro v55 _ rfl
                    refine ⟨.inl rfl, ?_⟩
                    refine W.cast (m' := m) (l' := hownT 42 4 Leaf.enc v53 _ :: hownT 42 4 Leaf.enc v55 _ :: hcells b1 [_, _, _, _, _] 47 :: l) rfl rfl ?_
                    refine W.q rfl rfl rfl rfl (by decide) (Yd.as rfl (.t rfl)) ?_
                    refine W.end ?_
                    refine NX.sub (env' := [(0, _), (3, _), (7, _), (8, _), (13, _), (14, _)]) ⟨rfl, rfl, rfl, rfl, rfl, rfl, trivial⟩ ?_
                    refine NX.drop (l' := hownT 42 4 Leaf.enc v55 _ :: hcells b1 [_, _, _, _, _] 47 :: l) (.cons _ (.cons_cons _ (.cons_cons _ (.refl _)))) ?_
                    refine NX.sub (env' := [(0, _), (3, _), (7, _), (8, _), (13, _), (14, _)]) ⟨rfl, rfl, rfl, rfl, rfl, rfl, trivial⟩ ?_
                    exact hk40 _ _ ⟨_, _, rfl, rfl, hr⟩
                  · have hr := cond_f hb hr
                    refine Tr.skip' ?_
                    refine NX.sub (env' := [(0, _), (3, _), (7, _), (8, _), (13, _), (14, _)]) ⟨rfl, rfl, rfl, rfl, rfl, rfl, trivial⟩ ?_
                    exact hk40 _ _ ⟨_, _, rfl, rfl, hr⟩
                · have hr := cond_f hb hr
                  refine Tr.exit' (EX.then (EX.then (EX.block ?_)))
                  refine NX.sub (env' := [(13, _)]) ⟨rfl, trivial⟩ ?_
                  refine NX.drop (l' := hownT 42 4 Leaf.enc v29 _ :: l) (.cons_cons _ (.cons _ (.refl _))) ?_
                  exact hk33 _ _ ⟨_, _, rfl, rfl, hr⟩
        refine Tr.cond (.t rfl) (fun hb => ?_) (fun hb => ?_)
        · have hr := cond_t hb hr
          refine Tr.region_f (fun _ => false) ?_
          refine W.q rfl rfl rfl rfl (by decide) (Yd.mv rfl (.t rfl)) ?_
          refine W.q rfl rfl rfl rfl (by decide) (Yd.add rfl (.t rfl) .c) ?_
          refine W.q rfl rfl rfl rfl (by decide) (Yd.as rfl (.t rfl)) ?_
          refine W.end ?_
          refine NX.sub (env' := [(0, _), (3, _), (7, _), (8, _), (10, _)]) ⟨rfl, rfl, rfl, rfl, rfl, trivial⟩ ?_
          refine NX.sub (env' := [(0, _), (3, _), (7, _), (8, _), (10, _)]) ⟨rfl, rfl, rfl, rfl, rfl, trivial⟩ ?_
          exact hk22 _ _ ⟨_, rfl, rfl, hr⟩
        · have hr := cond_f hb hr
          refine Tr.skip' ?_
          refine NX.sub (env' := [(0, _), (3, _), (7, _), (8, _), (10, _)]) ⟨rfl, rfl, rfl, rfl, rfl, trivial⟩ ?_
          exact hk22 _ _ ⟨_, rfl, rfl, hr⟩
      have hlen57 := (hl_0).2.1
      refine Tr.block ?_
      refine Tr.sub (env' := [(0, _), (3, _), (6, _), (7, _), (8, _), (9, _), (10, _), (45, _), (46, _), (47, _)]) ⟨rfl, rfl, rfl, rfl, rfl, rfl, rfl, rfl, rfl, rfl, trivial⟩ ?_
      refine Tr.loop (S := fun n (z : Int × Int × Int × Int) env x => match z with | (t_58, at_12, seen_13, own_14) => env = [(0, ul_0), (3, bp b1 0), (6, .int .i64 y3), (7, .int .i64 up_5), (8, .int .i64 at_12), (9, .int .i64 seen_13), (10, .int .i64 own_14), (45, ul_0), (46, .int .i64 ((l_0.length : Int))), (47, .int .i64 t_58)] ∧ x = ⟨m, hcells b1 [.int .i64 s_1.kind, .int .i64 s_1.who.level, .int .u32 (s_1.who.parts.toNat : Int), us_1_2, .int .i64 s_1.text] 47 :: l⟩ ∧ n = ((l_0.length : Int) - t_58).toNat ∧ 0 ≤ t_58 ∧ forK (σ := Int × Int × Int) (fun i s nx_ => syllogistref_Put_b59 l_0 s_1 y3 up_5 i s.1 s.2.1 s.2.2 nx_) (fun s => syllogistref_Put_k18 l_0 s_1 fuel y3 up_5 s.1 s.2.2) n t_58 (at_12, seen_13, own_14) = some r) _ ((0 : Int), (-1 : Int), (0 : Int), (0 : Int)) ⟨rfl, rfl, rfl, (by omega), hr⟩ ?_
      rintro n61 ⟨t_58, at_12, seen_13, own_14⟩ env x ⟨rfl, rfl, hnt_58, h0t_58, hr⟩
      cases n61 with
      | zero =>
        simp only [forK] at hr
        refine Tr.seq ?_
        refine Tr.region_f (fun _ => false) ?_
        refine W.q rfl rfl rfl rfl (by decide) (Yd.lss rfl (.t rfl) (.t rfl)) ?_
        refine W.end ?_
        refine NX.sub (env' := [(0, _), (3, _), (6, _), (7, _), (8, _), (9, _), (10, _), (45, _), (46, _), (47, _), (48, _)]) ⟨rfl, rfl, rfl, rfl, rfl, rfl, rfl, rfl, rfl, rfl, rfl, trivial⟩ ?_
        refine NX.then ?_
        refine Tr.seq ?_
        refine Tr.cond (.t rfl) (fun hb => ?_) (fun hb => ?_)
        · exact absurd (hb.symm.trans (fr_end hnt_58)) (by decide)
        ·
          refine Tr.exit' (EX.then (EX.then (EX.block ?_)))
          refine NX.sub (env' := [(0, _), (3, _), (6, _), (7, _), (8, _), (10, _)]) ⟨rfl, rfl, rfl, rfl, rfl, rfl, trivial⟩ ?_
          exact hk19 _ _ ⟨_, _, rfl, rfl, hr⟩
      | succ n61 =>
        obtain ⟨nx60, hnx60, hr⟩ := forK_succ hr
        try dsimp only at hr
        unfold syllogistref_Put_b59 at hr
        try dsimp only at hr
        have hltt_58 := fr_bnd hnt_58
        refine Tr.seq ?_
        refine Tr.region_f (fun _ => false) ?_
        refine W.q rfl rfl rfl rfl (by decide) (Yd.lss rfl (.t rfl) (.t rfl)) ?_
        refine W.end ?_
        refine NX.sub (env' := [(0, _), (3, _), (6, _), (7, _), (8, _), (9, _), (10, _), (45, _), (46, _), (47, _), (48, _)]) ⟨rfl, rfl, rfl, rfl, rfl, rfl, rfl, rfl, rfl, rfl, rfl, trivial⟩ ?_
        refine NX.then ?_
        refine Tr.seq ?_
        refine Tr.cond (.t rfl) (fun hb => ?_) (fun hb => ?_)
        rotate_left
        · exact absurd (hb.symm.trans (fr_go hnt_58)) (by decide)
        ·
          refine Tr.skip' ?_
          refine NX.then ?_
          refine Tr.seq ?_
          refine Tr.block ?_
          refine Tr.seq ?_
          obtain ⟨y62, hy63, hr⟩ := bind_some hr
          refine Tr.region_f (fun i => Nat.beq i 3 || Nat.beq i 5) ?_
          refine W.q rfl rfl rfl rfl (by decide) (Yd.mv rfl (.t rfl)) ?_
          refine W.q rfl rfl rfl rfl (by decide) (Yd.idxR hl_0 hy63 rfl Try.underlying22 SZ42 (.t rfl) (.t rfl)) ?_
          refine W.q rfl rfl rfl rfl (by decide) (Yd.ldFs (us := [_, _, _, _]) hl_0 (.refl _) hy63 rfl rfl ON42 US42 SZ42 (.t rfl)) ?_
          refine W.e rfl rfl rfl rfl (by decide) (Ef.al rfl ZR42 rfl) ?_
          rintro _ _ ⟨b64, rfl, rfl⟩
          refine ⟨.inl rfl, ?_⟩
          refine W.cast (m' := m) (l' := hcells b64 [_, _, _, _] 42 :: hcells b1 [_, _, _, _, _] 47 :: l) rfl rfl ?_
          refine W.q rfl rfl rfl rfl (by decide) (Yd.as rfl (.t rfl)) ?_
          refine W.s rfl rfl rfl rfl (Ef.stB (pos := 0) (us := [_, _, _, _]) (cs' := [_, _, _, _]) rfl rfl (.t rfl) (.t rfl) SZ42 rfl rfl rfl (Nat.le_of_ble_eq_true rfl) rfl) ?_
          rintro _ _ ⟨rfl, rfl⟩
          refine ⟨.inl rfl, ?_⟩
          refine W.cast (m' := m) (l' := hcells b64 [_, _, _, _] 42 :: hcells b1 [_, _, _, _, _] 47 :: l) rfl rfl ?_
          refine W.end ?_
          refine NX.sub (env' := [(0, _), (3, _), (6, _), (7, _), (8, _), (9, _), (10, _), (45, _), (46, _), (47, _), (12, _), (11, _)]) ⟨rfl, rfl, rfl, rfl, rfl, rfl, rfl, rfl, rfl, rfl, rfl, rfl, trivial⟩ ?_
          refine NX.then ?_
          refine Tr.seq ?_
          refine Tr.seq ?_
          refine Tr.region_f (fun _ => false) ?_
          refine W.q rfl rfl rfl rfl (by decide) (Yd.fldB rfl Try.underlying42 rfl SZ25 rfl (.t rfl)) ?_
          refine W.q rfl rfl rfl rfl (by decide) (Yd.ldBs (pos := 0) (us := [_, _]) rfl rfl rfl rfl ON25 US25 SZ25 (.t rfl)) ?_
          refine W.q rfl rfl rfl rfl (by decide) (Yd.fldB rfl Try.underlying47 rfl SZ25 rfl (.t rfl)) ?_
          refine W.q rfl rfl rfl rfl (by decide) (Yd.ldBs (pos := 1) (us := [_, _]) rfl rfl rfl rfl ON25 US25 SZ25 (.t rfl)) ?_
          refine W.q rfl rfl rfl rfl (by decide) (Yd.eqA rfl GU25 (fun w => EQ25 w y62.label.level y62.label.parts s_1.who.level s_1.who.parts) (.t rfl) (.t rfl)) ?_
          refine W.end ?_
          refine NX.sub (env' := [(0, _), (3, _), (6, _), (7, _), (8, _), (9, _), (10, _), (45, _), (46, _), (47, _), (12, _), (11, _), (56, _)]) ⟨rfl, rfl, rfl, rfl, rfl, rfl, rfl, rfl, rfl, rfl, rfl, rfl, rfl, trivial⟩ ?_
          refine NX.then ?_
          refine Tr.join (S := fun env x => ∃ own_66 : Int, env = [(0, ul_0), (3, bp b1 0), (6, .int .i64 y3), (7, .int .i64 up_5), (8, .int .i64 at_12), (9, .int .i64 seen_13), (10, .int .i64 own_66), (45, ul_0), (46, .int .i64 ((l_0.length : Int))), (47, .int .i64 t_58), (12, bp b64 0), (11, .int .i64 t_58)] ∧ x = ⟨m, hcells b64 [.int .i64 y62.up, .int .i64 y62.text, .int .i64 y62.label.level, .int .u32 (y62.label.parts.toNat : Int)] 42 :: hcells b1 [.int .i64 s_1.kind, .int .i64 s_1.who.level, .int .u32 (s_1.who.parts.toNat : Int), us_1_2, .int .i64 s_1.text] 47 :: l⟩ ∧ syllogistref_Put_k67 s_1 y3 up_5 t_58 at_12 seen_13 nx60 y62 own_66 = some r) ?_ (fun hk68 => ?_)
          · rintro _ _ ⟨own_66, rfl, rfl, hr⟩
            unfold syllogistref_Put_k67 at hr
            try dsimp only at hr
            refine NX.then ?_
            refine Tr.seq ?_
            obtain ⟨ha69, hr⟩ := guard_some hr
            refine Tr.region_f (fun _ => false) ?_
            refine W.q rfl rfl rfl rfl (by decide) (Yd.fldB rfl Try.underlying42 rfl SZ3 rfl (.t rfl)) ?_
            refine W.q rfl rfl rfl rfl (by decide) (Yd.ldB (pos := 0) rfl rfl rfl ON3 (.t rfl)) ?_
            refine W.q rfl rfl rfl rfl (by decide) (Yd.mv rfl (.t rfl)) ?_
            refine W.q rfl rfl rfl rfl (by decide) (Yd.eql rfl (.t rfl) (.t rfl)) ?_
            refine W.q rfl rfl rfl rfl (by decide) (Yd.mv rfl (.t rfl)) ?_
            refine W.g rfl rfl rfl rfl rfl (.t rfl _) rfl (by decide) (fun hG => Yd.fldB rfl Try.underlying42 rfl SZ25 rfl (.t rfl)) ?_
            refine W.g rfl rfl rfl rfl rfl (.t rfl _) rfl (by decide) (fun hG => Yd.ldBs (pos := 0) (us := [_, _]) rfl rfl rfl rfl ON25 US25 SZ25 (.g rfl hG)) ?_
            refine W.g rfl rfl rfl rfl rfl (.t rfl _) rfl (by decide) (fun hG => Yd.fldB rfl Try.underlying47 rfl SZ25 rfl (.t rfl)) ?_
            refine W.g rfl rfl rfl rfl rfl (.t rfl _) rfl (by decide) (fun hG => Yd.ldBs (pos := 1) (us := [_, _]) rfl rfl rfl rfl ON25 US25 SZ25 (.g rfl hG)) ?_
            refine W.g rfl rfl rfl rfl rfl (.t rfl _) rfl (by decide) (fun hG => Yd.call (v := .bool ((((syllogistref_Below (({ level := y62.label.level, parts := y62.label.parts } : Label)) (({ level := s_1.who.level, parts := s_1.who.parts } : Label))).getD false)))) rfl Try.func19 rfl rfl (.cons (.g rfl hG) (.cons (.g rfl hG) .nil)) (fun x' hx w hw => syllogistref_Below_ok w0 x'.m x'.l (({ level := y62.label.level, parts := y62.label.parts } : Label)) (({ level := s_1.who.level, parts := s_1.who.parts } : Label)) _ (gd_get (d := false) ha69 hG) w hw)) ?_
            refine W.q rfl rfl rfl rfl (by decide) (Yd.and rfl (.t rfl) .c rfl rfl) ?_
            refine W.end ?_
            refine NX.sub (env' := [(0, _), (3, _), (6, _), (7, _), (8, _), (9, _), (10, _), (45, _), (46, _), (47, _), (11, _), (69, _)]) ⟨rfl, rfl, rfl, rfl, rfl, rfl, rfl, rfl, rfl, rfl, rfl, rfl, trivial⟩ ?_
            refine NX.drop (l' := hcells b1 [_, _, _, _, _] 47 :: l) (.cons _ (.cons_cons _ (.refl _))) ?_
            refine NX.then ?_
            refine Tr.cond (.t rfl) (fun hb => ?_) (fun hb => ?_)
            · have hr := cond_t hb hr
              refine Tr.seq ?_
              refine Tr.region_f (fun _ => false) ?_
              refine W.q rfl rfl rfl rfl (by decide) (Yd.mv rfl (.t rfl)) ?_
              refine W.q rfl rfl rfl rfl (by decide) (Yd.add rfl (.t rfl) .c) ?_
              refine W.q rfl rfl rfl rfl (by decide) (Yd.as rfl (.t rfl)) ?_
              refine W.end ?_
              refine NX.sub (env' := [(0, _), (3, _), (6, _), (7, _), (8, _), (9, _), (10, _), (45, _), (46, _), (47, _), (11, _)]) ⟨rfl, rfl, rfl, rfl, rfl, rfl, rfl, rfl, rfl, rfl, rfl, trivial⟩ ?_
              refine NX.then ?_
              refine Tr.seq ?_
              refine Tr.region_f (fun _ => false) ?_
              refine W.q rfl rfl rfl rfl (by decide) (Yd.mv rfl (.t rfl)) ?_
              refine W.q rfl rfl rfl rfl (by decide) (Yd.mv rfl (.t rfl)) ?_
              refine W.q rfl rfl rfl rfl (by decide) (Yd.eql rfl (.t rfl) (.t rfl)) ?_
              refine W.end ?_
              refine NX.sub (env' := [(0, _), (3, _), (6, _), (7, _), (8, _), (9, _), (10, _), (45, _), (46, _), (47, _), (11, _), (74, _)]) ⟨rfl, rfl, rfl, rfl, rfl, rfl, rfl, rfl, rfl, rfl, rfl, rfl, trivial⟩ ?_
              refine NX.then ?_
              refine Tr.cond (.t rfl) (fun hb => ?_) (fun hb => ?_)
              · have hr := cond_t hb hr
                refine Tr.region_f (fun _ => false) ?_
                refine W.q rfl rfl rfl rfl (by decide) (Yd.mv rfl (.t rfl)) ?_
                refine W.q rfl rfl rfl rfl (by decide) (Yd.add rfl (.t rfl) .c) ?_
                refine W.q rfl rfl rfl rfl (by decide) (Yd.as rfl (.t rfl)) ?_
                refine W.end ?_
                refine NX.sub (env' := [(0, _), (3, _), (6, _), (7, _), (8, _), (9, _), (10, _), (45, _), (46, _), (47, _)]) ⟨rfl, rfl, rfl, rfl, rfl, rfl, rfl, rfl, rfl, rfl, trivial⟩ ?_
                refine NX.block ?_
                refine NX.then ?_
                refine Tr.region_f (fun _ => false) ?_
                refine W.q rfl rfl rfl rfl (by decide) (Yd.add rfl (.t rfl) .c) ?_
                refine W.q rfl rfl rfl rfl (by decide) (Yd.mv rfl (.t rfl)) ?_
                refine W.end ?_
                refine NX.sub (env' := [(0, _), (3, _), (6, _), (7, _), (8, _), (9, _), (10, _), (45, _), (46, _), (47, _)]) ⟨rfl, rfl, rfl, rfl, rfl, rfl, rfl, rfl, rfl, rfl, trivial⟩ ?_
                refine NX.sub (env' := [(0, _), (3, _), (6, _), (7, _), (8, _), (9, _), (10, _), (45, _), (46, _), (47, _)]) ⟨rfl, rfl, rfl, rfl, rfl, rfl, rfl, rfl, rfl, rfl, trivial⟩ ?_
                have hw := w64_id (n := t_58 + 1) (by omega) (by omega)
                exact NX.again n61 (t_58 + 1, (w64 (t_58 + (1 : Int))), (w64 (seen_13 + (1 : Int))), own_66) (Nat.lt_succ_self _) ⟨(by rw [hw] <;> rfl), rfl, (fr_dec hnt_58), (by omega), ((hnx60 _).symm.trans hr)⟩
              · have hr := cond_f hb hr
                refine Tr.skip' ?_
                refine NX.block ?_
                refine NX.then ?_
                refine Tr.region_f (fun _ => false) ?_
                refine W.q rfl rfl rfl rfl (by decide) (Yd.add rfl (.t rfl) .c) ?_
                refine W.q rfl rfl rfl rfl (by decide) (Yd.mv rfl (.t rfl)) ?_
                refine W.end ?_
                refine NX.sub (env' := [(0, _), (3, _), (6, _), (7, _), (8, _), (9, _), (10, _), (45, _), (46, _), (47, _)]) ⟨rfl, rfl, rfl, rfl, rfl, rfl, rfl, rfl, rfl, rfl, trivial⟩ ?_
                refine NX.sub (env' := [(0, _), (3, _), (6, _), (7, _), (8, _), (9, _), (10, _), (45, _), (46, _), (47, _)]) ⟨rfl, rfl, rfl, rfl, rfl, rfl, rfl, rfl, rfl, rfl, trivial⟩ ?_
                have hw := w64_id (n := t_58 + 1) (by omega) (by omega)
                exact NX.again n61 (t_58 + 1, at_12, (w64 (seen_13 + (1 : Int))), own_66) (Nat.lt_succ_self _) ⟨(by rw [hw] <;> rfl), rfl, (fr_dec hnt_58), (by omega), ((hnx60 _).symm.trans hr)⟩
            · have hr := cond_f hb hr
              refine Tr.skip' ?_
              refine NX.block ?_
              refine NX.then ?_
              refine Tr.region_f (fun _ => false) ?_
              refine W.q rfl rfl rfl rfl (by decide) (Yd.add rfl (.t rfl) .c) ?_
              refine W.q rfl rfl rfl rfl (by decide) (Yd.mv rfl (.t rfl)) ?_
              refine W.end ?_
              refine NX.sub (env' := [(0, _), (3, _), (6, _), (7, _), (8, _), (9, _), (10, _), (45, _), (46, _), (47, _)]) ⟨rfl, rfl, rfl, rfl, rfl, rfl, rfl, rfl, rfl, rfl, trivial⟩ ?_
              refine NX.sub (env' := [(0, _), (3, _), (6, _), (7, _), (8, _), (9, _), (10, _), (45, _), (46, _), (47, _)]) ⟨rfl, rfl, rfl, rfl, rfl, rfl, rfl, rfl, rfl, rfl, trivial⟩ ?_
              have hw := w64_id (n := t_58 + 1) (by omega) (by omega)
              exact NX.again n61 (t_58 + 1, at_12, seen_13, own_66) (Nat.lt_succ_self _) ⟨(by rw [hw] <;> rfl), rfl, (fr_dec hnt_58), (by omega), ((hnx60 _).symm.trans hr)⟩
          refine Tr.cond (.t rfl) (fun hb => ?_) (fun hb => ?_)
          · have hr := cond_t hb hr
            refine Tr.region_f (fun _ => false) ?_
            refine W.q rfl rfl rfl rfl (by decide) (Yd.mv rfl (.t rfl)) ?_
            refine W.q rfl rfl rfl rfl (by decide) (Yd.add rfl (.t rfl) .c) ?_
            refine W.q rfl rfl rfl rfl (by decide) (Yd.as rfl (.t rfl)) ?_
            refine W.end ?_
            refine NX.sub (env' := [(0, _), (3, _), (6, _), (7, _), (8, _), (9, _), (10, _), (45, _), (46, _), (47, _), (12, _), (11, _)]) ⟨rfl, rfl, rfl, rfl, rfl, rfl, rfl, rfl, rfl, rfl, rfl, rfl, trivial⟩ ?_
            refine NX.sub (env' := [(0, _), (3, _), (6, _), (7, _), (8, _), (9, _), (10, _), (45, _), (46, _), (47, _), (12, _), (11, _)]) ⟨rfl, rfl, rfl, rfl, rfl, rfl, rfl, rfl, rfl, rfl, rfl, rfl, trivial⟩ ?_
            exact hk68 _ _ ⟨_, rfl, rfl, hr⟩
          · have hr := cond_f hb hr
            refine Tr.skip' ?_
            refine NX.sub (env' := [(0, _), (3, _), (6, _), (7, _), (8, _), (9, _), (10, _), (45, _), (46, _), (47, _), (12, _), (11, _)]) ⟨rfl, rfl, rfl, rfl, rfl, rfl, rfl, rfl, rfl, rfl, rfl, rfl, trivial⟩ ?_
            exact hk68 _ _ ⟨_, rfl, rfl, hr⟩
    refine Tr.cond (.t rfl) (fun hb => ?_) (fun hb => ?_)
    · have hr := cond_t hb hr
      refine Tr.seq ?_
      obtain ⟨hq70, hr⟩ := guard_some hr; replace hq70 := of_decide_eq_true hq70
      obtain ⟨r72, hr73, hr⟩ := bind_some hr
      refine Tr.region_x (fun _ => false) (fun _ => false) (Ord.of [0, 1, 2, 3, 4, 5, 6, 7, 8, 9, 10, 11]) FM (by kernel_rfl) ?_
      refine W.q rfl rfl rfl rfl (by decide) (Yd.mv rfl (.t rfl)) ?_
      refine W.q rfl rfl rfl rfl (by decide) (Yd.fldB rfl Try.underlying47 rfl SZ25 rfl (.t rfl)) ?_
      refine W.q rfl rfl rfl rfl (by decide) (Yd.ldBs (pos := 0) (us := [_, _]) rfl rfl rfl rfl ON25 US25 SZ25 (.t rfl)) ?_
      refine W.q rfl rfl rfl rfl (by decide) (Yd.fldB rfl Try.underlying47 rfl SZ33 rfl (.t rfl)) ?_
      refine W.q rfl rfl rfl rfl (by decide) (Yd.ldB (pos := 0) rfl rfl rfl ON33 (.t rfl)) ?_
      refine W.q rfl rfl rfl rfl (by decide) (Yd.fldB rfl Try.underlying47 rfl SZ33 rfl (.t rfl)) ?_
      refine W.q rfl rfl rfl rfl (by decide) (Yd.ldB (pos := 0) rfl rfl rfl ON33 (.t rfl)) ?_
      refine W.q rfl rfl rfl rfl (by decide) (Yd.lenR hs_1_2 rfl Try.underlying33 (.t rfl)) ?_
      refine W.q rfl rfl rfl rfl (by decide) (Yd.sub rfl (.t rfl) .c) ?_
      have hu71 := RS.to (k := ((w64 ((s_1.path.length : Int) - (1 : Int)))).toNat) hs_1_2 (by omega)
      refine W.q rfl rfl rfl rfl (by decide) (Yd.slToR hs_1_2 rfl Try.underlying33 (Option.some_get IN3).symm (.t rfl) (.t rfl) hq70.1 hq70.2) ?_
      refine W.q rfl rfl rfl rfl (by decide) (Yd.call (v := .int .i64 r72) rfl Try.func17 rfl rfl (.cons (.t rfl) (.cons (.t rfl) (.cons (.t rfl) .nil))) (fun x' hx w hw => syllogistref_Found_ok w0 x'.m x'.l fuel _ _ (hl_0.mono hx.1) (({ level := s_1.who.level, parts := s_1.who.parts } : Label)) _ _ (hu71.mono hx.1) _ hr73 w hw)) ?_
      refine W.q rfl rfl rfl rfl (by decide) (Yd.as rfl (.t rfl)) ?_
      refine W.end ?_
      refine NX.sub (env' := [(0, _), (3, _), (6, _), (7, _)]) ⟨rfl, rfl, rfl, rfl, trivial⟩ ?_
      refine NX.then ?_
      refine Tr.seq ?_
      refine Tr.region_f (fun _ => false) ?_
      refine W.q rfl rfl rfl rfl (by decide) (Yd.mv rfl (.t rfl)) ?_
      refine W.q rfl rfl rfl rfl (by decide) (Yd.lss rfl (.t rfl) .c) ?_
      refine W.end ?_
      refine NX.sub (env' := [(0, _), (3, _), (6, _), (7, _), (44, _)]) ⟨rfl, rfl, rfl, rfl, rfl, trivial⟩ ?_
      refine NX.then ?_
      refine Tr.cond (.t rfl) (fun hb => ?_) (fun hb => ?_)
      · have hr := cond_t hb hr
        refine Tr.seq ?_
        refine Tr.region_f (fun _ => false) ?_
        refine W.q rfl rfl rfl rfl (by decide) (Yd.as rfl .c) ?_
        refine W.q rfl rfl rfl rfl (by decide) (Yd.as rfl .c) ?_
        refine W.end ?_
        refine NX.sub (env' := [(4, _), (5, _)]) ⟨rfl, rfl, trivial⟩ ?_
        refine NX.drop (l' := l) (.cons _ (.refl _)) ?_
        refine NX.then ?_
        refine Tr.ret' (RT.then ?_)
        refine res2 rfl rfl rfl ?_
        intro w hc
        cases hr
        exact ⟨_, rfl, (cX_nil hc)⟩
      · have hr := cond_f hb hr
        refine Tr.skip' ?_
        refine NX.sub (env' := [(0, _), (3, _), (6, _), (7, _)]) ⟨rfl, rfl, rfl, rfl, trivial⟩ ?_
        exact hk7 _ _ ⟨_, rfl, rfl, hr⟩
    · have hr := cond_f hb hr
      refine Tr.skip' ?_
      refine NX.sub (env' := [(0, _), (3, _), (6, _), (7, _)]) ⟨rfl, rfl, rfl, rfl, trivial⟩ ?_
      exact hk7 _ _ ⟨_, rfl, rfl, hr⟩

def syllogistref_Stroke_k28 (l_0 : List Leaf) (fuel : Nat) (l26 : List Bool) : Option ((List Leaf) × Int) :=
  (syllogistref_Keep fuel l_0 l26).bind fun r30 =>
  some ((r30, (0 : Int)))

def syllogistref_Stroke_k42 (r7 : Int) (i_35 : Int) (l24 : List Bool) (nx37 : ((List Bool) → Option ((List Leaf) × Int))) (up_41 : Int) : Option ((List Leaf) × Int) :=
  (geti l24 i_35).bind fun y44 =>
  nx37 (l24.set i_35.toNat ((up_41 != r7)))

def syllogistref_Stroke_b46 (l_0 : List Leaf) (r7 : Int) (i_35 : Int) (l24 : List Bool) (nx37 : ((List Bool) → Option ((List Leaf) × Int))) (up_40 : Int) (nx47 : Int → Option ((List Leaf) × Int)) : Option ((List Leaf) × Int) :=
  (bif (decide (up_40 > r7)) then
  (geti l_0 up_40).bind fun y49 =>
  nx47 y49.up
  else
  syllogistref_Stroke_k42 r7 i_35 l24 nx37 up_40)

def syllogistref_Stroke_b36 (l_0 : List Leaf) (fuel : Nat) (r7 : Int) (i_35 : Int) (l24 : List Bool) (nx37 : (List Bool) → Option ((List Leaf) × Int)) : Option ((List Leaf) × Int) :=
  whileK (σ := Int) (fun s nx_ => syllogistref_Stroke_b46 l_0 r7 i_35 l24 nx37 s nx_) fuel i_35

def syllogistref_Stroke (fuel : Nat) (l_0 : List Leaf) (s_1 : Stroke) : Option ((List Leaf) × Int) :=
  (bif (((s_1.kind != (1 : Int)) && (s_1.kind != (2 : Int))) && (s_1.kind != (3 : Int))) then
  some (([], (6 : Int)))
  else
  (bif (s_1.kind == (1 : Int)) then
  (syllogistref_Put fuel l_0 (({ kind := s_1.kind, who := ({ level := s_1.who.level, parts := s_1.who.parts } : Label), path := s_1.path, text := s_1.text } : Stroke))).bind fun r3 =>
  some ((r3.1, r3.2))
  else
  (syllogistref_Found fuel l_0 (({ level := s_1.who.level, parts := s_1.who.parts } : Label)) s_1.path).bind fun r7 =>
  (bif (decide (r7 < (0 : Int))) then
  some (([], (5 : Int)))
  else
  (geti l_0 r7).bind fun y9 =>
  (bif (!((y9.label.level == s_1.who.level) && ((y9.label.parts == s_1.who.parts) && true))) then
  some (([], (7 : Int)))
  else
  bif decide ((([] : List Leaf)).length + l_0.length ≤ 4398046511104) then
  (bif (s_1.kind == (2 : Int)) then
  (geti ((([] : List Leaf) ++ l_0)) r7).bind fun y15 =>
  some (((((([] : List Leaf) ++ l_0)).set r7.toNat (({ up := y15.up, text := s_1.text, label := ({ level := y15.label.level, parts := y15.label.parts } : Label) } : Leaf))), (0 : Int)))
  else
  bif decide (0 ≤ (l_0.length : Int) ∧ (l_0.length : Int) ≤ 1048576) then
  forK (σ := (List Bool)) (fun i s nx_ => syllogistref_Stroke_b36 l_0 fuel r7 i s nx_) (fun s => syllogistref_Stroke_k28 l_0 fuel s) ((l_0.length : Int) - (0 : Int)).toNat (0 : Int) ((List.replicate ((l_0.length : Int)).toNat false)) else none) else none))))

set_option maxRecDepth 100000 in
set_option maxHeartbeats 4000000 in
theorem syllogistref_Stroke_ok (w0 : World) (m : Snap) (l : List HI) (fuel : Nat) (ul_0 : Value) (l_0 : List Leaf) (hl_0 : RS rLeaf m ul_0 l_0) (s_1 : Stroke) (us_1_2 : Value) (hs_1_2 : RS rI m us_1_2 s_1.path) (r : (List Leaf) × Int) (hr : syllogistref_Stroke fuel l_0 s_1 = some r) (w : World) (hc : cX w0 ⟨m, l⟩ w) :
    Calls Try.prog 23 [ul_0, .agg #[.int .i64 s_1.kind, .int .i64 s_1.who.level, .int .u32 (s_1.who.parts.toNat : Int), us_1_2, .int .i64 s_1.text]].toArray w fun e w' => ∃ z0 : Value, e = .returned (.tuple #[z0, .int .i64 r.2]) ∧ cX w0 ⟨m, hownT 42 4 Leaf.enc z0 r.1 :: l⟩ w' := by
  unfold syllogistref_Stroke at hr
  refine calls_of_Tr (N := 88) Try.func23 rfl hc rfl (Nat.le_of_ble_eq_true rfl) ?_
  refine Tr.seq ?_
  refine Tr.region_f (fun i => Nat.beq i 0) ?_
  refine W.e rfl rfl rfl rfl (by decide) (Ef.bx rfl (.t rfl) rfl) ?_
  rintro _ _ ⟨b1, rfl, rfl⟩
  refine ⟨.inl rfl, ?_⟩
  refine W.cast (m' := m) (l' := hcells b1 [_, _, _, _, _] 47 :: l) rfl rfl ?_
  refine W.q rfl rfl rfl rfl (by decide) (Yd.as rfl .c) ?_
  refine W.q rfl rfl rfl rfl (by decide) (Yd.as rfl .c) ?_
  refine W.end ?_
  refine NX.sub (env' := [(0, _), (3, _)]) ⟨rfl, rfl, trivial⟩ ?_
  refine NX.then ?_
  refine Tr.seq ?_
  refine Tr.seq ?_
  refine Tr.region_f (fun _ => false) ?_
  refine W.q rfl rfl rfl rfl (by decide) (Yd.fldB rfl Try.underlying47 rfl SZ3 rfl (.t rfl)) ?_
  refine W.q rfl rfl rfl rfl (by decide) (Yd.ldB (pos := 0) rfl rfl rfl ON3 (.t rfl)) ?_
  refine W.q rfl rfl rfl rfl (by decide) (Yd.neq rfl (.t rfl) .c) ?_
  refine W.q rfl rfl rfl rfl (by decide) (Yd.mv rfl (.t rfl)) ?_
  refine W.g rfl rfl rfl rfl rfl (.t rfl _) rfl (by decide) (fun hG => Yd.fldB rfl Try.underlying47 rfl SZ3 rfl (.t rfl)) ?_
  refine W.g rfl rfl rfl rfl rfl (.t rfl _) rfl (by decide) (fun hG => Yd.ldB (pos := 0) rfl rfl rfl ON3 (.g rfl hG)) ?_
  refine W.g rfl rfl rfl rfl rfl (.t rfl _) rfl (by decide) (fun hG => Yd.neq rfl (.g rfl hG) .c) ?_
  refine W.q rfl rfl rfl rfl (by decide) (Yd.and rfl (.t rfl) .c rfl rfl) ?_
  refine W.q rfl rfl rfl rfl (by decide) (Yd.mv rfl (.t rfl)) ?_
  refine W.g rfl rfl rfl rfl rfl (.t rfl _) rfl (by decide) (fun hG => Yd.fldB rfl Try.underlying47 rfl SZ3 rfl (.t rfl)) ?_
  refine W.g rfl rfl rfl rfl rfl (.t rfl _) rfl (by decide) (fun hG => Yd.ldB (pos := 0) rfl rfl rfl ON3 (.g rfl hG)) ?_
  refine W.g rfl rfl rfl rfl rfl (.t rfl _) rfl (by decide) (fun hG => Yd.neq rfl (.g rfl hG) .c) ?_
  refine W.q rfl rfl rfl rfl (by decide) (Yd.and rfl (.t rfl) .c rfl rfl) ?_
  refine W.end ?_
  refine NX.sub (env' := [(0, _), (3, _), (23, _)]) ⟨rfl, rfl, rfl, trivial⟩ ?_
  refine NX.then ?_
  refine Tr.cond (.t rfl) (fun hb => ?_) (fun hb => ?_)
  · have hr := cond_t hb hr
    refine Tr.seq ?_
    refine Tr.region_f (fun _ => false) ?_
    refine W.q rfl rfl rfl rfl (by decide) (Yd.as rfl .c) ?_
    refine W.q rfl rfl rfl rfl (by decide) (Yd.as rfl .c) ?_
    refine W.end ?_
    refine NX.sub (env' := [(4, _), (5, _)]) ⟨rfl, rfl, trivial⟩ ?_
    refine NX.drop (l' := l) (.cons _ (.refl _)) ?_
    refine NX.then ?_
    refine Tr.ret' (RT.then ?_)
    refine res2 rfl rfl rfl ?_
    intro w hc
    cases hr
    exact ⟨_, rfl, (cX_nil hc)⟩
  · have hr := cond_f hb hr
    refine Tr.skip' ?_
    refine NX.then ?_
    refine Tr.seq ?_
    refine Tr.seq ?_
    refine Tr.region_f (fun _ => false) ?_
    refine W.q rfl rfl rfl rfl (by decide) (Yd.fldB rfl Try.underlying47 rfl SZ3 rfl (.t rfl)) ?_
    refine W.q rfl rfl rfl rfl (by decide) (Yd.ldB (pos := 0) rfl rfl rfl ON3 (.t rfl)) ?_
    refine W.q rfl rfl rfl rfl (by decide) (Yd.eql rfl (.t rfl) .c) ?_
    refine W.end ?_
    refine NX.sub (env' := [(0, _), (3, _), (26, _)]) ⟨rfl, rfl, rfl, trivial⟩ ?_
    refine NX.then ?_
    refine Tr.cond (.t rfl) (fun hb => ?_) (fun hb => ?_)
    · have hr := cond_t hb hr
      refine Tr.seq ?_
      obtain ⟨r3, hr4, hr⟩ := bind_some hr
      refine Tr.region_f (fun i => Nat.beq i 2) ?_
      refine W.q rfl rfl rfl rfl (by decide) (Yd.mv rfl (.t rfl)) ?_
      refine W.q rfl rfl rfl rfl (by decide) (Yd.ldBs (pos := 0) (us := [_, _, _, _, _]) rfl rfl rfl rfl ON47 US47 SZ47 (.t rfl)) ?_
      refine W.e rfl rfl rfl rfl (by decide) (Ef.call (R := fun z x' => ∃ v5 : Value, z = .tuple #[v5, .int .i64 r3.2] ∧ x' = ⟨m, hownT 42 4 Leaf.enc v5 r3.1 :: hcells b1 [.int .i64 s_1.kind, .int .i64 s_1.who.level, .int .u32 (s_1.who.parts.toNat : Int), us_1_2, .int .i64 s_1.text] 47 :: l⟩) rfl Try.func45 rfl rfl (.cons (.t rfl) (.cons (.t rfl) .nil)) (fun w hw => (syllogistref_Put_ok w0 _ _ fuel _ _ hl_0 _ _ hs_1_2 _ hr4 w hw).mono fun e w' ⟨v5, he, hc'⟩ => ⟨_, _, he, ⟨v5, rfl, rfl⟩, hc'⟩)) ?_
      rintro _ _ ⟨v5, rfl, rfl⟩
      refine ⟨.inl rfl, ?_⟩
      refine W.cast (m' := m) (l' := hownT 42 4 Leaf.enc v5 _ :: hcells b1 [_, _, _, _, _] 47 :: l) rfl rfl ?_
      refine W.q rfl rfl rfl rfl (by decide) (Yd.ext rfl (.t rfl) rfl) ?_
      refine W.q rfl rfl rfl rfl (by decide) (Yd.ext rfl (.t rfl) rfl) ?_
      refine W.q rfl rfl rfl rfl (by decide) (Yd.as rfl (.t rfl)) ?_
      refine W.q rfl rfl rfl rfl (by decide) (Yd.as rfl (.t rfl)) ?_
      refine W.end ?_
      refine NX.sub (env' := [(4, _), (5, _)]) ⟨rfl, rfl, trivial⟩ ?_
      refine NX.drop (l' := hownT 42 4 Leaf.enc v5 _ :: l) (.cons_cons _ (.cons _ (.refl _))) ?_
      refine NX.then ?_
      refine Tr.ret' (RT.then ?_)
      refine res2 rfl rfl rfl ?_
      intro w hc
      cases hr
      exact ⟨_, rfl, hc⟩
    · have hr := cond_f hb hr
      refine Tr.skip' ?_
      refine NX.then ?_
      refine Tr.seq ?_
      obtain ⟨r7, hr8, hr⟩ := bind_some hr
      refine Tr.region_f (fun _ => false) ?_
      refine W.q rfl rfl rfl rfl (by decide) (Yd.mv rfl (.t rfl)) ?_
      refine W.q rfl rfl rfl rfl (by decide) (Yd.fldB rfl Try.underlying47 rfl SZ25 rfl (.t rfl)) ?_
      refine W.q rfl rfl rfl rfl (by decide) (Yd.ldBs (pos := 0) (us := [_, _]) rfl rfl rfl rfl ON25 US25 SZ25 (.t rfl)) ?_
      refine W.q rfl rfl rfl rfl (by decide) (Yd.fldB rfl Try.underlying47 rfl SZ33 rfl (.t rfl)) ?_
      refine W.q rfl rfl rfl rfl (by decide) (Yd.ldB (pos := 0) rfl rfl rfl ON33 (.t rfl)) ?_
      refine W.q rfl rfl rfl rfl (by decide) (Yd.call (v := .int .i64 r7) rfl Try.func17 rfl rfl (.cons (.t rfl) (.cons (.t rfl) (.cons (.t rfl) .nil))) (fun x' hx w hw => syllogistref_Found_ok w0 x'.m x'.l fuel _ _ (hl_0.mono hx.1) (({ level := s_1.who.level, parts := s_1.who.parts } : Label)) _ _ (hs_1_2.mono hx.1) _ hr8 w hw)) ?_
      refine W.q rfl rfl rfl rfl (by decide) (Yd.as rfl (.t rfl)) ?_
      refine W.end ?_
      refine NX.sub (env' := [(0, _), (3, _), (6, _)]) ⟨rfl, rfl, rfl, trivial⟩ ?_
      refine NX.then ?_
      refine Tr.seq ?_
      refine Tr.seq ?_
      refine Tr.region_f (fun _ => false) ?_
      refine W.q rfl rfl rfl rfl (by decide) (Yd.mv rfl (.t rfl)) ?_
      refine W.q rfl rfl rfl rfl (by decide) (Yd.lss rfl (.t rfl) .c) ?_
      refine W.end ?_
      refine NX.sub (env' := [(0, _), (3, _), (6, _), (39, _)]) ⟨rfl, rfl, rfl, rfl, trivial⟩ ?_
      refine NX.then ?_
      refine Tr.cond (.t rfl) (fun hb => ?_) (fun hb => ?_)
      · have hr := cond_t hb hr
        refine Tr.seq ?_
        refine Tr.region_f (fun _ => false) ?_
        refine W.q rfl rfl rfl rfl (by decide) (Yd.as rfl .c) ?_
        refine W.q rfl rfl rfl rfl (by decide) (Yd.as rfl .c) ?_
        refine W.end ?_
        refine NX.sub (env' := [(4, _), (5, _)]) ⟨rfl, rfl, trivial⟩ ?_
        refine NX.drop (l' := l) (.cons _ (.refl _)) ?_
        refine NX.then ?_
        refine Tr.ret' (RT.then ?_)
        refine res2 rfl rfl rfl ?_
        intro w hc
        cases hr
        exact ⟨_, rfl, (cX_nil hc)⟩
      · have hr := cond_f hb hr
        refine Tr.skip' ?_
        refine NX.then ?_
        refine Tr.seq ?_
        refine Tr.seq ?_
        obtain ⟨y9, hy10, hr⟩ := bind_some hr
        refine Tr.region_x (fun _ => false) (fun _ => false) (Ord.of [0, 1, 2, 3, 4, 5, 6, 7]) FM (by kernel_rfl) ?_
        refine W.q rfl rfl rfl rfl (by decide) (Yd.mv rfl (.t rfl)) ?_
        refine W.q rfl rfl rfl rfl (by decide) (Yd.mv rfl (.t rfl)) ?_
        refine W.q rfl rfl rfl rfl (by decide) (Yd.idxR hl_0 hy10 rfl Try.underlying22 SZ42 (.t rfl) (.t rfl)) ?_
        refine W.q rfl rfl rfl rfl (by decide) (Yd.fldA rfl Try.underlying42 rfl SZ25 rfl (adr_head hl_0 hy10) (.t rfl)) ?_
        refine W.q rfl rfl rfl rfl (by decide) (Yd.ldFp (us := [_, _]) hl_0 (.refl _) hy10 rfl rfl rfl ON25 US25 SZ25 (.t rfl)) ?_
        refine W.q rfl rfl rfl rfl (by decide) (Yd.fldB rfl Try.underlying47 rfl SZ25 rfl (.t rfl)) ?_
        refine W.q rfl rfl rfl rfl (by decide) (Yd.ldBs (pos := 0) (us := [_, _]) rfl rfl rfl rfl ON25 US25 SZ25 (.t rfl)) ?_
        refine W.q rfl rfl rfl rfl (by decide) (Yd.neA rfl GU25 (fun w => ne_of_eq (EQ25 w y9.label.level y9.label.parts s_1.who.level s_1.who.parts)) (.t rfl) (.t rfl)) ?_
        refine W.end ?_
        refine NX.sub (env' := [(0, _), (3, _), (6, _), (47, _)]) ⟨rfl, rfl, rfl, rfl, trivial⟩ ?_
        refine NX.then ?_
        refine Tr.cond (.t rfl) (fun hb => ?_) (fun hb => ?_)
        · have hr := cond_t hb hr
          refine Tr.seq ?_
          refine Tr.region_f (fun _ => false) ?_
          refine W.q rfl rfl rfl rfl (by decide) (Yd.as rfl .c) ?_
          refine W.q rfl rfl rfl rfl (by decide) (Yd.as rfl .c) ?_
          refine W.end ?_
          refine NX.sub (env' := [(4, _), (5, _)]) ⟨rfl, rfl, trivial⟩ ?_
          refine NX.drop (l' := l) (.cons _ (.refl _)) ?_
          refine NX.then ?_
          refine Tr.ret' (RT.then ?_)
          refine res2 rfl rfl rfl ?_
          intro w hc
          cases hr
          exact ⟨_, rfl, (cX_nil hc)⟩
        · have hr := cond_f hb hr
          refine Tr.skip' ?_
          refine NX.then ?_
          refine Tr.seq ?_
          obtain ⟨hq14, hr⟩ := guard_some hr; replace hq14 := of_decide_eq_true hq14
          refine Tr.region_f (fun i => Nat.beq i 0 || Nat.beq i 2) ?_
          refine W.e rfl rfl rfl rfl (by decide) (Ef.bsT (enc := Leaf.enc) (vs := []) (ys := []) (fun _ => rfl) IF42 rfl Try.underlying22 (by decide) rfl .nil rfl rfl (by decide)) ?_
          rintro v11 _ rfl
          refine ⟨.inl rfl, ?_⟩
          refine W.cast (m' := m) (l' := hownT 42 4 Leaf.enc v11 _ :: hcells b1 [_, _, _, _, _] 47 :: l) rfl rfl ?_
          refine W.q rfl rfl rfl rfl (by decide) (Yd.mv rfl (.t rfl)) ?_
          refine W.e rfl rfl rfl rfl (by decide) (Ef.apI (pos := 0) (enc := Leaf.enc) (xs := ([] : List Leaf)) (ys := l_0) (fun _ => rfl) IF42 rfl rfl Try.underlying22 rfl (by decide) (.t rfl) (.t rfl) (Src.rs (by decide) (.refl _) hl_0) (fun _ => rfl) (by omega) (by omega)) ?_
          rintro v13 _ rfl
          refine ⟨.inl rfl, ?_⟩
          refine W.cast (m' := m) (l' := hownT 42 4 Leaf.enc v13 _ :: hcells b1 [_, _, _, _, _] 47 :: l) rfl rfl ?_
          refine W.q rfl rfl rfl rfl (by decide) (Yd.as rfl (.t rfl)) ?_
          refine W.end ?_
          refine NX.sub (env' := [(0, _), (3, _), (6, _), (7, _)]) ⟨rfl, rfl, rfl, rfl, trivial⟩ ?_
          refine NX.then ?_
          refine Tr.seq ?_
          refine Tr.seq ?_
          refine Tr.region_f (fun _ => false) ?_
          refine W.q rfl rfl rfl rfl (by decide) (Yd.fldB rfl Try.underlying47 rfl SZ3 rfl (.t rfl)) ?_
          refine W.q rfl rfl rfl rfl (by decide) (Yd.ldB (pos := 1) rfl rfl rfl ON3 (.t rfl)) ?_
          refine W.q rfl rfl rfl rfl (by decide) (Yd.eql rfl (.t rfl) .c) ?_
          refine W.end ?_
          refine NX.sub (env' := [(0, _), (3, _), (6, _), (7, _), (53, _)]) ⟨rfl, rfl, rfl, rfl, rfl, trivial⟩ ?_
          refine NX.then ?_
          refine Tr.cond (.t rfl) (fun hb => ?_) (fun hb => ?_)
          · have hr := cond_t hb hr
            refine Tr.seq ?_
            obtain ⟨y15, hy16, hr⟩ := bind_some hr
            refine Tr.region_f (fun i => Nat.beq i 6) ?_
            refine W.q rfl rfl rfl rfl (by decide) (Yd.mv rfl (.t rfl)) ?_
            refine W.q rfl rfl rfl rfl (by decide) (Yd.mv rfl (.t rfl)) ?_
            refine W.q rfl rfl rfl rfl (by decide) (Yd.fldB rfl Try.underlying47 rfl SZ3 rfl (.t rfl)) ?_
            refine W.q rfl rfl rfl rfl (by decide) (Yd.ldB (pos := 1) rfl rfl rfl ON3 (.t rfl)) ?_
            refine W.q rfl rfl rfl rfl (by decide) (Yd.idxT (pos := 0) rfl hy16 rfl Try.underlying22 SZ42 (.t rfl) (.t rfl)) ?_
            refine W.q rfl rfl rfl rfl (by decide) (Yd.fldT (pos := 0) rfl hy16 rfl Try.underlying42 rfl SZ3 rfl (.t rfl)) ?_
            refine W.s rfl rfl rfl rfl (Ef.stTf (enc := Leaf.enc) (n := 4) (pos := 0) (y := ({ up := y15.up, text := s_1.text, label := ({ level := y15.label.level, parts := y15.label.parts } : Label) } : Leaf)) (us := [_]) (fun _ => rfl) rfl hy16 rfl (.t rfl) (.t rfl) SZ3 rfl rfl rfl rfl (by decide) (Nat.le_of_ble_eq_true rfl)) ?_
            rintro _ _ ⟨rfl, rfl⟩
            refine ⟨.inl rfl, ?_⟩
            refine W.cast (m' := m) (l' := hownT 42 4 Leaf.enc v13 _ :: hcells b1 [_, _, _, _, _] 47 :: l) rfl rfl ?_
            refine W.end ?_
            refine NX.sub (env' := [(7, _)]) ⟨rfl, trivial⟩ ?_
            refine NX.drop (l' := hownT 42 4 Leaf.enc v13 _ :: l) (.cons_cons _ (.cons _ (.refl _))) ?_
            refine NX.then ?_
            refine Tr.seq ?_
            refine Tr.region_f (fun _ => false) ?_
            refine W.q rfl rfl rfl rfl (by decide) (Yd.mv rfl (.t rfl)) ?_
            refine W.q rfl rfl rfl rfl (by decide) (Yd.as rfl (.t rfl)) ?_
            refine W.q rfl rfl rfl rfl (by decide) (Yd.as rfl .c) ?_
            refine W.end ?_
            refine NX.sub (env' := [(4, _), (5, _)]) ⟨rfl, rfl, trivial⟩ ?_
            refine NX.then ?_
            refine Tr.ret' (RT.then ?_)
            refine res2 rfl rfl rfl ?_
            intro w hc
            cases hr
            exact ⟨_, rfl, hc⟩
          · have hr := cond_f hb hr
            refine Tr.skip' ?_
            refine NX.then ?_
            refine Tr.seq ?_
            obtain ⟨hq17, hr⟩ := guard_some hr; replace hq17 := of_decide_eq_true hq17
            refine Tr.region_f (fun i => Nat.beq i 2) ?_
            refine W.q rfl rfl rfl rfl (by decide) (Yd.mv rfl (.t rfl)) ?_
            refine W.q rfl rfl rfl rfl (by decide) (Yd.lenR hl_0 rfl Try.underlying22 (.t rfl)) ?_
            refine W.e rfl rfl rfl rfl (by decide) (Ef.mkT (enc := encB) false IF4 rfl Try.underlying66 rfl rfl (by decide) (.t rfl) (.t rfl) (by omega) (by omega) (by omega)) ?_
            rintro v18 _ rfl
            refine ⟨.inl rfl, ?_⟩
            refine W.cast (m' := m) (l' := hownT 4 1 encB v18 _ :: hownT 42 4 Leaf.enc v13 _ :: hcells b1 [_, _, _, _, _] 47 :: l) rfl rfl ?_
            refine W.q rfl rfl rfl rfl (by decide) (Yd.as rfl (.t rfl)) ?_
            refine W.end ?_
            refine NX.sub (env' := [(0, _), (6, _), (8, _)]) ⟨rfl, rfl, rfl, trivial⟩ ?_
            refine NX.drop (l' := hownT 4 1 encB v18 _ :: l) (.cons_cons _ (.cons _ (.cons _ (.refl _)))) ?_
            refine NX.then ?_
            refine Tr.seq ?_
            refine Tr.seq ?_
            refine Tr.region_f (fun _ => false) ?_
            refine W.q rfl rfl rfl rfl (by decide) (Yd.as rfl .c) ?_
            refine W.end ?_
            refine NX.sub (env' := [(0, _), (6, _), (8, _), (9, _)]) ⟨rfl, rfl, rfl, rfl, trivial⟩ ?_
            refine NX.then ?_
            refine Tr.join (S := fun env x => ∃ l26 : List Bool, ∃ v27 : Value, env = [(0, ul_0), (8, v27)] ∧ x = ⟨m, hownT 4 1 encB v27 l26 :: l⟩ ∧ syllogistref_Stroke_k28 l_0 fuel l26 = some r) ?_ (fun hk29 => ?_)
            · rintro _ _ ⟨l26, v27, rfl, rfl, hr⟩
              unfold syllogistref_Stroke_k28 at hr
              try dsimp only at hr
              refine NX.then ?_
              refine Tr.seq ?_
              obtain ⟨r30, hr31, hr⟩ := bind_some hr
              refine Tr.region_f (fun i => Nat.beq i 2) ?_
              refine W.q rfl rfl rfl rfl (by decide) (Yd.mv rfl (.t rfl)) ?_
              refine W.q rfl rfl rfl rfl (by decide) (Yd.mv rfl (.t rfl)) ?_
              refine W.e rfl rfl rfl rfl (by decide) (Ef.call (R := fun z x' => ∃ v32 : Value, z = v32 ∧ x' = ⟨m, hownT 42 4 Leaf.enc v32 r30 :: hownT 4 1 encB v27 l26 :: l⟩) rfl Try.func35 rfl rfl (.cons (.t rfl) (.cons (.t rfl) .nil)) (by intro w hw; obtain ⟨m2, hm2, hc2, ⟨L2, hl1, hl2⟩, hback⟩ := cX_lend (p := 0) hw rfl lone_own; have hL1 : RS rB m2 _ _ := RS_of_own hl1 hl2; exact (syllogistref_Keep_ok w0 m2 _ fuel _ _ (hl_0.mono hm2) _ _ hL1 _ hr31 w hc2).mono fun e w' ⟨v32, he, hc'⟩ => ⟨_, _, he, ⟨v32, rfl, rfl⟩, (hback m2 _ 1 w' (.refl _) rfl).2 hc'⟩)) ?_
              rintro v32 _ ⟨_, rfl, rfl⟩
              refine ⟨.inl rfl, ?_⟩
              refine W.cast (m' := m) (l' := hownT 42 4 Leaf.enc v32 _ :: hownT 4 1 encB v27 _ :: l) rfl rfl ?_
              refine W.q rfl rfl rfl rfl (by decide) (Yd.as rfl (.t rfl)) ?_
              refine W.q rfl rfl rfl rfl (by decide) (Yd.as rfl .c) ?_
              refine W.end ?_
              refine NX.sub (env' := [(4, _), (5, _)]) ⟨rfl, rfl, trivial⟩ ?_
              refine NX.drop (l' := hownT 42 4 Leaf.enc v32 _ :: l) (.cons_cons _ (.cons _ (.refl _))) ?_
              refine NX.then ?_
              refine Tr.ret' ?_
              refine res2 rfl rfl rfl ?_
              intro w hc
              cases hr
              exact ⟨_, rfl, hc⟩
            have hlen34 := (hl_0).2.1
            refine Tr.block ?_
            refine Tr.sub (env' := [(0, _), (6, _), (8, _), (9, _)]) ⟨rfl, rfl, rfl, rfl, trivial⟩ ?_
            refine Tr.loop (S := fun n (z : Int × (List Bool)) env x => match z with | (i_35, l24) => ∃ v25 : Value, env = [(0, ul_0), (6, .int .i64 r7), (8, v25), (9, .int .i64 i_35)] ∧ x = ⟨m, hownT 4 1 encB v25 l24 :: l⟩ ∧ n = ((l_0.length : Int) - i_35).toNat ∧ 0 ≤ i_35 ∧ forK (σ := (List Bool)) (fun i s nx_ => syllogistref_Stroke_b36 l_0 fuel r7 i s nx_) (fun s => syllogistref_Stroke_k28 l_0 fuel s) n i_35 l24 = some r) _ ((0 : Int), (List.replicate ((l_0.length : Int)).toNat false)) ⟨_, rfl, rfl, rfl, (by omega), hr⟩ ?_
            rintro n38 ⟨i_35, l24⟩ env x ⟨v25, rfl, rfl, hni_35, h0i_35, hr⟩
            cases n38 with
            | zero =>
              simp only [forK] at hr
              refine Tr.seq ?_
              refine Tr.seq ?_
              refine Tr.region_f (fun _ => false) ?_
              refine W.q rfl rfl rfl rfl (by decide) (Yd.mv rfl (.t rfl)) ?_
              refine W.q rfl rfl rfl rfl (by decide) (Yd.mv rfl (.t rfl)) ?_
              refine W.q rfl rfl rfl rfl (by decide) (Yd.lenR hl_0 rfl Try.underlying22 (.t rfl)) ?_
              refine W.q rfl rfl rfl rfl (by decide) (Yd.lss rfl (.t rfl) (.t rfl)) ?_
              refine W.end ?_
              refine NX.sub (env' := [(0, _), (6, _), (8, _), (9, _), (67, _)]) ⟨rfl, rfl, rfl, rfl, rfl, trivial⟩ ?_
              refine NX.then ?_
              refine Tr.cond (.t rfl) (fun hb => ?_) (fun hb => ?_)
              · exact absurd (hb.symm.trans (fr_end hni_35)) (by decide)
              ·
                refine Tr.exit' (EX.then (EX.then (EX.block ?_)))
                refine NX.sub (env' := [(0, _), (8, _)]) ⟨rfl, rfl, trivial⟩ ?_
                exact hk29 _ _ ⟨_, _, rfl, rfl, hr⟩
            | succ n38 =>
              obtain ⟨nx37, hnx37, hr⟩ := forK_succ hr
              try dsimp only at hr
              unfold syllogistref_Stroke_b36 at hr
              try dsimp only at hr
              have hlti_35 := fr_bnd hni_35
              refine Tr.seq ?_
              refine Tr.seq ?_
              refine Tr.region_f (fun _ => false) ?_
              refine W.q rfl rfl rfl rfl (by decide) (Yd.mv rfl (.t rfl)) ?_
              refine W.q rfl rfl rfl rfl (by decide) (Yd.mv rfl (.t rfl)) ?_
              refine W.q rfl rfl rfl rfl (by decide) (Yd.lenR hl_0 rfl Try.underlying22 (.t rfl)) ?_
              refine W.q rfl rfl rfl rfl (by decide) (Yd.lss rfl (.t rfl) (.t rfl)) ?_
              refine W.end ?_
              refine NX.sub (env' := [(0, _), (6, _), (8, _), (9, _), (67, _)]) ⟨rfl, rfl, rfl, rfl, rfl, trivial⟩ ?_
              refine NX.then ?_
              refine Tr.cond (.t rfl) (fun hb => ?_) (fun hb => ?_)
              rotate_left
              · exact absurd (hb.symm.trans (fr_go hni_35)) (by decide)
              ·
                refine Tr.skip' ?_
                refine NX.then ?_
                refine Tr.seq ?_
                refine Tr.block ?_
                refine Tr.seq ?_
                refine Tr.region_f (fun _ => false) ?_
                refine W.q rfl rfl rfl rfl (by decide) (Yd.mv rfl (.t rfl)) ?_
                refine W.q rfl rfl rfl rfl (by decide) (Yd.as rfl (.t rfl)) ?_
                refine W.end ?_
                refine NX.sub (env' := [(0, _), (6, _), (8, _), (9, _), (10, _)]) ⟨rfl, rfl, rfl, rfl, rfl, trivial⟩ ?_
                refine NX.then ?_
                refine Tr.seq ?_
                refine Tr.join (S := fun env x => ∃ up_41 : Int, env = [(0, ul_0), (6, .int .i64 r7), (8, v25), (9, .int .i64 i_35), (10, .int .i64 up_41)] ∧ x = ⟨m, hownT 4 1 encB v25 l24 :: l⟩ ∧ syllogistref_Stroke_k42 r7 i_35 l24 nx37 up_41 = some r) ?_ (fun hk43 => ?_)
                · rintro _ _ ⟨up_41, rfl, rfl, hr⟩
                  unfold syllogistref_Stroke_k42 at hr
                  try dsimp only at hr
                  refine NX.then ?_
                  obtain ⟨y44, hy45, hr⟩ := bind_some hr
                  refine Tr.region_f (fun i => Nat.beq i 6) ?_
                  refine W.q rfl rfl rfl rfl (by decide) (Yd.mv rfl (.t rfl)) ?_
                  refine W.q rfl rfl rfl rfl (by decide) (Yd.mv rfl (.t rfl)) ?_
                  refine W.q rfl rfl rfl rfl (by decide) (Yd.mv rfl (.t rfl)) ?_
                  refine W.q rfl rfl rfl rfl (by decide) (Yd.mv rfl (.t rfl)) ?_
                  refine W.q rfl rfl rfl rfl (by decide) (Yd.neq rfl (.t rfl) (.t rfl)) ?_
                  refine W.q rfl rfl rfl rfl (by decide) (Yd.idxT (pos := 0) rfl hy45 rfl Try.underlying66 SZ4 (.t rfl) (.t rfl)) ?_
                  refine W.s rfl rfl rfl rfl (Ef.stT (enc := encB) (n := 1) (pos := 0) (y := (up_41 != r7)) (us := [_]) (fun _ => rfl) rfl hy45 rfl (.t rfl) (.t rfl) SZ4 rfl rfl rfl (by decide)) ?_
                  rintro _ _ ⟨rfl, rfl⟩
                  refine ⟨.inl rfl, ?_⟩
                  refine W.cast (m' := m) (l' := hownT 4 1 encB v25 _ :: l) rfl rfl ?_
                  refine W.end ?_
                  refine NX.sub (env' := [(0, _), (6, _), (8, _), (9, _)]) ⟨rfl, rfl, rfl, rfl, trivial⟩ ?_
                  refine NX.block ?_
                  refine NX.then ?_
                  refine Tr.region_f (fun _ => false) ?_
                  refine W.q rfl rfl rfl rfl (by decide) (Yd.mv rfl (.t rfl)) ?_
                  refine W.q rfl rfl rfl rfl (by decide) (Yd.add rfl (.t rfl) .c) ?_
                  refine W.q rfl rfl rfl rfl (by decide) (Yd.as rfl (.t rfl)) ?_
                  refine W.end ?_
                  refine NX.sub (env' := [(0, _), (6, _), (8, _), (9, _)]) ⟨rfl, rfl, rfl, rfl, trivial⟩ ?_
                  refine NX.sub (env' := [(0, _), (6, _), (8, _), (9, _)]) ⟨rfl, rfl, rfl, rfl, trivial⟩ ?_
                  have hw := w64_id (n := i_35 + 1) (by omega) (by omega)
                  exact NX.again n38 (i_35 + 1, (l24.set i_35.toNat ((up_41 != r7)))) (Nat.lt_succ_self _) ⟨_, (by rw [hw] <;> rfl), rfl, (fr_dec hni_35), (by omega), ((hnx37 _).symm.trans hr)⟩
                refine Tr.block ?_
                refine Tr.sub (env' := [(0, _), (6, _), (8, _), (9, _), (10, _)]) ⟨rfl, rfl, rfl, rfl, rfl, trivial⟩ ?_
                refine Tr.loop (S := fun n (z : Int) env x => match z with | up_40 => env = [(0, ul_0), (6, .int .i64 r7), (8, v25), (9, .int .i64 i_35), (10, .int .i64 up_40)] ∧ x = ⟨m, hownT 4 1 encB v25 l24 :: l⟩ ∧ whileK (σ := Int) (fun s nx_ => syllogistref_Stroke_b46 l_0 r7 i_35 l24 nx37 s nx_) n up_40 = some r) _ i_35 ⟨rfl, rfl, hr⟩ ?_
                rintro n48 up_40 env x ⟨rfl, rfl, hr⟩
                cases n48 with
                | zero => simp [whileK] at hr
                | succ n48 =>
                  obtain ⟨nx47, hnx47, hr⟩ := whileK_succ hr
                  try dsimp only at hr
                  unfold syllogistref_Stroke_b46 at hr
                  try dsimp only at hr
                  refine Tr.seq ?_
                  refine Tr.seq ?_
                  refine Tr.region_f (fun _ => false) ?_
                  refine W.q rfl rfl rfl rfl (by decide) (Yd.mv rfl (.t rfl)) ?_
                  refine W.q rfl rfl rfl rfl (by decide) (Yd.mv rfl (.t rfl)) ?_
                  refine W.q rfl rfl rfl rfl (by decide) (Yd.gtr rfl (.t rfl) (.t rfl)) ?_
                  refine W.end ?_
                  refine NX.sub (env' := [(0, _), (6, _), (8, _), (9, _), (10, _), (73, _)]) ⟨rfl, rfl, rfl, rfl, rfl, rfl, trivial⟩ ?_
                  refine NX.then ?_
                  refine Tr.cond (.t rfl) (fun hb => ?_) (fun hb => ?_)
                  · have hr := cond_t hb hr
                    refine Tr.skip' ?_
                    refine NX.then ?_
                    refine Tr.block ?_
                    obtain ⟨y49, hy50, hr⟩ := bind_some hr
                    refine Tr.region_f (fun _ => false) ?_
                    refine W.q rfl rfl rfl rfl (by decide) (Yd.mv rfl (.t rfl)) ?_
                    refine W.q rfl rfl rfl rfl (by decide) (Yd.mv rfl (.t rfl)) ?_
                    refine W.q rfl rfl rfl rfl (by decide) (Yd.idxR hl_0 hy50 rfl Try.underlying22 SZ42 (.t rfl) (.t rfl)) ?_
                    refine W.q rfl rfl rfl rfl (by decide) (Yd.fldA rfl Try.underlying42 rfl SZ3 rfl (adr_head hl_0 hy50) (.t rfl)) ?_
                    refine W.q rfl rfl rfl rfl (by decide) (Yd.ldFf hl_0 (.refl _) hy50 rfl rfl ON3 (.t rfl)) ?_
                    refine W.q rfl rfl rfl rfl (by decide) (Yd.as rfl (.t rfl)) ?_
                    refine W.end ?_
                    refine NX.sub (env' := [(0, _), (6, _), (8, _), (9, _), (10, _)]) ⟨rfl, rfl, rfl, rfl, rfl, trivial⟩ ?_
                    refine NX.block ?_
                    refine NX.sub (env' := [(0, _), (6, _), (8, _), (9, _), (10, _)]) ⟨rfl, rfl, rfl, rfl, rfl, trivial⟩ ?_
                    exact NX.again n48 y49.up (Nat.lt_succ_self _) ⟨rfl, rfl, ((hnx47 _).symm.trans hr)⟩
                  · have hr := cond_f hb hr
                    refine Tr.exit' (EX.then (EX.then (EX.block ?_)))
                    refine NX.sub (env' := [(0, _), (6, _), (8, _), (9, _), (10, _)]) ⟨rfl, rfl, rfl, rfl, rfl, trivial⟩ ?_
                    exact hk43 _ _ ⟨_, rfl, rfl, hr⟩

def syllogistlaw_PenDoes_k14 (r3 : (List Leaf) × Int) (x_9 : Int) (want_10 : List Leaf) : Option (Bool) :=
  bif (!((r3.2 == x_9) == true) || (syllogistref_Leaves r3.1 want_10).isSome) then
  some (((r3.2 == x_9) && (((syllogistref_Leaves r3.1 want_10).getD false)))) else none

def syllogistlaw_PenDoes (fuel : Nat) (l_0 : List Leaf) (s_1 : Stroke) : Option (Bool) :=
  (pen_Do fuel l_0 (({ kind := s_1.kind, who := ({ level := s_1.who.level, parts := s_1.who.parts } : Label), path := s_1.path, text := s_1.text } : Stroke))).bind fun r3 =>
  (syllogistlaw_pageCode l_0 (({ level := s_1.who.level, parts := s_1.who.parts } : Label))).bind fun r7 =>
  (bif (r7 == (0 : Int)) then
  (syllogistref_Stroke fuel l_0 (({ kind := s_1.kind, who := ({ level := s_1.who.level, parts := s_1.who.parts } : Label), path := s_1.path, text := s_1.text } : Stroke))).bind fun r17 =>
  syllogistlaw_PenDoes_k14 r3 r17.2 r17.1
  else
  syllogistlaw_PenDoes_k14 r3 r7 ([]))

set_option maxRecDepth 100000 in
set_option maxHeartbeats 4000000 in
theorem syllogistlaw_PenDoes_ok (w0 : World) (m : Snap) (l : List HI) (fuel : Nat) (ul_0 : Value) (l_0 : List Leaf) (hl_0 : RS rLeaf m ul_0 l_0) (s_1 : Stroke) (us_1_2 : Value) (hs_1_2 : RS rI m us_1_2 s_1.path) (r : Bool) (hr : syllogistlaw_PenDoes fuel l_0 s_1 = some r) (w : World) (hc : cX w0 ⟨m, l⟩ w) :
    Calls Try.prog 6 [ul_0, .agg #[.int .i64 s_1.kind, .int .i64 s_1.who.level, .int .u32 (s_1.who.parts.toNat : Int), us_1_2, .int .i64 s_1.text]].toArray w fun e w' => e = .returned (.bool r) ∧ cX w0 ⟨m, l⟩ w' := by
  unfold syllogistlaw_PenDoes at hr
  refine calls_of_Tr (N := 35) Try.func6 rfl hc rfl (Nat.le_of_ble_eq_true rfl) ?_
  refine Tr.seq ?_
  refine Tr.region_f (fun i => Nat.beq i 0) ?_
  refine W.e rfl rfl rfl rfl (by decide) (Ef.bx rfl (.t rfl) rfl) ?_
  rintro _ _ ⟨b1, rfl, rfl⟩
  refine ⟨.inl rfl, ?_⟩
  refine W.cast (m' := m) (l' := hcells b1 [_, _, _, _, _] 47 :: l) rfl rfl ?_
  refine W.q rfl rfl rfl rfl (by decide) (Yd.as rfl .c) ?_
  refine W.end ?_
  refine NX.sub (env' := [(0, _), (3, _)]) ⟨rfl, rfl, trivial⟩ ?_
  refine NX.then ?_
  refine Tr.seq ?_
  obtain ⟨r3, hr4, hr⟩ := bind_some hr
  refine Tr.region_f (fun i => Nat.beq i 2) ?_
  refine W.q rfl rfl rfl rfl (by decide) (Yd.mv rfl (.t rfl)) ?_
  refine W.q rfl rfl rfl rfl (by decide) (Yd.ldBs (pos := 0) (us := [_, _, _, _, _]) rfl rfl rfl rfl ON47 US47 SZ47 (.t rfl)) ?_
  refine W.e rfl rfl rfl rfl (by decide) (Ef.call (R := fun z x' => ∃ v5 : Value, z = .tuple #[v5, .int .i64 r3.2] ∧ x' = ⟨m, hownT 42 4 Leaf.enc v5 r3.1 :: hcells b1 [.int .i64 s_1.kind, .int .i64 s_1.who.level, .int .u32 (s_1.who.parts.toNat : Int), us_1_2, .int .i64 s_1.text] 47 :: l⟩) rfl Try.func22 rfl rfl (.cons (.t rfl) (.cons (.t rfl) .nil)) (fun w hw => (pen_Do_ok w0 _ _ fuel _ _ hl_0 _ _ hs_1_2 _ hr4 w hw).mono fun e w' ⟨v5, he, hc'⟩ => ⟨_, _, he, ⟨v5, rfl, rfl⟩, hc'⟩)) ?_
  rintro _ _ ⟨v5, rfl, rfl⟩
  refine ⟨.inl rfl, ?_⟩
  refine W.cast (m' := m) (l' := hownT 42 4 Leaf.enc v5 _ :: hcells b1 [_, _, _, _, _] 47 :: l) rfl rfl ?_
  refine W.q rfl rfl rfl rfl (by decide) (Yd.mv rfl (.t rfl)) ?_
  refine W.q rfl rfl rfl rfl (by decide) (Yd.ext rfl (.t rfl) rfl) ?_
  refine W.q rfl rfl rfl rfl (by decide) (Yd.ext rfl (.t rfl) rfl) ?_
  refine W.q rfl rfl rfl rfl (by decide) (Yd.as rfl (.t rfl)) ?_
  refine W.q rfl rfl rfl rfl (by decide) (Yd.as rfl (.t rfl)) ?_
  refine W.end ?_
  refine NX.sub (env' := [(0, _), (3, _), (5, _), (6, _)]) ⟨rfl, rfl, rfl, rfl, trivial⟩ ?_
  refine NX.then ?_
  refine Tr.seq ?_
  obtain ⟨r7, hr8, hr⟩ := bind_some hr
  refine Tr.region_f (fun _ => false) ?_
  refine W.q rfl rfl rfl rfl (by decide) (Yd.mv rfl (.t rfl)) ?_
  refine W.q rfl rfl rfl rfl (by decide) (Yd.fldB rfl Try.underlying47 rfl SZ25 rfl (.t rfl)) ?_
  refine W.q rfl rfl rfl rfl (by decide) (Yd.ldBs (pos := 1) (us := [_, _]) rfl rfl rfl rfl ON25 US25 SZ25 (.t rfl)) ?_
  refine W.q rfl rfl rfl rfl (by decide) (Yd.call (v := .int .i64 r7) rfl Try.func13 rfl rfl (.cons (.t rfl) (.cons (.t rfl) .nil)) (fun x' hx w hw => syllogistlaw_pageCode_ok w0 x'.m x'.l _ _ (hl_0.mono hx.1) (({ level := s_1.who.level, parts := s_1.who.parts } : Label)) _ hr8 w hw)) ?_
  refine W.q rfl rfl rfl rfl (by decide) (Yd.as rfl (.t rfl)) ?_
  refine W.end ?_
  refine NX.sub (env' := [(0, _), (3, _), (5, _), (6, _), (7, _)]) ⟨rfl, rfl, rfl, rfl, rfl, trivial⟩ ?_
  refine NX.then ?_
  refine Tr.seq ?_
  refine Tr.region_f (fun _ => false) ?_
  refine W.q rfl rfl rfl rfl (by decide) (Yd.as rfl .c) ?_
  refine W.end ?_
  refine NX.sub (env' := [(0, _), (3, _), (5, _), (6, _), (7, _), (8, _)]) ⟨rfl, rfl, rfl, rfl, rfl, rfl, trivial⟩ ?_
  refine NX.then ?_
  refine Tr.seq ?_
  refine Tr.seq ?_
  refine Tr.region_f (fun _ => false) ?_
  refine W.q rfl rfl rfl rfl (by decide) (Yd.mv rfl (.t rfl)) ?_
  refine W.q rfl rfl rfl rfl (by decide) (Yd.eql rfl (.t rfl) .c) ?_
  refine W.end ?_
  refine NX.sub (env' := [(0, _), (3, _), (5, _), (6, _), (7, _), (8, _), (20, _)]) ⟨rfl, rfl, rfl, rfl, rfl, rfl, rfl, trivial⟩ ?_
  refine NX.then ?_
  refine Tr.join (S := fun env x => ∃ x_9 : Int, ∃ want_10 : List Leaf, ∃ m13 : Snap, ∃ u11 : Value, Sle m m13 ∧ RS rLeaf m13 u11 want_10 ∧ env = [(5, v5), (6, .int .i64 r3.2), (7, .int .i64 x_9), (8, u11)] ∧ x = ⟨m13, hownT 42 4 Leaf.enc v5 r3.1 :: l⟩ ∧ syllogistlaw_PenDoes_k14 r3 x_9 want_10 = some r) ?_ (fun hk15 => ?_)
  · rintro _ _ ⟨x_9, want_10, m13, u11, hsm13, hu12, rfl, rfl, hr⟩
    unfold syllogistlaw_PenDoes_k14 at hr
    try dsimp only at hr
    have hl_0 := hl_0.mono hsm13
    have hs_1_2 := hs_1_2.mono hsm13
    refine NX.then ?_
    refine Tr.seq ?_
    obtain ⟨ha16, hr⟩ := guard_some hr
    refine Tr.region_f (fun _ => false) ?_
    refine W.q rfl rfl rfl rfl (by decide) (Yd.mv rfl (.t rfl)) ?_
    refine W.q rfl rfl rfl rfl (by decide) (Yd.mv rfl (.t rfl)) ?_
    refine W.q rfl rfl rfl rfl (by decide) (Yd.eql rfl (.t rfl) (.t rfl)) ?_
    refine W.q rfl rfl rfl rfl (by decide) (Yd.mv rfl (.t rfl)) ?_
    refine W.g rfl rfl rfl rfl rfl (.t rfl _) rfl (by decide) (fun hG => Yd.mv rfl (.t rfl)) ?_
    refine W.g rfl rfl rfl rfl rfl (.t rfl _) rfl (by decide) (fun hG => Yd.mv rfl (.t rfl)) ?_
    refine W.g rfl rfl rfl rfl rfl (.t rfl _) rfl (by decide) (fun hG => Yd.call (v := .bool ((((syllogistref_Leaves r3.1 want_10).getD false)))) rfl Try.func14 rfl rfl (.cons (.g rfl hG) (.cons (.g rfl hG) .nil)) (by intro x' hx w hw; obtain ⟨p0, hp0⟩ := hx.at (p := 0) rfl; obtain ⟨m2, hm2, hc2, ⟨L2, hl1, hl2⟩, hback⟩ := cX_lend hw hp0 lone_own; have hL1 : RS rLeaf m2 _ _ := RS_of_own hl1 hl2; exact (syllogistref_Leaves_ok w0 m2 _ _ _ hL1 _ _ (hu12.mono (hx.1.trans hm2)) _ (gd_get (d := false) ha16 hG) w hc2).mono fun e w' ⟨he, hc'⟩ => ⟨he, (hback m2 _ _ w' (.refl _) hp0).2 hc'⟩)) ?_
    refine W.q rfl rfl rfl rfl (by decide) (Yd.and rfl (.t rfl) .c rfl rfl) ?_
    refine W.q rfl rfl rfl rfl (by decide) (Yd.as rfl (.t rfl)) ?_
    refine W.end ?_
    refine NX.sub (env' := [(4, _)]) ⟨rfl, trivial⟩ ?_
    refine NX.drop (l' := l) (.cons _ (.refl _)) ?_
    refine NX.then ?_
    refine Tr.ret' ?_
    refine res1 rfl rfl ?_
    intro w hc
    cases hr
    exact ⟨rfl, (cX_le (x := ⟨m, _⟩) ⟨hsm13, [], rfl⟩ hc)⟩
  refine Tr.cond (.t rfl) (fun hb => ?_) (fun hb => ?_)
  · have hr := cond_t hb hr
    obtain ⟨r17, hr18, hr⟩ := bind_some hr
    refine Tr.region_f (fun i => Nat.beq i 2) ?_
    refine W.q rfl rfl rfl rfl (by decide) (Yd.mv rfl (.t rfl)) ?_
    refine W.q rfl rfl rfl rfl (by decide) (Yd.ldBs (pos := 1) (us := [_, _, _, _, _]) rfl rfl rfl rfl ON47 US47 SZ47 (.t rfl)) ?_
    refine W.e rfl rfl rfl rfl (by decide) (Ef.call (R := fun z x' => ∃ v19 : Value, z = .tuple #[v19, .int .i64 r17.2] ∧ x' = ⟨m, hownT 42 4 Leaf.enc v19 r17.1 :: hownT 42 4 Leaf.enc v5 r3.1 :: hcells b1 [.int .i64 s_1.kind, .int .i64 s_1.who.level, .int .u32 (s_1.who.parts.toNat : Int), us_1_2, .int .i64 s_1.text] 47 :: l⟩) rfl Try.func23 rfl rfl (.cons (.t rfl) (.cons (.t rfl) .nil)) (fun w hw => (syllogistref_Stroke_ok w0 _ _ fuel _ _ hl_0 _ _ hs_1_2 _ hr18 w hw).mono fun e w' ⟨v19, he, hc'⟩ => ⟨_, _, he, ⟨v19, rfl, rfl⟩, hc'⟩)) ?_
    rintro _ _ ⟨v19, rfl, rfl⟩
    refine ⟨.inl rfl, ?_⟩
    refine W.cast (m' := m) (l' := hownT 42 4 Leaf.enc v19 _ :: hownT 42 4 Leaf.enc v5 _ :: hcells b1 [_, _, _, _, _] 47 :: l) rfl rfl ?_
    refine W.q rfl rfl rfl rfl (by decide) (Yd.mv rfl (.t rfl)) ?_
    refine W.q rfl rfl rfl rfl (by decide) (Yd.ext rfl (.t rfl) rfl) ?_
    refine W.q rfl rfl rfl rfl (by decide) (Yd.ext rfl (.t rfl) rfl) ?_
    refine W.q rfl rfl rfl rfl (by decide) (Yd.as rfl (.t rfl)) ?_
    refine W.q rfl rfl rfl rfl (by decide) (Yd.as rfl (.t rfl)) ?_
    refine W.end ?_
    refine NX.sub (env' := [(5, _), (6, _), (7, _), (8, _)]) ⟨rfl, rfl, rfl, rfl, trivial⟩ ?_
    refine NX.drop (l' := hownT 42 4 Leaf.enc v19 _ :: hownT 42 4 Leaf.enc v5 _ :: l) (.cons_cons _ (.cons_cons _ (.cons _ (.refl _)))) ?_
    refine NX.freezeT (enc := Leaf.enc) (n := 4) (pos := 0) (xs := r17.1) (fun _ => rfl) rfl (fun m21 hsm21 hu22 => ?_)
    have hl_0 := hl_0.mono hsm21
    have hs_1_2 := hs_1_2.mono hsm21
    refine NX.cast (m' := m21) (l' := hownT 42 4 Leaf.enc v5 _ :: l) rfl rfl ?_
    refine NX.sub (env' := [(5, _), (6, _), (7, _), (8, _)]) ⟨rfl, rfl, rfl, rfl, trivial⟩ ?_
    exact hk15 _ _ ⟨_, _, _, _, hsm21, hu22, rfl, rfl, hr⟩
  · have hr := cond_f hb hr
    refine Tr.skip' ?_
    refine NX.sub (env' := [(5, _), (6, _), (7, _), (8, _)]) ⟨rfl, rfl, rfl, rfl, trivial⟩ ?_
    refine NX.drop (l' := hownT 42 4 Leaf.enc v5 _ :: l) (.cons_cons _ (.cons _ (.refl _))) ?_
    exact hk15 _ _ ⟨_, _, _, _, (.refl _), (RS.nil rLeaf _), rfl, rfl, hr⟩

def hands_Play_k39 (l_33 : List Leaf) (l36 : List Int) : Option ((List Int) × (List Leaf) × Int) :=
  some ((l36, l_33, (0 : Int)))

def hands_Play_b45 (script_0 : List Stroke) (fuel : Nat) (t_44 : Int) (l_26 : List Leaf) (l30 : List Int) (nx46 : ((List Leaf) × (List Int)) → Option ((List Int) × (List Leaf) × Int)) : Option ((List Int) × (List Leaf) × Int) :=
  (geti script_0 t_44).bind fun y49 =>
  (pen_Do fuel l_26 (({ kind := y49.kind, who := ({ level := y49.who.level, parts := y49.who.parts } : Label), path := y49.path, text := y49.text } : Stroke))).bind fun r56 =>
  (bif (r56.2 == (0 : Int)) then
  bif decide (l30.length + (([r56.2] : List Int)).length ≤ 17592186044416) then
  nx46 (r56.1, (l30 ++ ([r56.2] : List Int))) else none
  else
  bif decide (l30.length + (([r56.2] : List Int)).length ≤ 17592186044416) then
  nx46 (l_26, (l30 ++ ([r56.2] : List Int))) else none)

def hands_Play (fuel : Nat) (script_0 : List Stroke) : Option ((List Int) × (List Leaf) × Int) :=
  (bif (decide ((script_0.length : Int) > (30 : Int))) then
  some (([], [], (1 : Int)))
  else
  forK (σ := (List Leaf) × (List Int)) (fun i s nx_ => hands_Play_b45 script_0 fuel i s.1 s.2 nx_) (fun s => hands_Play_k39 s.1 s.2) ((script_0.length : Int) - (0 : Int)).toNat (0 : Int) ((([] : List Leaf)), (([] : List Int))))

set_option maxRecDepth 100000 in
set_option maxHeartbeats 4000000 in
theorem hands_Play_ok (w0 : World) (m : Snap) (l : List HI) (fuel : Nat) (uscript_0 : Value) (script_0 : List Stroke) (hscript_0 : RS rStroke m uscript_0 script_0) (r : (List Int) × (List Leaf) × Int) (hr : hands_Play fuel script_0 = some r) (w : World) (hc : cX w0 ⟨m, l⟩ w) :
    Calls Try.prog 24 [uscript_0].toArray w fun e w' => ∃ z0 : Value, ∃ z1 : Value, ∃ m1 : Snap, e = .returned (.tuple #[z0, z1, .int .i64 r.2.2]) ∧ Sle m m1 ∧ RS rI m1 z0 r.1 ∧ RS rLeaf m1 z1 r.2.1 ∧ cX w0 ⟨m1, l⟩ w' := by
  unfold hands_Play at hr
  refine calls_of_Tr (N := 36) Try.func24 rfl hc rfl (Nat.le_of_ble_eq_true rfl) ?_
  refine Tr.seq ?_
  refine Tr.region_f (fun _ => false) ?_
  refine W.q rfl rfl rfl rfl (by decide) (Yd.as rfl .c) ?_
  refine W.q rfl rfl rfl rfl (by decide) (Yd.as rfl .c) ?_
  refine W.q rfl rfl rfl rfl (by decide) (Yd.as rfl .c) ?_
  refine W.end ?_
  refine NX.sub (env' := [(0, _)]) ⟨rfl, trivial⟩ ?_
  refine NX.then ?_
  refine Tr.seq ?_
  refine Tr.seq ?_
  refine Tr.region_f (fun _ => false) ?_
  refine W.q rfl rfl rfl rfl (by decide) (Yd.mv rfl (.t rfl)) ?_
  refine W.q rfl rfl rfl rfl (by decide) (Yd.lenR hscript_0 rfl Try.underlying50 (.t rfl)) ?_
  refine W.q rfl rfl rfl rfl (by decide) (Yd.gtr rfl (.t rfl) .c) ?_
  refine W.end ?_
  refine NX.sub (env' := [(0, _), (13, _)]) ⟨rfl, rfl, trivial⟩ ?_
  refine NX.then ?_
  refine Tr.cond (.t rfl) (fun hb => ?_) (fun hb => ?_)
  · have hr := cond_t hb hr
    refine Tr.seq ?_
    refine Tr.region_f (fun _ => false) ?_
    refine W.q rfl rfl rfl rfl (by decide) (Yd.as rfl .c) ?_
    refine W.q rfl rfl rfl rfl (by decide) (Yd.as rfl .c) ?_
    refine W.q rfl rfl rfl rfl (by decide) (Yd.as rfl .c) ?_
    refine W.end ?_
    refine NX.sub (env' := [(2, _), (3, _), (4, _)]) ⟨rfl, rfl, rfl, trivial⟩ ?_
    refine NX.then ?_
    refine Tr.ret' (RT.then ?_)
    refine res3 rfl rfl rfl rfl ?_
    intro w hc
    cases hr
    exact ⟨_, _, _, rfl, (.refl _), (RS.nil _ _), (RS.nil _ _), hc⟩
  · have hr := cond_f hb hr
    refine Tr.skip' ?_
    refine NX.then ?_
    refine Tr.seq ?_
    refine Tr.region_f (fun _ => false) ?_
    refine W.q rfl rfl rfl rfl (by decide) (Yd.as rfl .c) ?_
    refine W.end ?_
    refine NX.sub (env' := [(0, _), (5, _)]) ⟨rfl, rfl, trivial⟩ ?_
    refine NX.then ?_
    refine Tr.seq ?_
    refine Tr.region_f (fun _ => false) ?_
    refine W.q rfl rfl rfl rfl (by decide) (Yd.as rfl .c) ?_
    refine W.end ?_
    refine NX.sub (env' := [(0, _), (5, _), (6, _)]) ⟨rfl, rfl, rfl, trivial⟩ ?_
    refine NX.then ?_
    refine Tr.seq ?_
    refine Tr.seq ?_
    refine Tr.region_f (fun _ => false) ?_
    refine W.q rfl rfl rfl rfl (by decide) (Yd.mv rfl (.t rfl)) ?_
    refine W.q rfl rfl rfl rfl (by decide) (Yd.lenR hscript_0 rfl Try.underlying50 (.t rfl)) ?_
    refine W.q rfl rfl rfl rfl (by decide) (Yd.mv rfl .c) ?_
    refine W.end ?_
    refine NX.sub (env' := [(5, _), (6, _), (14, _), (15, _), (16, _)]) ⟨rfl, rfl, rfl, rfl, rfl, trivial⟩ ?_
    refine NX.then ?_
    refine Tr.addnil 26 1 ?_
    refine Tr.addnil 42 4 ?_
    refine Tr.freezeT (enc := Leaf.enc) (n := 4) (pos := 0) (xs := ([] : List Leaf)) (fun _ => rfl) rfl (fun m17 hsm17 hu18 => ?_)
    have hscript_0 := hscript_0.mono hsm17
    refine Tr.cast (m' := m17) (l' := hownT 26 1 encI (.slice none 0 0) (([] : List Int)) :: l) rfl rfl ?_
    refine Tr.join (S := fun env x => ∃ l_33 : List Leaf, ∃ l36 : List Int, ∃ m38 : Snap, ∃ u34 : Value, ∃ v37 : Value, Sle m17 m38 ∧ RS rLeaf m38 u34 l_33 ∧ env = [(5, v37), (6, u34)] ∧ x = ⟨m38, hownT 26 1 encI v37 l36 :: l⟩ ∧ hands_Play_k39 l_33 l36 = some r) ?_ (fun hk40 => ?_)
    · rintro _ _ ⟨l_33, l36, m38, u34, v37, hsm38, hu35, rfl, rfl, hr⟩
      unfold hands_Play_k39 at hr
      try dsimp only at hr
      have hscript_0 := hscript_0.mono hsm38
      have hu18 := hu18.mono hsm38
      refine NX.then ?_
      refine Tr.seq ?_
      refine Tr.region_f (fun _ => false) ?_
      refine W.q rfl rfl rfl rfl (by decide) (Yd.mv rfl (.t rfl)) ?_
      refine W.q rfl rfl rfl rfl (by decide) (Yd.mv rfl (.t rfl)) ?_
      refine W.q rfl rfl rfl rfl (by decide) (Yd.as rfl (.t rfl)) ?_
      refine W.q rfl rfl rfl rfl (by decide) (Yd.as rfl (.t rfl)) ?_
      refine W.q rfl rfl rfl rfl (by decide) (Yd.as rfl .c) ?_
      refine W.end ?_
      refine NX.sub (env' := [(2, _), (3, _), (4, _)]) ⟨rfl, rfl, rfl, trivial⟩ ?_
      refine NX.then ?_
      refine Tr.ret' ?_
      refine res3 rfl rfl rfl rfl ?_
      intro w hc
      cases hr
      obtain ⟨m41, hsm41, hu42, hc⟩ := cX_freeze (enc := encI) (n := 1) (p := 0) (fun _ => rfl) hc rfl
      have hscript_0 := hscript_0.mono hsm41
      have hu18 := hu18.mono hsm41
      have hu35 := hu35.mono hsm41
      exact ⟨_, _, _, rfl, ((hsm17.trans hsm38).trans hsm41), hu42, hu35, hc⟩
    have hlen43 := (hscript_0).2.1
    refine Tr.block ?_
    refine Tr.sub (env' := [(5, _), (6, _), (14, _), (15, _), (16, _)]) ⟨rfl, rfl, rfl, rfl, rfl, trivial⟩ ?_
    refine Tr.loop (S := fun n (z : Int × (List Leaf) × (List Int)) env x => match z with | (t_44, l_26, l30) => ∃ m32 : Snap, ∃ u27 : Value, ∃ v31 : Value, Sle m17 m32 ∧ RS rLeaf m32 u27 l_26 ∧ env = [(5, v31), (6, u27), (14, uscript_0), (15, .int .i64 ((script_0.length : Int))), (16, .int .i64 t_44)] ∧ x = ⟨m32, hownT 26 1 encI v31 l30 :: l⟩ ∧ n = ((script_0.length : Int) - t_44).toNat ∧ 0 ≤ t_44 ∧ forK (σ := (List Leaf) × (List Int)) (fun i s nx_ => hands_Play_b45 script_0 fuel i s.1 s.2 nx_) (fun s => hands_Play_k39 s.1 s.2) n t_44 (l_26, l30) = some r) _ ((0 : Int), ([] : List Leaf), ([] : List Int)) ⟨_, _, _, (.refl _), hu18, rfl, rfl, rfl, (by omega), hr⟩ ?_
    rintro n47 ⟨t_44, l_26, l30⟩ env x ⟨m32, u27, v31, hsm32, hu28, rfl, rfl, hnt_44, h0t_44, hr⟩
    have hscript_0 := hscript_0.mono hsm32
    have hu18 := hu18.mono hsm32
    cases n47 with
    | zero =>
      simp only [forK] at hr
      refine Tr.seq ?_
      refine Tr.region_f (fun _ => false) ?_
      refine W.q rfl rfl rfl rfl (by decide) (Yd.lss rfl (.t rfl) (.t rfl)) ?_
      refine W.end ?_
      refine NX.sub (env' := [(5, _), (6, _), (14, _), (15, _), (16, _), (17, _)]) ⟨rfl, rfl, rfl, rfl, rfl, rfl, trivial⟩ ?_
      refine NX.then ?_
      refine Tr.seq ?_
      refine Tr.cond (.t rfl) (fun hb => ?_) (fun hb => ?_)
      · exact absurd (hb.symm.trans (fr_end hnt_44)) (by decide)
      ·
        refine Tr.exit' (EX.then (EX.then (EX.block ?_)))
        refine NX.sub (env' := [(5, _), (6, _)]) ⟨rfl, rfl, trivial⟩ ?_
        exact hk40 _ _ ⟨_, _, _, _, _, hsm32, hu28, rfl, rfl, hr⟩
    | succ n47 =>
      obtain ⟨nx46, hnx46, hr⟩ := forK_succ hr
      try dsimp only at hr
      unfold hands_Play_b45 at hr
      try dsimp only at hr
      have hltt_44 := fr_bnd hnt_44
      refine Tr.seq ?_
      refine Tr.region_f (fun _ => false) ?_
      refine W.q rfl rfl rfl rfl (by decide) (Yd.lss rfl (.t rfl) (.t rfl)) ?_
      refine W.end ?_
      refine NX.sub (env' := [(5, _), (6, _), (14, _), (15, _), (16, _), (17, _)]) ⟨rfl, rfl, rfl, rfl, rfl, rfl, trivial⟩ ?_
      refine NX.then ?_
      refine Tr.seq ?_
      refine Tr.cond (.t rfl) (fun hb => ?_) (fun hb => ?_)
      rotate_left
      · exact absurd (hb.symm.trans (fr_go hnt_44)) (by decide)
      ·
        refine Tr.skip' ?_
        refine NX.then ?_
        refine Tr.seq ?_
        refine Tr.block ?_
        refine Tr.seq ?_
        refine Tr.addnil 3 1 ?_
        refine Tr.cast (m' := m32) (l' := hownT 3 1 encI (.slice none 0 0) (([] : List Int)) :: hownT 26 1 encI v31 l30 :: l) rfl rfl ?_
        obtain ⟨y49, hy50, hr⟩ := bind_some hr
        refine Tr.region_f (fun i => Nat.beq i 2 || Nat.beq i 3) ?_
        refine W.q rfl rfl rfl rfl (by decide) (Yd.idxR hscript_0 hy50 rfl Try.underlying50 SZ47 (.t rfl) (.t rfl)) ?_
        obtain ⟨_, ⟨u51, rfl, hu52⟩, hat53⟩ := RS.el hscript_0 hy50
        refine W.q rfl rfl rfl rfl (by decide) (Yd.ldRs hat53 (.refl _) rfl ON47 US47 SZ47 rfl (.t rfl)) ?_
        refine W.e rfl rfl rfl rfl (by decide) (Ef.al rfl ZR47 rfl) ?_
        rintro _ _ ⟨b54, rfl, rfl⟩
        refine ⟨.inl rfl, ?_⟩
        refine W.cast (m' := m32) (l' := hcells b54 [_, _, _, _, _] 47 :: hownT 3 1 encI (.slice none 0 0) (([] : List Int)) :: hownT 26 1 encI v31 _ :: l) rfl rfl ?_
        refine W.s rfl rfl rfl rfl (Ef.stBs (pos := 0) (us := [.int .i64 y49.kind, .int .i64 y49.who.level, .int .u32 (y49.who.parts.toNat : Int), u51, .int .i64 y49.text]) (cs' := [_, _, _, _, _]) (.cons (On.lit rfl) (.cons (On.lit rfl) (.cons (On.lit rfl) (.cons (On.ro hu52) (.cons (On.lit rfl) .nil))))) rfl rfl (.t rfl) (.t rfl) SZ47 rfl rfl (Nat.le_of_ble_eq_true rfl) rfl) ?_
        rintro _ _ ⟨rfl, rfl⟩
        refine ⟨.inl rfl, ?_⟩
        refine W.cast (m' := m32) (l' := hcells b54 [_, _, _, _, _] 47 :: hownT 3 1 encI (.slice none 0 0) (([] : List Int)) :: hownT 26 1 encI v31 _ :: l) rfl rfl ?_
        refine W.end ?_
        refine NX.sub (env' := [(5, _), (6, _), (14, _), (15, _), (16, _), (8, _)]) ⟨rfl, rfl, rfl, rfl, rfl, rfl, trivial⟩ ?_
        refine NX.drop (l' := hcells b54 [_, _, _, _, _] 47 :: hownT 26 1 encI v31 _ :: l) (.cons_cons _ (.cons _ (.cons_cons _ (.refl _)))) ?_
        refine NX.then ?_
        refine Tr.seq ?_
        obtain ⟨r56, hr57, hr⟩ := bind_some hr
        refine Tr.region_f (fun i => Nat.beq i 2) ?_
        refine W.q rfl rfl rfl rfl (by decide) (Yd.mv rfl (.t rfl)) ?_
        refine W.q rfl rfl rfl rfl (by decide) (Yd.ldBs (pos := 0) (us := [_, _, _, _, _]) rfl rfl rfl rfl ON47 US47 SZ47 (.t rfl)) ?_
        refine W.e rfl rfl rfl rfl (by decide) (Ef.call (R := fun z x' => ∃ v58 : Value, z = .tuple #[v58, .int .i64 r56.2] ∧ x' = ⟨m32, hownT 42 4 Leaf.enc v58 r56.1 :: hcells b54 [.int .i64 y49.kind, .int .i64 y49.who.level, .int .u32 (y49.who.parts.toNat : Int), u51, .int .i64 y49.text] 47 :: hownT 26 1 encI v31 l30 :: l⟩) rfl Try.func22 rfl rfl (.cons (.t rfl) (.cons (.t rfl) .nil)) (fun w hw => (pen_Do_ok w0 _ _ fuel _ _ hu28 _ _ hu52 _ hr57 w hw).mono fun e w' ⟨v58, he, hc'⟩ => ⟨_, _, he, ⟨v58, rfl, rfl⟩, hc'⟩)) ?_
        rintro _ _ ⟨v58, rfl, rfl⟩
        refine ⟨.inl rfl, ?_⟩
        refine W.cast (m' := m32) (l' := hownT 42 4 Leaf.enc v58 _ :: hcells b54 [_, _, _, _, _] 47 :: hownT 26 1 encI v31 _ :: l) rfl rfl ?_
        refine W.q rfl rfl rfl rfl (by decide) (Yd.mv rfl (.t rfl)) ?_
        refine W.q rfl rfl rfl rfl (by decide) (Yd.ext rfl (.t rfl) rfl) ?_
        refine W.q rfl rfl rfl rfl (by decide) (Yd.ext rfl (.t rfl) rfl) ?_
        refine W.q rfl rfl rfl rfl (by decide) (Yd.as rfl (.t rfl)) ?_
        refine W.q rfl rfl rfl rfl (by decide) (Yd.as rfl (.t rfl)) ?_
        refine W.end ?_
        refine NX.sub (env' := [(5, _), (6, _), (14, _), (15, _), (16, _), (9, _), (10, _)]) ⟨rfl, rfl, rfl, rfl, rfl, rfl, rfl, trivial⟩ ?_
        refine NX.drop (l' := hownT 42 4 Leaf.enc v58 _ :: hownT 26 1 encI v31 _ :: l) (.cons_cons _ (.cons _ (.cons_cons _ (.refl _)))) ?_
        refine NX.then ?_
        refine Tr.seq ?_
        refine Tr.seq ?_
        refine Tr.region_f (fun _ => false) ?_
        refine W.q rfl rfl rfl rfl (by decide) (Yd.mv rfl (.t rfl)) ?_
        refine W.q rfl rfl rfl rfl (by decide) (Yd.eql rfl (.t rfl) .c) ?_
        refine W.end ?_
        refine NX.sub (env' := [(5, _), (6, _), (14, _), (15, _), (16, _), (9, _), (10, _), (27, _)]) ⟨rfl, rfl, rfl, rfl, rfl, rfl, rfl, rfl, trivial⟩ ?_
        refine NX.then ?_
        refine Tr.cond (.t rfl) (fun hb => ?_) (fun hb => ?_)
        · have hr := cond_t hb hr
          refine Tr.region_f (fun _ => false) ?_
          refine W.q rfl rfl rfl rfl (by decide) (Yd.mv rfl (.t rfl)) ?_
          refine W.q rfl rfl rfl rfl (by decide) (Yd.as rfl (.t rfl)) ?_
          refine W.end ?_
          refine NX.sub (env' := [(5, _), (6, _), (14, _), (15, _), (16, _), (10, _)]) ⟨rfl, rfl, rfl, rfl, rfl, rfl, trivial⟩ ?_
          refine NX.then ?_
          obtain ⟨hq63, hr⟩ := guard_some hr; replace hq63 := of_decide_eq_true hq63
          refine Tr.region_f (fun i => Nat.beq i 2 || Nat.beq i 3) ?_
          refine W.q rfl rfl rfl rfl (by decide) (Yd.mv rfl (.t rfl)) ?_
          refine W.q rfl rfl rfl rfl (by decide) (Yd.mv rfl (.t rfl)) ?_
          refine W.e rfl rfl rfl rfl (by decide) (Ef.bsT (enc := encI) (vs := [_]) (ys := [r56.2]) (fun _ => rfl) IF26 rfl Try.underlying51 (by decide) rfl (.cons (.t rfl) .nil) rfl rfl (by decide)) ?_
          rintro v60 _ rfl
          refine ⟨.inl rfl, ?_⟩
          refine W.cast (m' := m32) (l' := hownT 26 1 encI v60 _ :: hownT 42 4 Leaf.enc v58 _ :: hownT 26 1 encI v31 _ :: l) rfl rfl ?_
          refine W.e rfl rfl rfl rfl (by decide) (Ef.apI (pos := 2) (enc := encI) (xs := l30) (ys := ([r56.2] : List Int)) (fun _ => rfl) IF26 rfl rfl Try.underlying51 rfl (by decide) (.t rfl) (.t rfl) (Src.own (pos := 0) rfl) (fun _ => rfl) (by omega) (by omega)) ?_
          rintro v62 _ rfl
          refine ⟨.inl rfl, ?_⟩
          refine W.cast (m' := m32) (l' := hownT 26 1 encI v60 _ :: hownT 42 4 Leaf.enc v58 _ :: hownT 26 1 encI v62 _ :: l) rfl rfl ?_
          refine W.q rfl rfl rfl rfl (by decide) (Yd.as rfl (.t rfl)) ?_
          refine W.end ?_
          refine NX.sub (env' := [(5, _), (6, _), (14, _), (15, _), (16, _)]) ⟨rfl, rfl, rfl, rfl, rfl, trivial⟩ ?_
          refine NX.drop (l' := hownT 42 4 Leaf.enc v58 _ :: hownT 26 1 encI v62 _ :: l) (.cons _ (.cons_cons _ (.cons_cons _ (.refl _)))) ?_
          refine NX.block ?_
          refine NX.then ?_
          refine Tr.region_f (fun _ => false) ?_
          refine W.q rfl rfl rfl rfl (by decide) (Yd.add rfl (.t rfl) .c) ?_
          refine W.q rfl rfl rfl rfl (by decide) (Yd.mv rfl (.t rfl)) ?_
          refine W.end ?_
          refine NX.sub (env' := [(5, _), (6, _), (14, _), (15, _), (16, _)]) ⟨rfl, rfl, rfl, rfl, rfl, trivial⟩ ?_
          refine NX.freezeT (enc := Leaf.enc) (n := 4) (pos := 0) (xs := r56.1) (fun _ => rfl) rfl (fun m64 hsm64 hu65 => ?_)
          have hscript_0 := hscript_0.mono hsm64
          have hu18 := hu18.mono hsm64
          have hu28 := hu28.mono hsm64
          have hu52 := hu52.mono hsm64
          refine NX.cast (m' := m64) (l' := hownT 26 1 encI v62 _ :: l) rfl rfl ?_
          refine NX.sub (env' := [(5, _), (6, _), (14, _), (15, _), (16, _)]) ⟨rfl, rfl, rfl, rfl, rfl, trivial⟩ ?_
          have hw := w64_id (n := t_44 + 1) (by omega) (by omega)
          exact NX.again n47 (t_44 + 1, r56.1, (l30 ++ ([r56.2] : List Int))) (Nat.lt_succ_self _) ⟨_, _, _, (hsm32.trans hsm64), hu65, (by rw [hw] <;> rfl), rfl, (fr_dec hnt_44), (by omega), ((hnx46 _).symm.trans hr)⟩
        · have hr := cond_f hb hr
          refine Tr.skip' ?_
          refine NX.then ?_
          obtain ⟨hq69, hr⟩ := guard_some hr; replace hq69 := of_decide_eq_true hq69
          refine Tr.region_f (fun i => Nat.beq i 2 || Nat.beq i 3) ?_
          refine W.q rfl rfl rfl rfl (by decide) (Yd.mv rfl (.t rfl)) ?_
          refine W.q rfl rfl rfl rfl (by decide) (Yd.mv rfl (.t rfl)) ?_
          refine W.e rfl rfl rfl rfl (by decide) (Ef.bsT (enc := encI) (vs := [_]) (ys := [r56.2]) (fun _ => rfl) IF26 rfl Try.underlying51 (by decide) rfl (.cons (.t rfl) .nil) rfl rfl (by decide)) ?_
          rintro v66 _ rfl
          refine ⟨.inl rfl, ?_⟩
          refine W.cast (m' := m32) (l' := hownT 26 1 encI v66 _ :: hownT 42 4 Leaf.enc v58 _ :: hownT 26 1 encI v31 _ :: l) rfl rfl ?_
          refine W.e rfl rfl rfl rfl (by decide) (Ef.apI (pos := 2) (enc := encI) (xs := l30) (ys := ([r56.2] : List Int)) (fun _ => rfl) IF26 rfl rfl Try.underlying51 rfl (by decide) (.t rfl) (.t rfl) (Src.own (pos := 0) rfl) (fun _ => rfl) (by omega) (by omega)) ?_
          rintro v68 _ rfl
          refine ⟨.inl rfl, ?_⟩
          refine W.cast (m' := m32) (l' := hownT 26 1 encI v66 _ :: hownT 42 4 Leaf.enc v58 _ :: hownT 26 1 encI v68 _ :: l) rfl rfl ?_
          refine W.q rfl rfl rfl rfl (by decide) (Yd.as rfl (.t rfl)) ?_
          refine W.end ?_
          refine NX.sub (env' := [(5, _), (6, _), (14, _), (15, _), (16, _)]) ⟨rfl, rfl, rfl, rfl, rfl, trivial⟩ ?_
          refine NX.drop (l' := hownT 26 1 encI v68 _ :: l) (.cons _ (.cons _ (.cons_cons _ (.refl _)))) ?_
          refine NX.block ?_
          refine NX.then ?_
          refine Tr.region_f (fun _ => false) ?_
          refine W.q rfl rfl rfl rfl (by decide) (Yd.add rfl (.t rfl) .c) ?_
          refine W.q rfl rfl rfl rfl (by decide) (Yd.mv rfl (.t rfl)) ?_
          refine W.end ?_
          refine NX.sub (env' := [(5, _), (6, _), (14, _), (15, _), (16, _)]) ⟨rfl, rfl, rfl, rfl, rfl, trivial⟩ ?_
          refine NX.sub (env' := [(5, _), (6, _), (14, _), (15, _), (16, _)]) ⟨rfl, rfl, rfl, rfl, rfl, trivial⟩ ?_
          have hw := w64_id (n := t_44 + 1) (by omega) (by omega)
          exact NX.again n47 (t_44 + 1, l_26, (l30 ++ ([r56.2] : List Int))) (Nat.lt_succ_self _) ⟨_, _, _, hsm32, hu28, (by rw [hw] <;> rfl), rfl, (fr_dec hnt_44), (by omega), ((hnx46 _).symm.trans hr)⟩
end Go.Proofs.Ythndckcjjhdbmaa.Sy
