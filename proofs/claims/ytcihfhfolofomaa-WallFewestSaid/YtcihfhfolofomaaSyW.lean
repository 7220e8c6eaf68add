/- Structs that hold lists of themselves: how they lie, and how they are read (own lemmas); no program in sight. -/
import Derived.Test.YtcihfhfolofomaaSyN
namespace Go.Proofs.Ytcihfhfolofomaa.Sy
open Go Go.ChangeShapes Go.WideShapes

theorem RS.imp {α : Type} {R R' : Rp α} {m : Snap} {v : Value} {xs : List α} (hn : R.n = R'.n) (h : ∀ cs x, R.r m cs x → R'.r m cs x) (hs : RS R m v xs) : RS R' m v xs :=
  ⟨hs.1, hs.2.1, fun i hi => let ⟨cs, h1, h2⟩ := hs.2.2 i hi; ⟨cs, h _ _ h1, by rw [← hn]; exact h2⟩⟩
theorem ex_bound {Q : Nat → Nat → Prop} (hup : ∀ i d, Q i d → Q i (d + 1)) : ∀ n : Nat, (∀ i, i < n → ∃ d, Q i d) → ∃ d, ∀ i, i < n → Q i d
  | 0, _ => ⟨0, fun i hi => absurd hi (by omega)⟩
  | n + 1, h => by
    obtain ⟨d1, h1⟩ := ex_bound hup n fun i hi => h i (by omega)
    obtain ⟨d2, h2⟩ := h n (by omega)
    have up : ∀ i d k, Q i d → Q i (d + k) := fun i d k hq => by
      induction k with
      | zero => exact hq
      | succ k ih => exact hup i _ ih
    refine ⟨d1 + d2, fun i hi => ?_⟩
    by_cases e : i = n
    · subst e; rw [Nat.add_comm]; exact up _ _ _ h2
    · exact up _ _ _ (h1 i (by omega))
theorem RS.bound {α : Type} {F : Nat → Rp α} {R : Rp α} {m : Snap} {v : Value} {xs : List α} (hn : ∀ d, (F d).n = R.n) (hup : ∀ d cs x, (F d).r m cs x → (F (d + 1)).r m cs x) (hr : ∀ cs x, R.r m cs x → ∃ d, (F d).r m cs x) (hs : RS R m v xs) : ∃ d, RS (F d) m v xs := by
  obtain ⟨d, h⟩ := ex_bound (Q := fun i d => ∀ (hi : i < xs.length), ∃ cs, (F d).r m cs xs[i] ∧ At m v (i * R.n) cs) (fun i d hq hi => by
    obtain ⟨cs, h1, h2⟩ := hq hi
    exact ⟨cs, hup _ _ _ h1, h2⟩) xs.length (fun i hi => by
    obtain ⟨cs, h1, h2⟩ := hs.2.2 i hi
    obtain ⟨d, hd⟩ := hr _ _ h1
    exact ⟨d, fun _ => ⟨cs, hd, h2⟩⟩)
  exact ⟨d, hs.1, hs.2.1, fun i hi => by rw [hn d]; exact h i hi hi⟩
theorem RS.elB {α : Type} {R : Rp α} {m : Snap} {v : Value} {xs : List α} (h : RS R m v xs) {i : Int} {y : α} (hy : geti xs i = some y) : ∃ cs, R.r m cs y ∧ At m v (i.toNat * R.n) cs := by
  obtain ⟨h0, h1, h2⟩ := geti_some hy
  obtain ⟨hlt, he⟩ := List.getElem?_eq_some_iff.1 h2
  obtain ⟨cs, hr, ha⟩ := h.2.2 i.toNat hlt
  rw [he] at hr
  exact ⟨cs, hr, ha⟩

/-- To be read, with less fuel than N. -/
def OpnB {α : Type} (P : Program) (N : Nat) (R : Rp α) (good : α → Prop) (t : TypeId) : Prop :=
  ∀ (H : Type) (enc : TypeId × Value → H) (W : World) (fuel : Nat) (cs : List Value) (y : DataW H × List MemPlace), fuel < N → DataW.trod enc P W 0 (fun _ => true) true fuel t cs = some y → ∃ x, R.r (snapW W) cs x ∧ good x
theorem Opn.of {α : Type} {P : Program} {R : Rp α} {good : α → Prop} {t : TypeId} (h : ∀ N, OpnB P N R good t) : Opn P R good t := fun H enc W fuel cs y hy => h (fuel + 1) H enc W fuel cs y (Nat.lt_succ_self _) hy
theorem opnB_slice {α : Type} {P : Program} {N : Nat} {R : Rp α} {g : α → Prop} {t e : TypeId} (ht : P.underlying t = some (.slice e)) (hc : P.cellsOf e = R.n) (hn : 0 < R.n) (he : OpnB P N R g e) : OpnB P (N + 1) R.slice (fun xs => ∀ x ∈ xs, g x) t := by
  intro H enc W fuel cs y hlt h
  rcases DataW.trod_slice ht h with ⟨rfl, _⟩ | ⟨a, len, cap, elems, rest, n, hfu, rfl, _, _, hl, hcap, hel, hi, _, _⟩
  · exact ⟨[], ⟨_, rfl, RS.nil _ _⟩, by simp⟩
  · have hall : ∀ i, i < len → ∃ x, ∃ cs', (R.r (snapW W) cs' x ∧ g x) ∧ ∀ j, j < R.n → ((a.add (i * R.n)).add j).spot = none ∧ cellM (snapW W) a.block (a.off + i * R.n + j) = cs'[j]? := by
      intro i hilt
      have hb := hi i hilt
      rw [List.getElem?_eq_getElem (by omega)] at hb
      obtain ⟨cs', hcs, htr⟩ := Option.bind_eq_some_iff.1 hb
      obtain ⟨x, hx, hg⟩ := he H enc W n cs' _ (by omega) htr
      refine ⟨x, cs', ⟨hx, hg⟩, fun j hj => ?_⟩
      obtain ⟨_, hlen, hat⟩ := World.cells?_some hcs
      rw [hc] at hlen hat
      have hh := hat j hj
      have hsome : cs'[j]? = some (cs'[j]'(by omega)) := List.getElem?_eq_getElem (by omega)
      rw [hsome] at hh ⊢
      have hadd : ((a.add (i * R.n)).add j).block = a.block ∧ ((a.add (i * R.n)).add j).off = a.off + i * R.n + j := by
        unfold Addr.add
        split <;> split <;> simp_all
      generalize (a.add (i * R.n)).add j = A at hadd hh ⊢
      obtain ⟨b, o, sp⟩ := A
      obtain ⟨hb, ho⟩ := hadd
      simp only at hb ho
      subst hb
      unfold World.cell? at hh
      unfold cellM snapW
      simp only at hh
      cases hw : W.heap[a.block]? with
      | none => simp [hw] at hh
      | some ob =>
        rw [hw] at hh
        cases ob with
        | cells c t fr =>
          simp only at hh ⊢
          cases sp with
          | none => exact ⟨rfl, by rw [← ho]; simpa using hh⟩
          | some _ => simp at hh
        | _ => simp at hh
    have this : ∀ i, i < len → ∃ x, ∃ cs, (R.r (snapW W) cs x ∧ g x) ∧ At (snapW W) (.slice (some a) len cap) (i * R.n) cs := by
      intro i hilt
      obtain ⟨x, cs', hx, hcell⟩ := hall i hilt
      have hspot : a.spot = none := by
        obtain ⟨_, _, _, h0⟩ := hall 0 (by omega)
        have := (h0 0 hn).1
        simpa [Addr.add] using this
      have hcl : cs'.length = R.n := R.len _ _ _ hx.1
      refine ⟨x, cs', hx, ?_⟩
      obtain ⟨ab, ao, asp⟩ := a
      simp only at hspot
      subst hspot
      refine ⟨ab, ao, len, cap, rfl, fun j u hu => ?_⟩
      have hj : j < R.n := by
        have := (List.getElem?_eq_some_iff.1 hu).1
        omega
      rw [← hu]
      exact (hcell j hj).2
    obtain ⟨xs, hxl, hx⟩ := exists_list this
    subst hxl
    refine ⟨xs, ⟨_, rfl, ⟨_, _, rfl, hl⟩, by have : maxLen = 9223372036854775807 := rfl; omega, fun i hi' => ?_⟩, fun x hx' => ?_⟩
    · obtain ⟨cs, h1, h2⟩ := hx i hi'
      exact ⟨cs, h1.1, h2⟩
    · obtain ⟨i, hi', rfl⟩ := List.getElem_of_mem hx'
      obtain ⟨cs, h1, _⟩ := hx i hi'
      exact h1.2
theorem trod_fldB {H : Type} {enc : TypeId × Value → H} {P : Program} {W : World} {fuel : Nat} {cs : List Value} {x : DataW H × List MemPlace} {sp : Nat → Bool} {t : TypeId} {fs : Array Field} {k : Nat} (ht : P.underlying t = some (.struct fs)) (hk : P.cellsOf t = k) (h : DataW.trod enc P W 0 sp true fuel t cs = some x) :
    cs.length = k ∧ ∃ n, fuel = n + 1 ∧ ∀ (i : Nat) (f : Field), fs[i]? = some f → ∃ y, DataW.trod enc P W 0 sp true n f.type ((cs.drop f.offset).take (P.cellsOf f.type)) = some y := by
  obtain ⟨xs, n, hn, _, hl, hxl, hg⟩ := DataW.trod_struct ht h
  refine ⟨hl.trans hk, n, hn, fun i f hf => ?_⟩
  have hi : i < xs.length := by
    have := (Array.getElem?_eq_some_iff.1 hf).1
    omega
  exact ⟨xs[i], (hg i f hf).trans (List.getElem?_eq_getElem hi)⟩

/-! ### What the reach of a datum says -/
def okW {H : Type} (P : Program) (t : TypeId) (d : DataW H) : Prop := ∀ n ∈ d.weights P t, n ≤ reachBytes
theorem weightsAll_mem {H : Type} {P : Program} {e : TypeId} {d : DataW H} {n : Nat} : ∀ {l : List (DataW H)}, d ∈ l → n ∈ d.weights P e → n ∈ DataW.weightsAll P e l
  | a :: l, h, hn => by
    unfold DataW.weightsAll
    rcases List.mem_cons.1 h with rfl | h
    · exact List.mem_append_left _ hn
    · exact List.mem_append_right _ (weightsAll_mem h hn)
theorem weightsEach_mem {H : Type} {P : Program} {n : Nat} : ∀ {ts : List TypeId} {ds : List (DataW H)} {i : Nat} {t : TypeId} {d : DataW H}, ts[i]? = some t → ds[i]? = some d → n ∈ d.weights P t → n ∈ DataW.weightsEach P ts ds
  | t0 :: ts, d0 :: ds, 0, t, d, ht, hd, hn => by
    simp only [List.getElem?_cons_zero, Option.some.injEq] at ht hd
    subst ht hd
    unfold DataW.weightsEach
    exact List.mem_append_left _ hn
  | t0 :: ts, d0 :: ds, i + 1, t, d, ht, hd, hn => by
    simp only [List.getElem?_cons_succ] at ht hd
    unfold DataW.weightsEach
    exact List.mem_append_right _ (weightsEach_mem ht hd hn)
  | [], _, i, t, d, ht, _, _ => by simp at ht
  | _ :: _, [], i, t, d, _, hd, _ => by simp at hd
def OpnS {α : Type} (P : Program) (N : Nat) (R : Rp α) (good : α → Prop) (t : TypeId) : Prop :=
  ∀ (H : Type) (enc : TypeId × Value → H) (W : World) (fuel : Nat) (cs : List Value) (y : DataW H × List MemPlace), fuel < N → DataW.trod enc P W 0 (fun _ => true) true fuel t cs = some y → okW P t y.1 → ∃ x, R.r (snapW W) cs x ∧ good x
theorem opnS_slice {α : Type} {P : Program} {N : Nat} {R : Rp α} {g : α → Prop} {t e : TypeId} (ht : P.underlying t = some (.slice e)) (hc : P.cellsOf e = R.n) (hn : 0 < R.n) (he : OpnS P N R g e) : OpnS P (N + 1) R.slice (fun xs => xs.length * P.bytesOf e ≤ reachBytes ∧ ∀ x ∈ xs, g x) t := by
  intro H enc W fuel cs y hlt h hw
  rcases DataW.trod_slice ht h with ⟨rfl, _⟩ | ⟨a, len, cap, elems, rest, n, hfu, rfl, hy, _, hl, hcap, hel, hi, _, _⟩
  · exact ⟨[], ⟨_, rfl, RS.nil _ _⟩, by simp [reachBytes], by simp⟩
  · have hwE : ∀ i (hi : i < len), okW P e (elems[i]'(by omega)).1 := fun i hi k hk => by
      refine hw k ?_
      rw [hy]
      simp only [DataW.weights, ht]
      refine List.mem_cons_of_mem _ (List.mem_append_left _ (weightsAll_mem (d := (elems[i]'(by omega)).1) (List.mem_map.2 ⟨_, List.getElem_mem _, rfl⟩) hk))
    have hwL : len * P.bytesOf e ≤ reachBytes := by
      have h0 : ((elems.map fun x => x.1).length + (rest.map fun x => x.1).length) * P.bytesOf e ≤ reachBytes := hw _ (by
        rw [hy]
        simp only [DataW.weights, ht]
        exact List.mem_cons_self)
      have h1 : len * P.bytesOf e ≤ ((elems.map fun x => x.1).length + (rest.map fun x => x.1).length) * P.bytesOf e := Nat.mul_le_mul_right _ (by rw [List.length_map]; omega)
      omega
    have hall : ∀ i, i < len → ∃ x, ∃ cs', (R.r (snapW W) cs' x ∧ g x) ∧ ∀ j, j < R.n → ((a.add (i * R.n)).add j).spot = none ∧ cellM (snapW W) a.block (a.off + i * R.n + j) = cs'[j]? := by
      intro i hilt
      have hb := hi i hilt
      rw [List.getElem?_eq_getElem (by omega)] at hb
      obtain ⟨cs', hcs, htr⟩ := Option.bind_eq_some_iff.1 hb
      obtain ⟨x, hx, hg⟩ := he H enc W n cs' _ (by omega) htr (hwE i hilt)
      refine ⟨x, cs', ⟨hx, hg⟩, fun j hj => ?_⟩
      obtain ⟨_, hlen, hat⟩ := World.cells?_some hcs
      rw [hc] at hlen hat
      have hh := hat j hj
      have hsome : cs'[j]? = some (cs'[j]'(by omega)) := List.getElem?_eq_getElem (by omega)
      rw [hsome] at hh ⊢
      have hadd : ((a.add (i * R.n)).add j).block = a.block ∧ ((a.add (i * R.n)).add j).off = a.off + i * R.n + j := by
        unfold Addr.add
        split <;> split <;> simp_all
      generalize (a.add (i * R.n)).add j = A at hadd hh ⊢
      obtain ⟨b, o, sp⟩ := A
      obtain ⟨hb, ho⟩ := hadd
      simp only at hb ho
      subst hb
      unfold World.cell? at hh
      unfold cellM snapW
      simp only at hh
      cases hw : W.heap[a.block]? with
      | none => simp [hw] at hh
      | some ob =>
        rw [hw] at hh
        cases ob with
        | cells c t fr =>
          simp only at hh ⊢
          cases sp with
          | none => exact ⟨rfl, by rw [← ho]; simpa using hh⟩
          | some _ => simp at hh
        | _ => simp at hh
    have this : ∀ i, i < len → ∃ x, ∃ cs, (R.r (snapW W) cs x ∧ g x) ∧ At (snapW W) (.slice (some a) len cap) (i * R.n) cs := by
      intro i hilt
      obtain ⟨x, cs', hx, hcell⟩ := hall i hilt
      have hspot : a.spot = none := by
        obtain ⟨_, _, _, h0⟩ := hall 0 (by omega)
        have := (h0 0 hn).1
        simpa [Addr.add] using this
      have hcl : cs'.length = R.n := R.len _ _ _ hx.1
      refine ⟨x, cs', hx, ?_⟩
      obtain ⟨ab, ao, asp⟩ := a
      simp only at hspot
      subst hspot
      refine ⟨ab, ao, len, cap, rfl, fun j u hu => ?_⟩
      have hj : j < R.n := by
        have := (List.getElem?_eq_some_iff.1 hu).1
        omega
      rw [← hu]
      exact (hcell j hj).2
    obtain ⟨xs, hxl, hx⟩ := exists_list this
    subst hxl
    refine ⟨xs, ⟨_, rfl, ⟨_, _, rfl, hl⟩, by have : maxLen = 9223372036854775807 := rfl; omega, fun i hi' => ?_⟩, hwL, fun x hx' => ?_⟩
    · obtain ⟨cs, h1, h2⟩ := hx i hi'
      exact ⟨cs, h1.1, h2⟩
    · obtain ⟨i, hi', rfl⟩ := List.getElem_of_mem hx'
      obtain ⟨cs, h1, _⟩ := hx i hi'
      exact h1.2
theorem trod_fldS {H : Type} {enc : TypeId × Value → H} {P : Program} {W : World} {fuel : Nat} {cs : List Value} {x : DataW H × List MemPlace} {sp : Nat → Bool} {t : TypeId} {fs : Array Field} {k : Nat} (ht : P.underlying t = some (.struct fs)) (hk : P.cellsOf t = k) (h : DataW.trod enc P W 0 sp true fuel t cs = some x) (hw : okW P t x.1) :
    cs.length = k ∧ ∃ n, fuel = n + 1 ∧ ∀ (i : Nat) (f : Field), fs[i]? = some f → ∃ y, DataW.trod enc P W 0 sp true n f.type ((cs.drop f.offset).take (P.cellsOf f.type)) = some y ∧ okW P f.type y.1 := by
  obtain ⟨xs, n, hn, hx, hl, hxl, hg⟩ := DataW.trod_struct ht h
  refine ⟨hl.trans hk, n, hn, fun i f hf => ?_⟩
  have hi : i < xs.length := by
    have := (Array.getElem?_eq_some_iff.1 hf).1
    omega
  refine ⟨xs[i], (hg i f hf).trans (List.getElem?_eq_getElem hi), fun m hm => hw m ?_⟩
  rw [hx]
  simp only [DataW.weights, ht]
  exact weightsEach_mem (i := i) (t := f.type) (d := xs[i].1) (by rw [List.getElem?_map, Array.getElem?_toList, hf]; rfl) (by rw [List.getElem?_map, List.getElem?_eq_getElem hi]; rfl) hm
section
variable {P : Program} {W : World} {r : Reach} {b0 : Nat} {t : TypeId} {v : Value} {H : Type} {enc : TypeId × Value → H} {d : DataW H} {p : List MemPlace}
theorem arg_sliceS {α : Type} {R : Rp α} {g : List α → Prop} {e : TypeId} (ht : P.underlying t = some (.slice e)) (ho : ∀ N, OpnS P N R.slice g t) (hval : Value.okWide P W r b0 t v) (hd : DataW.Trod enc P W 0 (fun _ => true) true t v d p) (hw : okW P t d) : ∃ xs : List α, RS R (snapW W) v xs ∧ g xs := by
  obtain ⟨a, l, c, rfl⟩ := okWide_slice ht hval
  obtain ⟨fuel, hf⟩ := hd
  obtain ⟨x, ⟨v', hv, hx⟩, hg⟩ := ho (fuel + 1) H enc W fuel _ _ (Nat.lt_succ_self _) hf hw
  cases (hv : [Value.slice a l c] = [v'])
  exact ⟨_, hx, hg⟩
/-- The reach of one argument. -/
theorem okW_arg {ts : List TypeId} {ds gs : List (DataW H)} {i : Nat} (hsz : (DataW.weightsEach P (ts ++ []) (ds ++ gs)).all (fun n => decide (n ≤ reachBytes)) = true) (ht : ts[i]? = some t) (hd : ds[i]? = some d) : okW P t d := fun n hn => by
  rw [List.append_nil] at hsz
  have h1 := (List.getElem?_eq_some_iff.1 hd).1
  exact of_decide_eq_true (List.all_eq_true.1 hsz n (weightsEach_mem ht (by rw [List.getElem?_append_left h1]; exact hd) hn))
end
end Go.Proofs.Ytcihfhfolofomaa.Sy
