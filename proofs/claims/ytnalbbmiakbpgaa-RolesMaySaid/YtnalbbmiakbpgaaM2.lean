/- All the down sets: the plain law; no program in sight. -/
import Derived.Test.YtnalbbmiakbpgaaM1
namespace Go.Proofs.Ytnalbbmiakbpgaa.Sy
set_option linter.unusedVariables false

open Classical in
noncomputable def flt (P : BitVec 32 → Prop) : Nat → List (BitVec 32)
  | 0 => []
  | j + 1 => flt P j ++ (if P (BitVec.ofNat 32 j) then [BitVec.ofNat 32 j] else [])

theorem flt_le (P : BitVec 32 → Prop) : ∀ j, (flt P j).length ≤ j
  | 0 => by simp [flt]
  | j + 1 => by
    have := flt_le P j
    unfold flt
    split <;> simp <;> omega

theorem flt_step (P : BitVec 32 → Prop) (c : BitVec 32) : (P c → flt P (c.toNat + 1) = flt P c.toNat ++ [c]) ∧ (¬ P c → flt P (c.toNat + 1) = flt P c.toNat) := by
  have hc : BitVec.ofNat 32 c.toNat = c := by simp
  constructor <;> intro h <;> rw [flt, hc]
  · rw [if_pos h]
  · rw [if_neg h, List.append_nil]

theorem words_self (l : List (BitVec 32)) : syllogistref_Words l l = some true := by
  unfold syllogistref_Words
  simp only [bne_self_eq_false, cond_false]
  refine for0_eq (fun _ _ => True) rfl () trivial (fun t s nx ht _ hnx => ?_) (fun s _ => rfl)
  unfold syllogistref_Words_b7
  rw [geti_at ht, Option.bind_some, Option.bind_some]
  simp only [bne_self_eq_false, cond_false]
  exact hnx () trivial

theorem alls_eq (n : Int) (ps : List (Int × Int)) : ∃ l, downs_All n ps = some (l, chk n ps) ∧ (chk n ps ≠ 0 → l = []) ∧ (chk n ps = 0 → ∃ m : Nat, n = m ∧ m ≤ 6 ∧ ps.length ≤ 20 ∧ l = flt (DnP ps m) (2 ^ m)) := by
  unfold downs_All
  obtain ⟨T, e, h1, h2⟩ := table_eq n ps
  rw [e, Option.bind_some]
  by_cases hc : chk n ps = 0
  · obtain ⟨m, rfl, hm, hm1, hps, hR⟩ := h2 hc
    rw [hc]
    simp only [bne_self_eq_false, cond_false, Int.toNat_natCast]
    rw [decide_eq_true (by omega), cond_true]
    have hpow : (1#32 <<< m).toNat = 2 ^ m := one_shl_toNat (by omega)
    have h64 : 2 ^ m ≤ 64 := by
      have : ∀ m, m ≤ 6 → 2 ^ m ≤ 64 := by decide
      exact this m hm
    suffices hkey : forK (fun i s nx_ => downs_All_b18 (T, 0) i s nx_) (fun s => downs_All_k15 s) ((1#32 <<< m).toNat - (0#32).toNat) 0#32 [] = some (flt (DnP ps m) (2 ^ m), (0 : Int)) by
      exact ⟨_, hkey, fun h => absurd rfl h, fun _ => ⟨m, rfl, hm, hps, rfl⟩⟩
    refine forU_q (Q := fun o => o = some (flt (DnP ps m) (2 ^ m), (0 : Int))) (fun j (l : List (BitVec 32)) => l = flt (DnP ps m) j) [] rfl (fun c l nx hlt hI hnx => ?_) (fun l hI => by rw [hI, hpow]; rfl)
    unfold downs_All_b18
    obtain ⟨r, er, hF⟩ := fill_loop hm hR c
    rw [er, Option.bind_some]
    have hle := flt_le (DnP ps m) c.toNat
    by_cases hd : DnP ps m c
    · rw [hF.same.2 hd]
      simp only [beq_self_eq_true, cond_true]
      rw [decide_eq_true (by rw [hI]; simp; omega), cond_true]
      refine hnx _ ?_
      rw [(flt_step _ c).1 hd, ← hI]
    · have : (r == c) = false := by
        rw [beq_eq_false_iff_ne]; exact fun h => hd (hF.same.1 h)
      rw [this, cond_false]
      refine hnx _ ?_
      rw [(flt_step _ c).2 hd, hI]
  · have : (chk n ps != 0) = true := by simpa using hc
    rw [this]
    exact ⟨[], rfl, fun _ => rfl, fun h => absurd h hc⟩

theorem downsAlls_true (fuel : Nat) (n : Int) (ps : List (Int × Int)) (hf : 30 < fuel := by decide) : syllogistlaw_DownsAlls fuel n ps = some true := by
  unfold syllogistlaw_DownsAlls
  obtain ⟨l, e, h1, h2⟩ := alls_eq n ps
  rw [e, Option.bind_some, check_eq fuel n ps hf, Option.bind_some]
  by_cases hc : chk n ps = 0
  · obtain ⟨m, rfl, hm, hps, hl⟩ := h2 hc
    rw [hc]
    simp only [bne_self_eq_false, cond_false]
    rw [ofInt64 (by omega)]
    have hpow : (1#32 <<< m).toNat = 2 ^ m := one_shl_toNat (by omega)
    have h64 : 2 ^ m ≤ 64 := by
      have : ∀ m, m ≤ 6 → 2 ^ m ≤ 64 := by decide
      exact this m hm
    refine forU_q (Q := fun o => o = some true) (fun j (w : List (BitVec 32)) => w = flt (DnP ps m) j) [] rfl (fun c w nx hlt hI hnx => ?_) (fun w hI => ?_)
    · unfold syllogistlaw_DownsAlls_b20
      obtain ⟨q, eq, gq⟩ := down_eq fuel m ps c hm hps hf
      have hle := flt_le (DnP ps m) c.toNat
      rw [eq, Option.bind_some]
      cases hq : q with
      | true =>
        rw [cond_true, decide_eq_true (by rw [hI]; simp; omega), cond_true]
        refine hnx _ ?_
        rw [(flt_step _ c).1 (gq.1 hq), hI]
      | false =>
        rw [cond_false]
        refine hnx _ ?_
        rw [(flt_step _ c).2 (fun h => by rw [gq.2 h] at hq; cases hq), hI]
    · unfold syllogistlaw_DownsAlls_k16
      have : w = l := by rw [hI, hl, hpow]
      rw [this, words_self]
      simp
  · have : (chk n ps != 0) = true := by simpa using hc
    rw [this, cond_true, h1 hc]
    simp
end Go.Proofs.Ytnalbbmiakbpgaa.Sy
