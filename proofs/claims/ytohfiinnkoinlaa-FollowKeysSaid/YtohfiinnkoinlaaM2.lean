/- All the closed sets: the plain law; no program in sight. -/
import Derived.Test.YtohfiinnkoinlaaM1
namespace Go.Proofs.Ytohfiinnkoinlaa.Sy
set_option linter.unusedVariables false

open Classical in
noncomputable def flt (P : BitVec 32 → Prop) : Nat → List (BitVec 32)
  | 0 => []
  | j + 1 => flt P j ++ (if P (BitVec.ofNat 32 j) then [BitVec.ofNat 32 j] else [])

theorem flt_le (P : BitVec 32 → Prop) : ∀ j, (flt P j).length ≤ j
  | 0 => by simp [flt]
  | j + 1 => by
    have := flt_le P j
    unfold flt
    split <;> simp <;> omega

theorem flt_step (P : BitVec 32 → Prop) (c : BitVec 32) : (P c → flt P (c.toNat + 1) = flt P c.toNat ++ [c]) ∧ (¬ P c → flt P (c.toNat + 1) = flt P c.toNat) := by
  have hc : BitVec.ofNat 32 c.toNat = c := by simp
  constructor <;> intro h <;> rw [flt, hc]
  · rw [if_pos h]
  · rw [if_neg h, List.append_nil]

theorem words_self (l : List (BitVec 32)) : syllogistref_Words l l = some true := by
  unfold syllogistref_Words
  simp only [bne_self_eq_false, cond_false]
  refine for0_eq (fun _ _ => True) rfl () trivial (fun t s nx ht _ hnx => ?_) (fun s _ => rfl)
  unfold syllogistref_Words_b7
  rw [geti_at ht, Option.bind_some, Option.bind_some]
  simp only [bne_self_eq_false, cond_false]
  exact hnx () trivial

theorem closed_same {l : List Rule} {s r : BitVec 32} (h : Lst l s r) : r = s ↔ Cl l s :=
  ⟨fun e => e ▸ h.cl, fun hc => (h.least s (sb_refl s) hc).antisymm h.sup⟩

theorem followCloseds_true (fuel : Nat) (n : Int) (l : List Rule) (hf : 8589934600 < fuel := by decide) : syllogistlaw_FollowCloseds fuel n l = some true := by
  unfold syllogistlaw_FollowCloseds follow_Closed
  rw [check_eq n l [] 0#32 (fun k => ⟨fun _ i hi => absurd hi (by simp), fun _ j e => by simp at e⟩), Option.bind_some, rulesCheck_eq]
  by_cases hc : rcode n l 0#32 = 0
  · obtain ⟨m, rfl, hm, hl, _⟩ := rcode_ok hc
    rw [hc]
    simp only [bne_self_eq_false, cond_false, Int.toNat_natCast]
    rw [decide_eq_true (by omega), cond_true]
    have hpow : (1#32 <<< m).toNat = 2 ^ m := one_shl_toNat (by omega)
    have h64 : 2 ^ m ≤ 64 := by
      have : ∀ m, m ≤ 6 → 2 ^ m ≤ 64 := by decide
      exact this m hm
    have hkey : forK (fun i s nx_ => follow_Closed_b16 l fuel i s nx_) (fun s => follow_Closed_k13 s) ((1#32 <<< m).toNat - (0#32).toNat) 0#32 [] = some (flt (Cl l) (2 ^ m), (0 : Int)) := by
      refine forU_q (Q := fun o => o = some (flt (Cl l) (2 ^ m), (0 : Int))) (fun j (w : List (BitVec 32)) => w = flt (Cl l) j) [] rfl (fun c w nx hlt hI hnx => ?_) (fun w hI => by rw [hI, hpow]; rfl)
      unfold follow_Closed_b16
      obtain ⟨r, er, hF⟩ := fclosed_eq fuel l c hf
      rw [er, Option.bind_some]
      have hle := flt_le (Cl l) c.toNat
      by_cases hd : Cl l c
      · rw [(closed_same hF).2 hd]
        simp only [beq_self_eq_true, cond_true]
        rw [decide_eq_true (by rw [hI]; simp; omega), cond_true]
        refine hnx _ ?_
        rw [(flt_step _ c).1 hd, ← hI]
      · have : (r == c) = false := by
          rw [beq_eq_false_iff_ne]; exact fun h => hd ((closed_same hF).1 h)
        rw [this, cond_false]
        refine hnx _ ?_
        rw [(flt_step _ c).2 hd, hI]
    rw [hkey, Option.bind_some, Option.bind_some]
    simp only [bne_self_eq_false, cond_false]
    rw [ofInt64 (by omega)]
    refine forU_q (Q := fun o => o = some true) (fun j (w : List (BitVec 32)) => w = flt (Cl l) j) [] rfl (fun c w nx hlt hI hnx => ?_) (fun w hI => ?_)
    · unfold syllogistlaw_FollowCloseds_b20
      obtain ⟨q, eq, gq⟩ := closed_eq l c
      have hle := flt_le (Cl l) c.toNat
      rw [eq, Option.bind_some]
      cases hq : q with
      | true =>
        rw [cond_true, decide_eq_true (by rw [hI]; simp; omega), cond_true]
        refine hnx _ ?_
        rw [(flt_step _ c).1 (gq.1 hq), hI]
      | false =>
        rw [cond_false]
        refine hnx _ ?_
        rw [(flt_step _ c).2 (fun h => by rw [gq.2 h] at hq; cases hq), hI]
    · unfold syllogistlaw_FollowCloseds_k16
      have : w = flt (Cl l) (2 ^ m) := by rw [hI, hpow]
      rw [this, words_self]
      simp
  · have : (rcode n l 0#32 != 0) = true := by simpa using hc
    simp [this]
end Go.Proofs.Ytohfiinnkoinlaa.Sy
