/- A part of memory brought to the front, and put back (own lemmas); no program in sight. -/
import Derived.Test.YtjpoedjmoobapaaSyN
namespace Go.Proofs.Ytjpoedjmoobapaa.Sy
open Go

theorem Sat.front : ∀ {l : List HI} {L : Part} {p : Nat} {it : HI}, Sat l L → l[p]? = some it → ∃ L1 L2 L3, L = L1 ++ L2 ++ L3 ∧ it L2 ∧ Sat (l.eraseIdx p) (L1 ++ L3)
  | a :: l, L, 0, it, h, hl => by
    obtain ⟨L1, L2, rfl, h1, h2⟩ := h
    have : a = it := by simpa using hl
    subst this
    exact ⟨[], L1, L2, rfl, h1, h2⟩
  | a :: l, L, p + 1, it, h, hl => by
    obtain ⟨A, B, rfl, h1, h2⟩ := h
    obtain ⟨L1, L2, L3, rfl, h3, h4⟩ := Sat.front h2 (show l[p]? = some it by simpa using hl)
    exact ⟨A ++ L1, L2, L3, by simp, h3, A, L1 ++ L3, by simp, h1, h4⟩
theorem Sat.back : ∀ {l : List HI} {p : Nat} {it it' : HI} {M N : Part}, l[p]? = some it → Sat (l.eraseIdx p) M → it' N → ∃ M1 M3, M = M1 ++ M3 ∧ Sat (l.set p it') (M1 ++ N ++ M3)
  | a :: l, 0, it, it', M, N, hl, h, hN => ⟨[], M, rfl, N, M, rfl, hN, h⟩
  | a :: l, p + 1, it, it', M, N, hl, h, hN => by
    obtain ⟨A, B, rfl, h1, h2⟩ := h
    obtain ⟨M1, M3, rfl, h3⟩ := Sat.back (show l[p]? = some it by simpa using hl) h2 hN
    exact ⟨A ++ M1, M3, by simp, A, M1 ++ N ++ M3, by simp, h1, h3⟩
theorem cX_front {w0 w : World} {m : Snap} {l : List HI} {p : Nat} {it : HI} (hc : cX w0 ⟨m, l⟩ w) (hl : l[p]? = some it) : cX w0 ⟨m, it :: l.eraseIdx p⟩ w := by
  obtain ⟨m', hm, L, hs, hp⟩ := hc
  obtain ⟨L1, L2, L3, rfl, h1, h2⟩ := Sat.front hs hl
  refine ⟨m', hm, L2 ++ (L1 ++ L3), ⟨L2, L1 ++ L3, rfl, h1, h2⟩, hp.perm ?_⟩
  rw [← List.append_assoc]
  exact List.Perm.append_right _ List.perm_append_comm
theorem cX_back {w0 w : World} {m : Snap} {l : List HI} {p : Nat} {it it' : HI} (hc : cX w0 ⟨m, it' :: l.eraseIdx p⟩ w) (hl : l[p]? = some it) : cX w0 ⟨m, l.set p it'⟩ w := by
  obtain ⟨m', hm, L, ⟨N, M, rfl, h1, h2⟩, hp⟩ := hc
  obtain ⟨M1, M3, rfl, h3⟩ := Sat.back hl h2 h1
  refine ⟨m', hm, M1 ++ N ++ M3, h3, hp.perm ?_⟩
  rw [← List.append_assoc]
  exact List.Perm.append_right _ List.perm_append_comm
/-- A slice's value is one cell. -/
theorem RS.cells1 {α : Type} {R : Rp α} {m : Snap} {v : Value} {xs : List α} (h : RS R m v xs) : v.cells = [v].toArray := by
  obtain ⟨⟨a, cap, rfl⟩, _⟩ := h
  rfl
theorem RS.all1 {α : Type} {R : Rp α} {m : Snap} {v : Value} {xs : List α} (h : RS R m v xs) : [v].all Value.oneCell' = true := by
  obtain ⟨⟨a, cap, rfl⟩, _⟩ := h
  rfl
end Go.Proofs.Ytjpoedjmoobapaa.Sy
