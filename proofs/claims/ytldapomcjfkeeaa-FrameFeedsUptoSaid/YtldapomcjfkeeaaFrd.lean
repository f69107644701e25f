/-
  Frames out of a text: the plain law.
-/
import Derived.Test.YtldapomcjfkeeaaBat
import Derived.Test.YtldapomcjfkeeaaFour
namespace Go.Proofs.Ytldapomcjfkeeaa
set_option linter.unusedVariables false
open Pack (bat bat_get bat_nn bat_lt)

namespace Frd
def num (s : ByteArray) : Int := bat s 2 + 256 * bat s 3
theorem num_in (s : ByteArray) : 0 ≤ num s ∧ num s ≤ 65535 := by
  have h1 := bat_nn s 2; have h2 := bat_lt s 2; have h3 := bat_nn s 3; have h4 := bat_lt s 3
  unfold num; omega
def body (s : ByteArray) : Nat := (num s).toNat
def csum (s : ByteArray) : Int := Crc.more 0 (s.extract 0 (body s + 4)).data.toList
def tail4 (s : ByteArray) : Int := bat s (body s + 4) + 256 * bat s (body s + 5) + 65536 * bat s (body s + 6) + 16777216 * bat s (body s + 7)
inductive Res where
  | bad (e : Int) | more | got
noncomputable def res (s : ByteArray) : Res :=
  if 0 < s.size ∧ (bat s 0 < 1 ∨ 9 < bat s 0) then .bad 1
  else if s.size < 4 then .more
  else if 1024 < num s then .bad 2
  else if (s.size : Int) < num s + 8 then .more
  else if csum s ≠ tail4 s then .bad 5
  else .got
def frame (s : ByteArray) : Int × Int × ByteArray := (bat s 0, bat s 1, s.extract 4 (body s + 4))
def rest (s : ByteArray) : ByteArray := s.extract (body s + 8) s.size
inductive Feeds : ByteArray → List (Int × Int × ByteArray) → ByteArray → Int → Prop where
  | bad {s e} : res s = .bad e → Feeds s [] ByteArray.empty e
  | more {s} : res s = .more → Feeds s [] s 0
  | got {s l r e} : res s = .got → Feeds (rest s) l r e → Feeds s (frame s :: l) r e
theorem Feeds.uniq {s l r e l' r' e'} (h : Feeds s l r e) (h' : Feeds s l' r' e') : l = l' ∧ r = r' ∧ e = e' := by
  induction h generalizing l' r' e' with
  | bad hs => cases h' <;> simp_all
  | more hs => cases h' <;> simp_all
  | got hs h ih =>
    cases h' with
    | bad h2 => simp_all
    | more h2 => simp_all
    | got h2 h3 =>
      obtain ⟨rfl, rfl, rfl⟩ := ih h3
      exact ⟨rfl, rfl, rfl⟩
theorem got_size {s : ByteArray} (h : res s = .got) : body s + 8 ≤ s.size ∧ 4 ≤ s.size ∧ body s ≤ 1024 ∧ (body s : Int) = num s ∧ (rest s).size + 8 ≤ s.size := by
  have hn := num_in s
  unfold res at h
  split at h
  · cases h
  split at h
  · cases h
  split at h
  · cases h
  split at h
  · cases h
  have e : (body s : Int) = num s := by unfold body; omega
  refine ⟨by omega, by omega, by omega, e, ?_⟩
  unfold rest
  rw [ByteArray.size_extract]
  omega
theorem front_cases (s : ByteArray) :
    (0 < s.size ∧ (bat s 0 < 1 ∨ 9 < bat s 0) ∧ res s = .bad 1) ∨
    (¬ (0 < s.size ∧ (bat s 0 < 1 ∨ 9 < bat s 0)) ∧ s.size < 4 ∧ res s = .more) ∨
    (1 ≤ bat s 0 ∧ bat s 0 ≤ 9 ∧ 4 ≤ s.size ∧ 1024 < num s ∧ res s = .bad 2) ∨
    (1 ≤ bat s 0 ∧ bat s 0 ≤ 9 ∧ 4 ≤ s.size ∧ num s ≤ 1024 ∧ (s.size : Int) < num s + 8 ∧ res s = .more) ∨
    (1 ≤ bat s 0 ∧ bat s 0 ≤ 9 ∧ 4 ≤ s.size ∧ num s ≤ 1024 ∧ num s + 8 ≤ (s.size : Int) ∧ csum s ≠ tail4 s ∧ res s = .bad 5) ∨
    (1 ≤ bat s 0 ∧ bat s 0 ≤ 9 ∧ 4 ≤ s.size ∧ num s ≤ 1024 ∧ num s + 8 ≤ (s.size : Int) ∧ csum s = tail4 s ∧ res s = .got) := by
  unfold res
  by_cases h1 : 0 < s.size ∧ (bat s 0 < 1 ∨ 9 < bat s 0)
  · left; exact ⟨h1.1, h1.2, by rw [if_pos h1]⟩
  rw [if_neg h1]
  by_cases h2 : s.size < 4
  · right; left; exact ⟨h1, h2, by rw [if_pos h2]⟩
  rw [if_neg h2]
  have h3 : 1 ≤ bat s 0 ∧ bat s 0 ≤ 9 := by omega
  by_cases h4 : 1024 < num s
  · right; right; left; exact ⟨h3.1, h3.2, by omega, h4, by rw [if_pos h4]⟩
  rw [if_neg h4]
  by_cases h5 : (s.size : Int) < num s + 8
  · right; right; right; left; exact ⟨h3.1, h3.2, by omega, by omega, h5, by rw [if_pos h5]⟩
  rw [if_neg h5]
  by_cases h6 : csum s = tail4 s
  · right; right; right; right; right
    exact ⟨h3.1, h3.2, by omega, by omega, by omega, h6, by rw [if_neg (fun h => h h6)]⟩
  · right; right; right; right; left
    exact ⟨h3.1, h3.2, by omega, by omega, by omega, h6, by rw [if_pos h6]⟩
end Frd
attribute [irreducible] Frd.res
end Go.Proofs.Ytldapomcjfkeeaa
