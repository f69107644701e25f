/-
  What is wrong with a tree does not depend on how far one looks. (Plain; nothing of the program is claimed.)
-/
import Derived.Test.YtldapomcjfkeeaaTrSame
namespace Go.Proofs.Ytldapomcjfkeeaa
set_option linter.unusedVariables false
open Go.ChangeShapes Go.WideShapes Go.ChangeAt Go.RowKit

namespace Tr
def Tall : Nat → Tr → Prop
  | 0, _ => False
  | n + 1, t => ∀ k ∈ t.kids, Tall n k
theorem enc_tall : ∀ {n : Nat} {F : Nat → Prop} {w : World} {cs : List Value} {t : Tr}, (enc n).R F w cs t → Tall n t := by
  intro n
  induction n with
  | zero => intro F w cs t h; exact h.elim
  | succ n ih =>
    intro F w cs t h k hk
    obtain ⟨m, hm, vk, _, _, _, hs⟩ := opened h
    obtain rfl : n = m := by omega
    obtain ⟨ao, b, off, cap, _, _, _, _, _, _, h6⟩ := hs
    obtain ⟨i, hi, rfl⟩ := List.getElem_of_mem hk
    obtain ⟨cs, _, _, g3⟩ := h6 i hi
    exact ih g3
theorem lookK_congr {f g : Tr → (Int × Int) → S2 → Int × S2} : ∀ {ks : List Tr} {b : List (Int × Int)} {s : S2}, (∀ k ∈ ks, ∀ y s, f k y s = g k y s) → lookK f ks b s = lookK g ks b s := by
  intro ks
  induction ks with
  | nil => intro b s _; rfl
  | cons k ks ih =>
    intro b s h
    rw [lookK, lookK, h k (.head _)]
    split
    · exact ih (fun k hk => h k (.tail _ hk))
    · rfl
theorem look_eq {l : List (Int × List (Int × Int))} : ∀ {n m : Nat} {t : Tr} {x : Int × Int} {d : Int} {s : S2}, Tall n t → Tall m t → look l n t x d s = look l m t x d s := by
  intro n
  induction n with
  | zero => intro m t x d s h; exact h.elim
  | succ n ih =>
    intro m t x d s h1 h2
    cases m with
    | zero => exact h2.elim
    | succ m =>
      rw [look, look, lookK_congr (fun k hk y s => ih (h1 k hk) (h2 k hk))]
theorem tall_size : ∀ (n : Nat) (t : Tr), SizeOf.sizeOf t ≤ n → Tall n t := by
  intro n
  induction n with
  | zero => intro t h; cases t; simp at h
  | succ n ih =>
    intro t h k hk
    refine ih k ?_
    cases t with
    | mk p q ks =>
      have h1 := List.sizeOf_lt_of_mem (show k ∈ ks from hk)
      simp only [mk.sizeOf_spec] at h
      omega
/-- What is wrong with a tree. -/
def IsErr (tg ng : Int) (l : List (Int × List (Int × Int))) (eT : Tr → Int) : Prop := ∀ (n : Nat) (F : Nat → Prop) (w : World) (cs : List Value) (t : Tr), (enc n).R F w cs t → err tg ng l n t = eT t
theorem isErr (tg ng : Int) (l : List (Int × List (Int × Int))) : ∃ eT, IsErr tg ng l eT := by
  refine ⟨fun t => err tg ng l (SizeOf.sizeOf t) t, fun n F w cs t h => ?_⟩
  unfold err
  rw [look_eq (enc_tall h) (tall_size (SizeOf.sizeOf t) t (Nat.le_refl _))]
theorem look_T {tg ng : Int} {l : List (Int × List (Int × Int))} {eT : Tr → Int} (he : IsErr tg ng l eT) (hg : Gr.err tg ng l = 0) {n : Nat} {F : Nat → Prop} {w : World} {cs : List Value} {t : Tr} (h : (enc n).R F w cs t) : (look l n t (2, 0) 1 (0, 0)).1 = eT t := by
  rw [← he n F w cs t h, err, if_pos hg]
/-- What reading answers. -/
def outc (g : Int) (eT : Tr → Int) (N : Nat) (T : Option Tr) : Int × Tr :=
  if g ≠ 0 then (g, nil) else if 2000 < N then (2, nil) else match T with
    | none => (4, nil)
    | some t => if eT t = 0 then (0, t) else (eT t, nil)
section
variable {g : Int} {eT : Tr → Int} {N : Nat} {T : Option Tr} {t : Tr}
theorem outc_gr (h : g ≠ 0) : outc g eT N T = (g, nil) := by unfold outc; rw [if_pos h]
theorem outc_big (h2 : 2000 < N) : outc 0 eT N T = (2, nil) := by unfold outc; rw [if_neg (by simp), if_pos h2]
theorem outc_none (h2 : ¬ 2000 < N) : outc 0 eT N none = (4, nil) := by unfold outc; rw [if_neg (by simp), if_neg h2]
theorem outc_ok (h2 : ¬ 2000 < N) (h3 : eT t = 0) : outc 0 eT N (some t) = (0, t) := by unfold outc; rw [if_neg (by simp), if_neg h2]; simp only [h3, if_true]
theorem outc_bad (h2 : ¬ 2000 < N) (h3 : eT t ≠ 0) : outc 0 eT N (some t) = (eT t, nil) := by unfold outc; rw [if_neg (by simp), if_neg h2]; simp only [h3, if_false]
end
/-- The trees of a whole text. -/
def ofDn (chk : Bool) (G : Gm) (E : List Ev) : Option Tr := match dn chk G (E.length + 1) (2, 0) E 0 with
  | some (t, [], _) => some t
  | _ => none
def ofUp (G : Gm) (E : List Ev) : Option Tr := match up G E with
  | some ([(t, h)], _) => if h = 0 then some t else none
  | _ => none
def ofRu (G : Gm) (E : List Ev) : Option Tr := match ru G (E.length + 1) (2, 0) E.reverse with
  | some (t, []) => some t
  | _ => none
theorem ofDn_some {chk : Bool} {G : Gm} {E : List Ev} {t : Tr} : ofDn chk G E = some t ↔ ∃ c, dn chk G (E.length + 1) (2, 0) E 0 = some (t, [], c) := by
  unfold ofDn
  constructor
  · intro h
    split at h
    · rename_i t' c' hd; cases h; exact ⟨c', hd⟩
    · cases h
  · rintro ⟨c, h⟩; rw [h]
theorem ofUp_some {G : Gm} {E : List Ev} {t : Tr} : ofUp G E = some t ↔ ∃ c, up G E = some ([(t, 0)], c) := by
  unfold ofUp
  constructor
  · intro h
    split at h
    · rename_i t' h' c' hd
      split at h
      · rename_i h0; cases h; subst h0; exact ⟨c', hd⟩
      · cases h
    · cases h
  · rintro ⟨c, h⟩; rw [h]; simp
theorem ofRu_some {G : Gm} {E : List Ev} {t : Tr} : ofRu G E = some t ↔ ru G (E.length + 1) (2, 0) E.reverse = some (t, []) := by
  unfold ofRu
  constructor
  · intro h
    split at h
    · rename_i t' hd; cases h; exact hd
    · cases h
  · intro h; rw [h]
theorem down_same {G : Gm} {E : List Ev} : ofDn true G E = if ord E 0 then ofDn false G E else none := by
  apply Option.ext
  intro t
  rw [ofDn_some, dn_whole]
  cases ho : ord E 0
  · simp
  · simp [ofDn_some]
theorem up_same {G : Gm} (hG : ∀ p ∈ G, 0 ≤ p.1) {E : List Ev} : ofUp G E = if ord E 0 then ofRu G E else none := by
  apply Option.ext
  intro t
  rw [ofUp_some, up_whole hG (f := E.length + 1) (Nat.lt_succ_self _)]
  cases ho : ord E 0
  · simp
  · simp [ofRu_some]
/-- What the calls that read trees give back. -/
def Gives (r : Int × Tr) (w : World) (e : Ending) (w' : World) : Prop :=
  ∃ (ao : Option Addr) (n c : Nat) (fp : List Nat), e = .returned (.tuple #[.agg #[.int .i64 r.2.prod, .int .i64 r.2.tok, .slice ao n c], .int .i64 r.1]) ∧ In64 r.2.prod ∧ In64 r.2.tok ∧ St w w' [aEnc (any.sl 40) fp [.slice ao n c] r.2.kids]
theorem gives_nil {E : Int} {w w' : World} {μ : List Asrt} (h : St w w' μ) : Gives (E, nil) w (.returned (.tuple #[.agg #[.int .i64 0, .int .i64 0, .slice Option.none 0 0], .int .i64 E])) w' :=
  ⟨Option.none, 0, 0, [], rfl, ⟨(by show (-9223372036854775808 : Int) ≤ 0; decide), (by show (0 : Int) ≤ 9223372036854775807; decide)⟩, ⟨(by show (-9223372036854775808 : Int) ≤ 0; decide), (by show (0 : Int) ≤ 9223372036854775807; decide)⟩, ((St.init w).call h.bel).push (Below.refl _ _) sl_nil (fun b hb => by simp [aEnc] at hb) (by simp [aEnc])⟩
end Tr
end Go.Proofs.Ytldapomcjfkeeaa
