/-
  The facts of a grammar, found by rounds: what they are. (Plain functions; nothing of the program is claimed.)
-/
import Derived.Test.YtldapomcjfkeeaaFcSets
import Derived.Test.YtldapomcjfkeeaaGramChk
namespace Go.Proofs.Ytldapomcjfkeeaa
set_option linter.unusedVariables false

namespace Fc
/-- The facts, and their bounds. -/
structure Good (l : List Pr) (N : Nat) (E : List Bool) (F W : List Nat) (R M : List Bool) : Prop where
  s : Spec l N E F W R M
  e : E.length = N
  f : F.length = N
  w : W.length = N
  r : R.length = N
  m : M.length = N
  fb : ∀ i, F.getD i 0 < 2 ^ 64
  wb : ∀ i, W.getD i 0 < 2 ^ 64
theorem iterF_le {E M : List Bool} {l : List Pr} {t : Nat} {S : Nat → Bool} (hS : clF l E M t S) : ∀ {j : Nat} {X : List Nat}, (∀ p ∈ l, p.1.toNat < X.length) → (∀ i, (X.getD i 0).testBit t = true → S i = true) → ∀ i, ((iter (rdF E M l) j X).getD i 0).testBit t = true → S i = true := by
  intro j
  induction j with
  | zero => intro X _ h; exact h
  | succ j ih =>
    intro X hl h
    exact ih (fun p hp => by rw [rdF_len]; exact hl p hp) (rdF_le hS (fun p hp => hp) hl h)
theorem okP_of {t n : Int} {l : List Pr} (h : Gr.err t n l = 0) : ∀ p ∈ l, okP n.toNat p := by
  obtain ⟨h1, h2, h3, h4, h5, h6⟩ := Gr.err_zero h
  intro p hp
  obtain ⟨-, a, b, c⟩ := h6 p hp
  refine ⟨a, by omega, fun x hx => ?_⟩
  rcases Gr.right_iff.1 (c x hx) with ⟨d, e, f⟩ | ⟨d, e, f⟩
  · exact .inl ⟨d, e, by omega⟩
  · exact .inr ⟨d, e, by omega⟩
theorem getD_rep {α : Type} {n i : Nat} {d : α} : (List.replicate n d).getD i d = d := by
  rw [List.getD_eq_getElem?_getD, List.getElem?_replicate]; split <;> rfl
theorem le_rep {n : Nat} (Y : List Bool) : le (List.replicate n false) Y := fun i h => by rw [getD_rep] at h; cases h
theorem getD_rep0 {α : Type} {n i : Nat} {d v : α} (hn : 0 < n) : ((List.replicate n d).set 0 v).getD i d = if i = 0 then v else d := by
  rw [List.getD_eq_getElem?_getD, List.getElem?_set]
  by_cases h : i = 0
  · subst h; simp [hn]
  · rw [if_neg (by omega), if_neg h, List.getElem?_replicate]; split <;> rfl
theorem le_rep0 {n : Nat} {l : List Pr} (hn : 0 < n) : ∀ Y, clR l Y → le ((List.replicate n false).set 0 true) Y := fun Y hY i h => by
  rw [getD_rep0 hn] at h
  split at h
  · rename_i e; subst e; exact hY.1
  · cases h
/-- What the rounds have found. -/
structure Und (l : List Pr) (N : Nat) (E M R : List Bool) : Prop where
  e : E.length = N
  m : M.length = N
  r : R.length = N
  ee : ∀ Y, clA l false Y → le E Y
  mm : ∀ Y, clA l true Y → le M Y
  rr : ∀ Y, clR l Y → le R Y
  r0 : R.getD 0 false = true
theorem Und.init {l : List Pr} {N : Nat} (hN : 0 < N) : Und l N (List.replicate N false) (List.replicate N false) ((List.replicate N false).set 0 true) :=
  ⟨by simp, by simp, by simp, fun Y _ => le_rep Y, fun Y _ => le_rep Y, le_rep0 hN, by rw [getD_rep0 hN]; rfl⟩
theorem Und.next {l : List Pr} {N : Nat} {E M R : List Bool} (h : Und l N E M R) : Und l N (rdA false l E) (rdA true l M) (rdR l R) :=
  ⟨by rw [rdA_len]; exact h.e, by rw [rdA_len]; exact h.m, by rw [rdR_len]; exact h.r, fun Y hY => rdA_le hY (fun p hp => hp) (h.ee Y hY), fun Y hY => rdA_le hY (fun p hp => hp) (h.mm Y hY), fun Y hY => rdR_le hY (fun p hp => hp) (h.rr Y hY), rdR_ge 0 h.r0⟩
theorem okP_head {n : Nat} {l : List Pr} (h : ∀ p ∈ l, okP n p) : ∀ p ∈ l, p.1.toNat < n := fun p hp => by have := h p hp; have := this.1; have := (h p hp).2.1; omega
theorem okP_body {n : Nat} {l : List Pr} (h : ∀ p ∈ l, okP n p) : ∀ p ∈ l, ∀ x ∈ p.2, x.1 = 2 → x.2.toNat < n := fun p hp x hx h2 => by
  rcases (h p hp).2.2 x hx with ⟨a, -⟩ | ⟨-, a, b⟩ <;> omega
theorem Good.of {l : List Pr} {N : Nat} {E M R : List Bool} {j q : Nat} (hok : ∀ p ∈ l, okP N p) (hN : 0 < N) (h : Und l N E M R) (hE : rdA false l E = E) (hM : rdA true l M = M) (hR : rdR l R = R)
    (hF : rdF E M l (iter (rdF E M l) j (List.replicate N 0)) = iter (rdF E M l) j (List.replicate N 0))
    (hW : fol E (iter (rdF E M l) j (List.replicate N 0)) l (iter (fol E (iter (rdF E M l) j (List.replicate N 0)) l) q ((List.replicate N 0).set 0 9223372036854775808)) = iter (fol E (iter (rdF E M l) j (List.replicate N 0)) l) q ((List.replicate N 0).set 0 9223372036854775808)) :
    Good l N E (iter (rdF E M l) j (List.replicate N 0)) (iter (fol E (iter (rdF E M l) j (List.replicate N 0)) l) q ((List.replicate N 0).set 0 9223372036854775808)) R M := by
  have hfl : (iter (rdF E M l) j (List.replicate N 0)).length = N := by rw [iter_len (fun W => rdF_len)]; simp
  have hfb : ∀ i, (iter (rdF E M l) j (List.replicate N 0)).getD i 0 < 2 ^ 64 := iter_lt (fun W => ∀ i, W.getD i 0 < 2 ^ 64) (fun W hW => rdF_lt (fun p hp => okP_lt (hok p hp)) hW) (fun i => by rw [getD_rep]; decide)
  refine ⟨⟨LA_of h.e (okP_head hok) h.ee hE, LA_of h.m (okP_head hok) h.mm hM, LR_of h.r h.r0 (okP_body hok) h.rr hR, LF_of hfl (okP_head hok) (fun t S hS i hi => ?_) hF, ⟨⟨q, rfl⟩, hW⟩⟩, h.e, hfl, ?_, h.r, h.m, hfb, ?_⟩
  · refine iterF_le hS (j := j) (X := List.replicate N 0) (fun p hp => by simp; exact okP_head hok p hp) (fun i hi => ?_) i hi
    rw [getD_rep] at hi; simp at hi
  · rw [iter_len (fun W => fol_len)]; simp
  · refine iter_lt (fun W => ∀ i, W.getD i 0 < 2 ^ 64) (fun W hW => fol_lt hfb (fun p hp => okP_lt (hok p hp)) hW) (fun i => ?_)
    rw [getD_rep0 hN]; split <;> decide
end Fc
end Go.Proofs.Ytldapomcjfkeeaa
