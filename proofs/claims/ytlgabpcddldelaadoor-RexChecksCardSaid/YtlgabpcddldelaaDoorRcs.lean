/-
  A regular expression as text. (Plain functions; nothing of the program is claimed.)
-/
import Derived.Test.YtlgabpcddldelaaDoorRcr
namespace Go.Proofs.YtlgabpcddldelaaDoor
set_option linter.unusedVariables false

namespace Rcs
def brk (ks : List Int) (k : Int) (s : ByteArray) : ByteArray := if ks.contains k = true then ⟨#[40]⟩ ++ s ++ ⟨#[41]⟩ else s
def sh : Nat → Rx → ByteArray
  | 0, _ => ⟨#[]⟩
  | f + 1, t =>
    if t.kind = 2 then ⟨#[40, 41]⟩ else if t.kind = 1 then ⟨#[91, 93]⟩ else if t.kind = 3 then Rct.cls (Dm.mem (Rx.ws t))
    else if t.kind = 6 then brk [4, 5, 6] (t.kids.getD 0 Rx.nil).kind (sh f (t.kids.getD 0 Rx.nil)) ++ ⟨#[42]⟩
    else if t.kind = 4 then brk [5] (t.kids.getD 0 Rx.nil).kind (sh f (t.kids.getD 0 Rx.nil)) ++ brk [5, 4] (t.kids.getD 1 Rx.nil).kind (sh f (t.kids.getD 1 Rx.nil))
    else brk [] (t.kids.getD 0 Rx.nil).kind (sh f (t.kids.getD 0 Rx.nil)) ++ ⟨#[124]⟩ ++ brk [5] (t.kids.getD 1 Rx.nil).kind (sh f (t.kids.getD 1 Rx.nil))
theorem brk_nil (k : Int) (s : ByteArray) : brk [] k s = s := rfl
theorem brk_size (ks : List Int) (k : Int) (s : ByteArray) : (brk ks k s).size ≤ s.size + 2 := by
  unfold brk
  split
  · rw [ByteArray.size_append, ByteArray.size_append]
    show 1 + _ + 1 ≤ _; omega
  · omega
theorem kids1 {f : Nat} {t : Rx} (h : t.kids.length = 1) : Rx.cnt (f + 1) t = 1 + Rx.cnt f (t.kids.getD 0 Rx.nil) := by
  rw [Rx.cnt]
  generalize t.kids = l at *
  match l, h with
  | [a], _ => simp
theorem kids2 {f : Nat} {t : Rx} (h : t.kids.length = 2) : Rx.cnt (f + 1) t = 1 + Rx.cnt f (t.kids.getD 0 Rx.nil) + Rx.cnt f (t.kids.getD 1 Rx.nil) := by
  rw [Rx.cnt]
  generalize t.kids = l at *
  match l, h with
  | [a, b], _ => simp; omega
theorem good_kid {f : Nat} {t : Rx} {i : Nat} (h : Rx.good (f + 1) t) (hi : i < t.kids.length) : Rx.good f (t.kids.getD i Rx.nil) := by
  refine h.2 _ ?_
  rw [List.getD_eq_getElem?_getD, List.getElem?_eq_getElem hi]
  exact List.getElem_mem hi
theorem sh_size : ∀ {f : Nat} {t : Rx}, Rx.good f t → (sh f t).size ≤ 2400 * Rx.cnt f t := by
  intro f
  induction f with
  | zero => intro t h; exact h.elim
  | succ f ih =>
    intro t h
    have hp := Rx.cnt_pos (f + 1) t
    rcases Rx.good_kind h with ⟨hk, _, _⟩ | ⟨hk, _, _⟩ | ⟨hk, hl, _⟩ | ⟨hk, hl, _⟩
    · rw [sh]
      rcases hk with hk | hk
      · rw [if_neg (by omega), if_pos hk]; show 2 ≤ _; omega
      · rw [if_pos hk]; show 2 ≤ _; omega
    · rw [sh, if_neg (by omega), if_neg (by omega), if_pos hk]
      have := Rct.cls_size (p := Dm.mem (Rx.ws t))
      omega
    · rw [sh, if_neg (by omega), if_neg (by omega), if_neg (by omega), if_pos hk, ByteArray.size_append, kids1 hl]
      have h1 := ih (good_kid h (i := 0) (by omega))
      have h2 := brk_size [4, 5, 6] (t.kids.getD 0 Rx.nil).kind (sh f (t.kids.getD 0 Rx.nil))
      show _ + 1 ≤ _
      omega
    · have h1 := ih (good_kid h (i := 0) (by omega))
      have h2 := ih (good_kid h (i := 1) (by omega))
      rw [kids2 hl]
      rcases hk with hk | hk
      · rw [sh, if_neg (by omega), if_neg (by omega), if_neg (by omega), if_neg (by omega), if_pos hk, ByteArray.size_append]
        have h3 := brk_size [5] (t.kids.getD 0 Rx.nil).kind (sh f (t.kids.getD 0 Rx.nil))
        have h4 := brk_size [5, 4] (t.kids.getD 1 Rx.nil).kind (sh f (t.kids.getD 1 Rx.nil))
        omega
      · rw [sh, if_neg (by omega), if_neg (by omega), if_neg (by omega), if_neg (by omega), if_neg (by omega), ByteArray.size_append, ByteArray.size_append]
        have h3 := brk_size [] (t.kids.getD 0 Rx.nil).kind (sh f (t.kids.getD 0 Rx.nil))
        have h4 := brk_size [5] (t.kids.getD 1 Rx.nil).kind (sh f (t.kids.getD 1 Rx.nil))
        show _ + 1 + _ ≤ _
        omega
end Rcs
end Go.Proofs.YtlgabpcddldelaaDoor
