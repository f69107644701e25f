/-
  Parts of the proof of RexMatches, put together: Cp Rm MakeB RmTab RmBlank RmBehind RmSpan MapMore ClsShare RmMemo ArrEq ArrNe ClsOp RcChk RmNum StepSl AllAt. (Helper texts.)
-/
import Derived.Test.YtfelikfppjlcmaaDoorG1
import Derived.Deep.OwnRows
import Derived.WideKeyEntry
import Derived.Maps.OwnOps
import Derived.WalkLawsBesides
import Derived.Deep.LoopGhost
import Derived.Deep.QuietTactic
import Derived.BigQuiet

/-
  The parts that classes cut the bytes into, in plain Lean: cutting class by class and sorting by the least byte gives the parts in the order of their least bytes.
-/
namespace Go.Proofs.YtfelikfppjlcmaaDoor
set_option linter.unusedVariables false

namespace Cp
def alike (L : List (List Nat)) (b x : Nat) : Bool := L.all fun l => Dm.mem l b == Dm.mem l x
def blk (L : List (List Nat)) (b : Nat) : List Nat := Cs.of (alike L b)
def ins (p c : List Nat) : List Nat := Cs.of fun x => Dm.mem p x && Dm.mem c x
def outs (p c : List Nat) : List Nat := Cs.of fun x => Dm.mem p x && !Dm.mem c x
def one (p : List Nat) : List (List Nat) := if p = Dm.zero then [] else [p]
def cut (c p : List Nat) : List (List Nat) := one (ins p c) ++ one (outs p c)
def lo (p : List Nat) : Nat := ((List.range 256).find? (Dm.mem p)).getD 256
def first (L : List (List Nat)) (b : Nat) : Bool := (List.range b).all fun c => !alike L b c
def ref (L : List (List Nat)) : List (List Nat) := ((List.range 256).filter (first L)).map (blk L)

theorem alike_iff {L : List (List Nat)} {b x : Nat} : alike L b x = true ↔ ∀ l ∈ L, Dm.mem l b = Dm.mem l x := by
  unfold alike
  rw [List.all_eq_true]
  exact ⟨fun h l hl => by simpa using h l hl, fun h l hl => by simpa using h l hl⟩
theorem alike_self (L : List (List Nat)) (b : Nat) : alike L b b = true := alike_iff.2 fun _ _ => rfl
theorem alike_symm {L : List (List Nat)} {b x : Nat} (h : alike L b x = true) : alike L x b = true := alike_iff.2 fun l hl => (alike_iff.1 h l hl).symm
theorem alike_trans {L : List (List Nat)} {a b c : Nat} (h : alike L a b = true) (g : alike L b c = true) : alike L a c = true := alike_iff.2 fun l hl => (alike_iff.1 h l hl).trans (alike_iff.1 g l hl)
theorem mem_blk {L : List (List Nat)} {b x : Nat} (hx : x < 256) : Dm.mem (blk L b) x = alike L b x := Cs.mem_of hx
theorem blk_eq {L : List (List Nat)} {a b : Nat} (h : alike L a b = true) : blk L a = blk L b := Cs.of_congr fun x _ => by
  rw [Bool.eq_iff_iff]
  exact ⟨fun g => alike_trans (alike_symm h) g, fun g => alike_trans h g⟩
theorem blk_ok (L : List (List Nat)) (b : Nat) : Dm.Ok4 (blk L b) := Cs.ok_of _
theorem alike_app {L : List (List Nat)} {c : List Nat} {b x : Nat} : alike (L ++ [c]) b x = (alike L b x && (Dm.mem c b == Dm.mem c x)) := by simp [alike]
theorem ne_zero {p : List Nat} {x : Nat} (h : Dm.mem p x = true) : p ≠ Dm.zero := fun e => by rw [e, Dm.mem_zero] at h; cases h
theorem some_of_ne {p : Nat → Bool} (h : Cs.of p ≠ Dm.zero) : ∃ x, x < 256 ∧ p x = true := by
  by_cases g : ∃ x, x < 256 ∧ p x = true
  · exact g
  · refine absurd ?_ h
    rw [← Cs.of_false]
    exact Cs.of_congr fun x hx => by
      cases e : p x
      · rfl
      · exact absurd ⟨x, hx, e⟩ g

structure Inv (L all : List (List Nat)) : Prop where
  of : ∀ p ∈ all, ∃ b, b < 256 ∧ p = blk L b
  got : ∀ b, b < 256 → blk L b ∈ all
  apart : all.Pairwise fun p q => ∀ x, x < 256 → ¬(Dm.mem p x = true ∧ Dm.mem q x = true)

theorem mem_one {p q : List Nat} (h : q ∈ one p) : q = p ∧ p ≠ Dm.zero := by
  unfold one at h
  split at h
  · simp at h
  · rename_i hne; exact ⟨by simpa using h, hne⟩
theorem one_mem {p : List Nat} (h : p ≠ Dm.zero) : p ∈ one p := by unfold one; rw [if_neg h]; simp
theorem sub_ins {p c : List Nat} {x : Nat} (hx : x < 256) (h : Dm.mem (ins p c) x = true) : Dm.mem p x = true ∧ Dm.mem c x = true := by
  unfold ins at h
  rw [Cs.mem_of hx] at h
  simpa using h
theorem sub_outs {p c : List Nat} {x : Nat} (hx : x < 256) (h : Dm.mem (outs p c) x = true) : Dm.mem p x = true ∧ Dm.mem c x = false := by
  unfold outs at h
  rw [Cs.mem_of hx] at h
  simpa using h
theorem cut_sub {c p q : List Nat} (h : q ∈ cut c p) {x : Nat} (hx : x < 256) (hm : Dm.mem q x = true) : Dm.mem p x = true := by
  rcases List.mem_append.1 h with h | h
  · rw [(mem_one h).1] at hm; exact (sub_ins hx hm).1
  · rw [(mem_one h).1] at hm; exact (sub_outs hx hm).1
theorem ins_blk {L : List (List Nat)} {c : List Nat} {x : Nat} (h : Dm.mem c x = true) : ins (blk L x) c = blk (L ++ [c]) x := Cs.of_congr fun y hy => by
  rw [mem_blk hy, alike_app, h]
  cases Dm.mem c y <;> rfl
theorem outs_blk {L : List (List Nat)} {c : List Nat} {x : Nat} (h : Dm.mem c x = false) : outs (blk L x) c = blk (L ++ [c]) x := Cs.of_congr fun y hy => by
  rw [mem_blk hy, alike_app, h]
  cases Dm.mem c y <;> rfl

/-- A class cuts each part. -/
theorem inv_cut {L all : List (List Nat)} (c : List Nat) (h : Inv L all) : Inv (L ++ [c]) (all.flatMap (cut c)) := by
  refine ⟨fun p hp => ?_, fun b hb => ?_, ?_⟩
  · obtain ⟨q, hq, hpq⟩ := List.mem_flatMap.1 hp
    obtain ⟨b, hb, rfl⟩ := h.of q hq
    rcases List.mem_append.1 hpq with g | g
    · obtain ⟨rfl, hne⟩ := mem_one g
      obtain ⟨x, hx, hm⟩ := some_of_ne hne
      simp only [Bool.and_eq_true] at hm
      rw [mem_blk hx] at hm
      exact ⟨x, hx, by rw [blk_eq hm.1, ins_blk hm.2]⟩
    · obtain ⟨rfl, hne⟩ := mem_one g
      obtain ⟨x, hx, hm⟩ := some_of_ne hne
      simp only [Bool.and_eq_true, Bool.not_eq_true'] at hm
      rw [mem_blk hx] at hm
      exact ⟨x, hx, by rw [blk_eq hm.1, outs_blk hm.2]⟩
  · refine List.mem_flatMap.2 ⟨blk L b, h.got b hb, ?_⟩
    have hself : Dm.mem (blk (L ++ [c]) b) b = true := by rw [mem_blk hb]; exact alike_self _ _
    cases e : Dm.mem c b
    · refine List.mem_append.2 (Or.inr ?_)
      rw [outs_blk e]
      exact one_mem (ne_zero hself)
    · refine List.mem_append.2 (Or.inl ?_)
      rw [ins_blk e]
      exact one_mem (ne_zero hself)
  · refine List.pairwise_flatMap.2 ⟨fun p hp => ?_, h.apart.imp fun {p q} hpq x hx y hy z hz hb => ?_⟩
    · unfold cut one
      split <;> split <;> simp
      intro x hx g1 
      cases g2 : Dm.mem (outs p c) x
      · rfl
      · have := (sub_ins hx g1).2
        rw [(sub_outs hx g2).2] at this
        cases this
    · exact hpq z hz ⟨cut_sub hx hz hb.1, cut_sub hy hz hb.2⟩
/-- A class that was met before cuts nothing. -/
theorem inv_seen {L all : List (List Nat)} {c : List Nat} (hc : c ∈ L) (h : Inv L all) : Inv (L ++ [c]) all := by
  have e : ∀ b, blk (L ++ [c]) b = blk L b := fun b => Cs.of_congr fun x hx => by
    rw [alike_app]
    cases g : alike L b x
    · rfl
    · rw [alike_iff.1 g c hc]; simp
  exact ⟨fun p hp => by obtain ⟨b, hb, r⟩ := h.of p hp; exact ⟨b, hb, by rw [e, r]⟩, fun b hb => by rw [e]; exact h.got b hb, h.apart⟩
theorem inv_start : Inv [] [Cs.of fun _ => true] :=
  ⟨fun p hp => ⟨0, by omega, by rw [List.mem_singleton.1 hp]; rfl⟩, fun b hb => List.mem_singleton.2 rfl, List.pairwise_singleton _ _⟩
theorem Inv.perm {L a b : List (List Nat)} (h : Inv L a) (hp : a.Perm b) : Inv L b :=
  ⟨fun p hm => h.of p (hp.mem_iff.2 hm), fun x hx => hp.mem_iff.1 (h.got x hx), hp.pairwise h.apart fun {x y} g z hz hb => g z hz ⟨hb.2, hb.1⟩⟩

theorem lo_is {p : List Nat} {b : Nat} (hb : b < 256) (hm : Dm.mem p b = true) (hl : ∀ c, c < b → Dm.mem p c = false) : lo p = b := by
  have : (List.range 256).find? (Dm.mem p) = some b := by
    rw [List.find?_range_eq_some]
    exact ⟨hm, List.mem_range.2 hb, fun j hj => by simp [hl j hj]⟩
  unfold lo
  rw [this]; rfl
theorem lo_some {p : List Nat} {x : Nat} (hx : x < 256) (hm : Dm.mem p x = true) : lo p < 256 ∧ Dm.mem p (lo p) = true ∧ ∀ c, c < lo p → Dm.mem p c = false := by
  cases e : (List.range 256).find? (Dm.mem p) with
  | none => exact absurd hm (by have := List.find?_eq_none.1 e x (List.mem_range.2 hx); simpa using this)
  | some b =>
    have h := List.find?_range_eq_some.1 e
    have hb : lo p = b := by unfold lo; rw [e]; rfl
    rw [hb]
    exact ⟨List.mem_range.1 h.2.1, h.1, fun c hc => by have := h.2.2 c hc; simpa using this⟩
theorem first_iff {L : List (List Nat)} {b : Nat} : first L b = true ↔ ∀ c, c < b → alike L b c = false := by
  unfold first
  rw [List.all_eq_true]
  exact ⟨fun h c hc => by simpa using h c (List.mem_range.2 hc), fun h c hc => by simpa using h c (List.mem_range.1 hc)⟩
theorem lo_first {L : List (List Nat)} {b : Nat} (hb : b < 256) (h : first L b = true) : lo (blk L b) = b :=
  lo_is hb (by rw [mem_blk hb]; exact alike_self _ _) fun c hc => by rw [mem_blk (by omega)]; exact first_iff.1 h c hc
theorem sorted_eq {α : Type} {f : α → Nat} : ∀ {a b : List α}, a.Pairwise (fun x y => f x < f y) → b.Pairwise (fun x y => f x < f y) → (∀ x, x ∈ a ↔ x ∈ b) → a = b
  | [], [], _, _, _ => rfl
  | [], y :: b, _, _, h => absurd ((h y).2 (.head _)) (by simp)
  | x :: a, [], _, _, h => absurd ((h x).1 (.head _)) (by simp)
  | x :: a, y :: b, ha, hb, h => by
    rw [List.pairwise_cons] at ha hb
    have hxy : x = y := by
      rcases List.mem_cons.1 ((h x).1 (.head _)) with e | e
      · exact e
      · rcases List.mem_cons.1 ((h y).2 (.head _)) with g | g
        · exact g.symm
        · have := ha.1 _ g
          have := hb.1 _ e
          omega
    subst hxy
    rw [sorted_eq ha.2 hb.2 fun z => ⟨fun hz => ?_, fun hz => ?_⟩]
    · rcases List.mem_cons.1 ((h z).1 (.tail _ hz)) with e | e
      · subst e; exact absurd (ha.1 _ hz) (by omega)
      · exact e
    · rcases List.mem_cons.1 ((h z).2 (.tail _ hz)) with e | e
      · subst e; exact absurd (hb.1 _ hz) (by omega)
      · exact e
/-- What is cut and sorted is what the reference lists. -/
theorem ref_eq {L S : List (List Nat)} (h : Inv L S) (hs : S.Pairwise fun x y => lo x ≤ lo y) : S = ref L := by
  refine sorted_eq (f := lo) ?_ ?_ fun p => ⟨fun hp => ?_, fun hp => ?_⟩
  · refine (hs.and h.apart).imp_of_mem fun {x y} hx hy hxy => ?_
    obtain ⟨b, hb, rfl⟩ := h.of x hx
    obtain ⟨c, hc, rfl⟩ := h.of y hy
    have h1 := lo_some hb (p := blk L b) (by rw [mem_blk hb]; exact alike_self _ _)
    have h2 := lo_some hc (p := blk L c) (by rw [mem_blk hc]; exact alike_self _ _)
    refine Nat.lt_of_le_of_ne hxy.1 fun e => ?_
    exact hxy.2 _ h1.1 ⟨h1.2.1, by rw [e]; exact h2.2.1⟩
  · unfold ref
    rw [List.pairwise_map]
    refine (List.pairwise_lt_range.filter _).imp_of_mem fun {x y} hx hy hxy => ?_
    obtain ⟨x1, x2⟩ := List.mem_filter.1 hx
    obtain ⟨y1, y2⟩ := List.mem_filter.1 hy
    rw [lo_first (List.mem_range.1 x1) x2, lo_first (List.mem_range.1 y1) y2]
    exact hxy
  · obtain ⟨b, hb, rfl⟩ := h.of p hp
    have h1 := lo_some hb (p := blk L b) (by rw [mem_blk hb]; exact alike_self _ _)
    obtain ⟨g1, g2, g3⟩ := h1
    rw [mem_blk g1] at g2
    refine List.mem_map.2 ⟨lo (blk L b), List.mem_filter.2 ⟨List.mem_range.2 g1, first_iff.2 fun c hc => ?_⟩, (blk_eq g2).symm⟩
    have := g3 c hc
    rw [mem_blk (by omega)] at this
    cases e : alike L (lo (blk L b)) c
    · rfl
    · rw [alike_trans g2 e] at this; cases this
  · obtain ⟨b, hb, rfl⟩ := List.mem_map.1 hp
    exact h.got b (List.mem_range.1 (List.mem_filter.1 hb).1)
theorem ref_len (L : List (List Nat)) : (ref L).length ≤ 256 := by
  unfold ref
  rw [List.length_map]
  exact Nat.le_trans (List.length_filter_le _ _) (by simp)

theorem inv_len {L S : List (List Nat)} (h : Inv L S) : S.length ≤ 256 := by
  have hn : (S.map lo).Nodup := by
    unfold List.Nodup
    rw [List.pairwise_map]
    refine h.apart.imp_of_mem fun {x y} hx hy hxy e => ?_
    obtain ⟨b, hb, rfl⟩ := h.of x hx
    obtain ⟨c, hc, rfl⟩ := h.of y hy
    have h1 := lo_some hb (p := blk L b) (by rw [mem_blk hb]; exact alike_self _ _)
    have h2 := lo_some hc (p := blk L c) (by rw [mem_blk hc]; exact alike_self _ _)
    exact hxy _ h1.1 ⟨h1.2.1, by rw [e]; exact h2.2.1⟩
  have hs : ∀ x ∈ S.map lo, x ∈ List.range 256 := fun x hx => by
    obtain ⟨p, hp, rfl⟩ := List.mem_map.1 hx
    obtain ⟨b, hb, rfl⟩ := h.of p hp
    exact List.mem_range.2 (lo_some hb (p := blk L b) (by rw [mem_blk hb]; exact alike_self _ _)).1
  have := List.Nodup.length_le_of_subset hn hs
  simpa using this
theorem ok_of {L S : List (List Nat)} (h : Inv L S) : ∀ p ∈ S, Dm.Ok4 p := fun p hp => by
  obtain ⟨b, hb, rfl⟩ := h.of p hp
  exact blk_ok L b

/-- One step of the sorting: the pairs up to i are in order, but for those that end at k. -/
def near (M : List (List Nat)) (i k : Nat) : Prop := ∀ a b, a < b → b ≤ i → b ≠ k → lo (M.getD a []) ≤ lo (M.getD b [])
def swp (M : List (List Nat)) (k : Nat) : List (List Nat) := (M.set k (M.getD (k - 1) [])).set (k - 1) (M.getD k [])
theorem swp_perm {M : List (List Nat)} {k : Nat} (hk : k < M.length) : (swp M k).Perm M := by
  unfold swp
  have h1 : k - 1 < M.length := by omega
  have e1 : M.getD (k - 1) [] = M[k - 1] := by simp [List.getD, List.getElem?_eq_getElem h1]
  have e2 : M.getD k [] = M[k] := by simp [List.getD, List.getElem?_eq_getElem hk]
  rw [e1, e2]
  exact List.set_set_perm hk h1
theorem swp_get {M : List (List Nat)} {k : Nat} (h0 : 0 < k) (hk : k < M.length) (a : Nat) : (swp M k).getD a [] = if a = k then M.getD (k - 1) [] else if a = k - 1 then M.getD k [] else M.getD a [] := by
  unfold swp
  simp only [List.getD_eq_getElem?_getD, List.getElem?_set, List.length_set]
  by_cases h1 : a = k
  · subst h1
    rw [if_neg (by omega), if_pos rfl, if_pos hk, if_pos rfl]; rfl
  · by_cases h2 : a = k - 1
    · subst h2
      rw [if_pos rfl, if_pos (by omega), if_neg h1, if_pos rfl]; rfl
    · rw [if_neg (by omega), if_neg (by omega), if_neg h1, if_neg h2]
theorem near_swp {M : List (List Nat)} {i k : Nat} (h0 : 0 < k) (hk : k ≤ i) (hi : i < M.length) (h : near M i k) (hlt : lo (M.getD k []) < lo (M.getD (k - 1) [])) : near (swp M k) i (k - 1) := by
  intro a b hab hb hne
  rw [swp_get h0 (by omega), swp_get h0 (by omega), if_neg hne]
  by_cases b1 : b = k
  · subst b1
    rw [if_neg (by omega), if_pos rfl]
    by_cases a1 : a = b - 1
    · rw [if_pos a1]; omega
    · rw [if_neg a1]; exact h a (b - 1) (by omega) (by omega) (by omega)
  · rw [if_neg b1]
    by_cases a1 : a = k
    · rw [if_pos a1]; exact h (k - 1) b (by omega) hb b1
    · rw [if_neg a1]
      by_cases a2 : a = k - 1
      · rw [if_pos a2]; exact h k b (by omega) hb b1
      · rw [if_neg a2]; exact h a b hab hb b1
theorem near_end {M : List (List Nat)} {i k : Nat} (hk : k ≤ i) (h : near M i k) (he : k = 0 ∨ ¬ lo (M.getD k []) < lo (M.getD (k - 1) [])) : near M (i + 1) (i + 1) := by
  intro a b hab hb hne
  by_cases b1 : b = k
  · subst b1
    rcases he with he | he
    · omega
    · by_cases a1 : a = b - 1
      · subst a1; omega
      · have := h a (b - 1) (by omega) (by omega) (by omega)
        omega
  · exact h a b hab (by omega) b1
theorem near_start (M : List (List Nat)) : near M 1 1 := fun a b hab hb hne => by omega
theorem sorted_of {M : List (List Nat)} {i : Nat} (hi : M.length ≤ i) (h : near M i i) : M.Pairwise fun x y => lo x ≤ lo y := by
  rw [List.pairwise_iff_getElem]
  intro a b ha hb hab
  have := h a b hab (by omega) (by omega)
  simpa [List.getD, List.getElem?_eq_getElem ha, List.getElem?_eq_getElem hb] using this
end Cp
end Go.Proofs.YtfelikfppjlcmaaDoor

/-
  What a regular expression matches in a text: by spans. (Plain functions; nothing of the program is claimed.)
-/
namespace Go.Proofs.YtfelikfppjlcmaaDoor
set_option linter.unusedVariables false

namespace Rm
/-- Steps by a, one behind the other, none of them empty: at most f of them. -/
def st (a : Nat → Nat → Bool) (n : Nat) : Nat → Nat → Nat → Bool
  | 0, i, j => decide (i = j)
  | f + 1, i, j => decide (i = j) || (List.range (n + 1)).any fun m => decide (i < m) && a i m && st a n f m j
def mt (n : Nat) (B : Nat → Nat) : Nat → Rx → Nat → Nat → Bool
  | 0, _, _, _ => false
  | f + 1, t, i, j =>
    if t.kind = 2 then decide (i = j)
    else if t.kind = 3 then decide (j = i + 1) && (decide (i < n) && Dm.mem (Rx.ws t) (B i))
    else if t.kind = 5 then mt n B f (t.kids.getD 0 Rx.nil) i j || mt n B f (t.kids.getD 1 Rx.nil) i j
    else if t.kind = 4 then (List.range (n + 1)).any fun m => mt n B f (t.kids.getD 0 Rx.nil) i m && mt n B f (t.kids.getD 1 Rx.nil) m j
    else if t.kind = 6 then st (mt n B f (t.kids.getD 0 Rx.nil)) n n i j
    else false
/-- Goes forward, and stays. -/
def Fwd (n : Nat) (a : Nat → Nat → Bool) : Prop := ∀ i j, i ≤ n → a i j = true → i ≤ j ∧ j ≤ n
variable {n : Nat} {B : Nat → Nat} {a : Nat → Nat → Bool}
theorem st_fwd (ha : Fwd n a) : ∀ f, Fwd n (st a n f) := by
  intro f
  induction f with
  | zero => intro i j hi h; simp only [st, decide_eq_true_eq] at h; omega
  | succ f ih =>
    intro i j hi h
    simp only [st, Bool.or_eq_true, decide_eq_true_eq, List.any_eq_true, List.mem_range, Bool.and_eq_true] at h
    rcases h with h | ⟨m, hm, ⟨h1, h2⟩, h3⟩
    · omega
    · have := ih m j (by omega) h3
      omega
theorem mt_fwd : ∀ f t, Fwd n (mt n B f t) := by
  intro f
  induction f with
  | zero => intro t i j _ h; cases h
  | succ f ih =>
    intro t i j hi h
    rw [mt] at h
    split at h
    · simp only [decide_eq_true_eq] at h; omega
    · split at h
      · simp only [Bool.and_eq_true, decide_eq_true_eq] at h; omega
      · split at h
        · rcases Bool.or_eq_true_iff.1 h with h | h
          · exact ih _ i j hi h
          · exact ih _ i j hi h
        · split at h
          · simp only [List.any_eq_true, List.mem_range, Bool.and_eq_true] at h
            obtain ⟨m, hm, h1, h2⟩ := h
            have a1 := ih _ i m hi h1
            have a2 := ih _ m j a1.2 h2
            omega
          · split at h
            · exact st_fwd (ih _) n i j hi h
            · cases h
/-- Step by step. -/
inductive RT (a : Nat → Nat → Bool) : Nat → Nat → Prop where
  | refl (i : Nat) : RT a i i
  | head {i m j : Nat} : a i m = true → RT a m j → RT a i j
theorem RT.tail {i m j : Nat} (h : RT a i m) (g : a m j = true) : RT a i j := by
  induction h with
  | refl i => exact .head g (.refl _)
  | head h1 _ ih => exact .head h1 (ih g)
theorem RT.le (ha : Fwd n a) {i j : Nat} (h : RT a i j) : i ≤ n → i ≤ j ∧ j ≤ n := by
  induction h with
  | refl i => intro hi; exact ⟨Nat.le_refl _, hi⟩
  | head h1 _ ih =>
    intro hi
    have := ha _ _ hi h1
    have := ih this.2
    omega
theorem st_refl (f i : Nat) : st a n f i i = true := by cases f <;> simp [st]
theorem st_of_rt (ha : Fwd n a) {i j : Nat} (h : RT a i j) : ∀ f, n - i ≤ f → i ≤ n → st a n f i j = true := by
  induction h with
  | refl i => intro f _ _; exact st_refl f i
  | @head i m j h1 h2 ih =>
    intro f hf hi
    have hm := ha _ _ hi h1
    by_cases e : m = i
    · subst e; exact ih f hf hi
    · cases f with
      | zero => omega
      | succ f =>
        simp only [st, Bool.or_eq_true, List.any_eq_true, List.mem_range, Bool.and_eq_true, decide_eq_true_eq]
        exact .inr ⟨m, by omega, ⟨by omega, h1⟩, ih f (by omega) hm.2⟩
theorem rt_of_st : ∀ f i j, st a n f i j = true → RT a i j := by
  intro f
  induction f with
  | zero => intro i j h; simp only [st, decide_eq_true_eq] at h; subst h; exact .refl _
  | succ f ih =>
    intro i j h
    simp only [st, Bool.or_eq_true, decide_eq_true_eq, List.any_eq_true, List.mem_range, Bool.and_eq_true] at h
    rcases h with h | ⟨m, _, ⟨_, h2⟩, h3⟩
    · subst h; exact .refl _
    · exact .head h2 (ih m j h3)
theorem st_eq (ha : Fwd n a) {i : Nat} (hi : i ≤ n) {f j : Nat} (hf : n - i ≤ f) : st a n f i j = st a n n i j := by
  rw [Bool.eq_iff_iff]
  exact ⟨fun h => st_of_rt ha (rt_of_st _ _ _ h) n (by omega) hi, fun h => st_of_rt ha (rt_of_st _ _ _ h) f hf hi⟩

/-! The program's sets. -/
/-- Where what a node matches from i on may end. -/
def en (n : Nat) (B : Nat → Nat) (f : Nat) (t : Rx) (i : Nat) : List Nat := Cs.of (mt n B f t i)
/-- The ends from any place of a set on. -/
def each (n : Nat) (a : Nat → Nat → Bool) (S : List Nat) : List Nat := Cs.of fun j => (List.range (n + 1)).any fun m => Dm.mem S m && a m j
def join (S T : List Nat) : List Nat := Cs.of fun x => Dm.mem S x || Dm.mem T x
def less (S T : List Nat) : List Nat := Cs.of fun x => Dm.mem S x && !Dm.mem T x
structure Star (n : Nat) (a : Nat → Nat → Bool) (i : Nat) (out now : List Nat) : Prop where
  ok : Dm.Ok4 out
  ok2 : Dm.Ok4 now
  has : Dm.mem out i = true
  sub : ∀ x, x < 256 → Dm.mem now x = true → Dm.mem out x = true
  rt : ∀ x, x < 256 → Dm.mem out x = true → RT a i x
  closed : ∀ b x, b < 256 → x < 256 → Dm.mem out b = true → Dm.mem now b = false → a b x = true → Dm.mem out x = true
theorem star_start (hn : n ≤ 200) {i : Nat} (hi : i ≤ n) : Star n a i (Cs.of fun x => decide (i = x)) (Cs.of fun x => decide (i = x)) := by
  refine ⟨Cs.ok_of _, Cs.ok_of _, by rw [Cs.mem_of (by omega)]; simp, fun x _ h => h, fun x hx h => ?_, fun b x hb hx h1 h2 _ => ?_⟩
  · rw [Cs.mem_of hx] at h
    simp only [decide_eq_true_eq] at h
    subst h; exact .refl _
  · rw [h1] at h2; cases h2
theorem star_step (hn : n ≤ 200) (ha : Fwd n a) {i : Nat} (hi : i ≤ n) {out now : List Nat} (h : Star n a i out now) : Star n a i (join out (less (each n a now) out)) (less (each n a now) out) := by
  have hle : ∀ x, x < 256 → Dm.mem out x = true → x ≤ n := fun x hx hm => (RT.le ha (h.rt x hx hm) hi).2
  have hnx : ∀ x, x < 256 → (Dm.mem (less (each n a now) out) x = true ↔ (∃ m, m ≤ n ∧ Dm.mem now m = true ∧ a m x = true) ∧ Dm.mem out x = false) := fun x hx => by
    unfold less each
    rw [Cs.mem_of hx, Cs.mem_of hx]
    simp only [Bool.and_eq_true, List.any_eq_true, List.mem_range, Bool.not_eq_true', and_congr_left_iff]
    intro _
    exact ⟨fun ⟨m, h1, h2⟩ => ⟨m, by omega, h2⟩, fun ⟨m, h1, h2⟩ => ⟨m, by omega, h2⟩⟩
  have hjn : ∀ x, x < 256 → (Dm.mem (join out (less (each n a now) out)) x = true ↔ (Dm.mem out x = true ∨ Dm.mem (less (each n a now) out) x = true)) := fun x hx => by
    unfold join
    rw [Cs.mem_of hx, Bool.or_eq_true]
  refine ⟨Cs.ok_of _, Cs.ok_of _, (hjn i (by omega)).2 (.inl h.has), fun x hx hm => (hjn x hx).2 (.inr hm), fun x hx hm => ?_, fun b x hb hx h1 h2 h3 => ?_⟩
  · rcases (hjn x hx).1 hm with h1 | h1
    · exact h.rt x hx h1
    · obtain ⟨⟨m, hm1, hm2, hm3⟩, _⟩ := (hnx x hx).1 h1
      exact (h.rt m (by omega) (h.sub m (by omega) hm2)).tail hm3
  · rw [hjn x hx]
    have hb2 : Dm.mem out b = true := by
      rcases (hjn b hb).1 h1 with h4 | h4
      · exact h4
      · rw [h4] at h2; cases h2
    cases e : Dm.mem out x
    · refine .inr ((hnx x hx).2 ⟨⟨b, hle b hb hb2, ?_, h3⟩, e⟩)
      cases e2 : Dm.mem now b
      · rw [h.closed b x hb hx hb2 e2 h3] at e; cases e
      · rfl
    · exact .inl rfl
theorem star_end (hn : n ≤ 200) (ha : Fwd n a) {i : Nat} (hi : i ≤ n) {out : List Nat} (h : Star n a i out Dm.zero) : out = Cs.of (st a n n i) := by
  refine Cs.eq_of h.ok fun x hx => ?_
  rw [Bool.eq_iff_iff]
  refine ⟨fun hm => st_of_rt ha (h.rt x hx hm) n (by omega) hi, fun hs => ?_⟩
  have key : ∀ {m j : Nat}, RT a m j → m ≤ n → Dm.mem out m = true → Dm.mem out j = true := by
    intro m j hr
    induction hr with
    | refl m => intro _ hm; exact hm
    | @head m q j h1 h2 ih =>
      intro hmn hm
      have hq := ha _ _ hmn h1
      exact ih hq.2 (h.closed m q (by omega) (by omega) hm (Dm.mem_zero _) h1)
  exact key (rt_of_st _ _ _ hs) hi h.has
def card (S : List Nat) : Nat := ((List.range 256).filter (Dm.mem S)).length
def ms (out now : List Nat) : Nat := 2 * (256 - card out) + (if now = Dm.zero then 0 else 1)
theorem filter_lt {α : Type} {p q : α → Bool} : ∀ {l : List α}, (∀ x ∈ l, p x = true → q x = true) → (∃ x ∈ l, p x = false ∧ q x = true) → (l.filter p).length < (l.filter q).length
  | [], _, ⟨x, hx, _⟩ => by cases hx
  | y :: l, h, ⟨x, hx, h1, h2⟩ => by
    have hle : ∀ {l : List α}, (∀ x ∈ l, p x = true → q x = true) → (l.filter p).length ≤ (l.filter q).length := by
      intro l
      induction l with
      | nil => intro _; exact Nat.le_refl _
      | cons z l ih =>
        intro h
        have := ih fun x hx => h x (.tail _ hx)
        by_cases hp : p z = true
        · rw [List.filter_cons_of_pos hp, List.filter_cons_of_pos (h z (.head _) hp), List.length_cons, List.length_cons]; omega
        · by_cases hq : q z = true
          · rw [List.filter_cons_of_neg hp, List.filter_cons_of_pos hq, List.length_cons]; omega
          · rw [List.filter_cons_of_neg hp, List.filter_cons_of_neg hq]; exact this
    rcases List.mem_cons.1 hx with rfl | hx
    · have := hle (l := l) fun z hz => h z (.tail _ hz)
      rw [List.filter_cons_of_neg (by rw [h1]; decide), List.filter_cons_of_pos h2, List.length_cons]; omega
    · have ih := filter_lt (l := l) (fun z hz => h z (.tail _ hz)) ⟨x, hx, h1, h2⟩
      by_cases hp : p y = true
      · rw [List.filter_cons_of_pos hp, List.filter_cons_of_pos (h y (.head _) hp), List.length_cons, List.length_cons]; omega
      · by_cases hq : q y = true
        · rw [List.filter_cons_of_neg hp, List.filter_cons_of_pos hq, List.length_cons]; omega
        · rw [List.filter_cons_of_neg hp, List.filter_cons_of_neg hq]; exact ih
theorem card_le (S : List Nat) : card S ≤ 256 := Nat.le_trans (List.length_filter_le _ _) (by simp)
theorem ms_step {out now nx : List Nat} (hnow : now ≠ Dm.zero) (hnx : nx = less nx out) (ho : Dm.Ok4 out) : ms (join out nx) nx < ms out now := by
  have hc := card_le (join out nx)
  unfold ms
  rw [if_neg hnow]
  by_cases h : nx = Dm.zero
  · rw [if_pos h]
    have e : join out nx = out := by
      refine (Cs.eq_of ho fun x hx => ?_).symm
      rw [h, Dm.mem_zero, Bool.or_false]
    rw [e]; omega
  · rw [if_neg h]
    obtain ⟨x, hx, hm⟩ := Cp.some_of_ne (p := fun x => Dm.mem nx x && !Dm.mem out x) (by rw [show Cs.of (fun x => Dm.mem nx x && !Dm.mem out x) = less nx out from rfl, ← hnx]; exact h)
    simp only [Bool.and_eq_true, Bool.not_eq_true'] at hm
    have : card out < card (join out nx) := by
      unfold card
      refine filter_lt (fun y hy hm' => ?_) ⟨x, List.mem_range.2 hx, hm.2, ?_⟩
      · unfold join; rw [Cs.mem_of (List.mem_range.1 hy), hm']; rfl
      · unfold join; rw [Cs.mem_of hx, hm.1, Bool.or_true]
    omega
theorem less_less {S T : List Nat} : less (less S T) T = less S T := Cs.of_congr fun x hx => by
  unfold less
  rw [Cs.mem_of hx]
  cases Dm.mem S x <;> cases Dm.mem T x <;> rfl
theorem en_alt {f : Nat} {t : Rx} {i : Nat} (h : t.kind = 5) : join (en n B f (t.kids.getD 0 Rx.nil) i) (en n B f (t.kids.getD 1 Rx.nil) i) = en n B (f + 1) t i := Cs.of_congr fun x hx => by
  unfold en
  rw [Cs.mem_of hx, Cs.mem_of hx, mt, if_neg (by omega), if_neg (by omega), if_pos h]
theorem en_cat (hn : n ≤ 200) {f : Nat} {t : Rx} {i : Nat} (h : t.kind = 4) : each n (mt n B f (t.kids.getD 1 Rx.nil)) (en n B f (t.kids.getD 0 Rx.nil) i) = en n B (f + 1) t i := Cs.of_congr fun x hx => by
  rw [mt, if_neg (by omega), if_neg (by omega), if_neg (by omega), if_pos h, Bool.eq_iff_iff, List.any_eq_true, List.any_eq_true]
  constructor
  · rintro ⟨m, hm, h2⟩
    refine ⟨m, hm, ?_⟩
    unfold en at h2
    rw [Cs.mem_of (by have := List.mem_range.1 hm; omega)] at h2
    exact h2
  · rintro ⟨m, hm, h2⟩
    refine ⟨m, hm, ?_⟩
    unfold en
    rw [Cs.mem_of (by have := List.mem_range.1 hm; omega)]
    exact h2
theorem en_star {f : Nat} {t : Rx} {i : Nat} (h : t.kind = 6) : Cs.of (st (mt n B f (t.kids.getD 0 Rx.nil)) n n i) = en n B (f + 1) t i := Cs.of_congr fun x hx => by
  rw [mt, if_neg (by omega), if_neg (by omega), if_neg (by omega), if_neg (by omega), if_pos h]
theorem en_empty {f : Nat} {t : Rx} {i : Nat} (h : t.kind = 2) : (Cs.of fun x => decide ((i : Int) ≤ (x : Int)) && decide ((x : Int) ≤ (i : Int))) = en n B (f + 1) t i := Cs.of_congr fun x hx => by
  rw [mt, if_pos h, Bool.eq_iff_iff, Bool.and_eq_true, decide_eq_true_eq, decide_eq_true_eq, decide_eq_true_eq]
  omega
theorem en_byte {f : Nat} {t : Rx} {i : Nat} (h : t.kind = 3) : (if i < n ∧ Dm.mem (Rx.ws t) (B i) = true then (Cs.of fun x => decide ((i : Int) + 1 ≤ (x : Int)) && decide ((x : Int) ≤ (i : Int) + 1)) else Dm.zero) = en n B (f + 1) t i := by
  split
  · rename_i hc
    refine Cs.of_congr fun x hx => ?_
    rw [mt, if_neg (by omega), if_pos h, Bool.eq_iff_iff, Bool.and_eq_true, Bool.and_eq_true, Bool.and_eq_true, decide_eq_true_eq, decide_eq_true_eq, decide_eq_true_eq, decide_eq_true_eq]
    exact ⟨fun hh => ⟨by omega, hc⟩, fun hh => ⟨by omega, by omega⟩⟩
  · rename_i hc
    rw [← Cs.of_false]
    refine Cs.of_congr fun x hx => ?_
    rw [mt, if_neg (by omega), if_pos h]
    symm
    rw [Bool.and_eq_false_iff]
    refine .inr ?_
    cases e : decide (i < n) && Dm.mem (Rx.ws t) (B i)
    · rfl
    · rw [Bool.and_eq_true, decide_eq_true_eq] at e
      exact absurd e hc
theorem en_none {f : Nat} {t : Rx} {i : Nat} (h : t.kind = 1) : Dm.zero = en n B (f + 1) t i := by
  rw [← Cs.of_false]
  refine Cs.of_congr fun x hx => ?_
  rw [mt, if_neg (by omega), if_neg (by omega), if_neg (by omega), if_neg (by omega), if_neg (by omega)]
theorem en_mem {f : Nat} {t : Rx} {i x : Nat} (hx : x < 256) : Dm.mem (en n B f t i) x = mt n B f t i x := Cs.mem_of hx
theorem en_ok (f : Nat) (t : Rx) (i : Nat) : Dm.Ok4 (en n B f t i) := Cs.ok_of _
end Rm
end Go.Proofs.YtfelikfppjlcmaaDoor

/-
  make([]bool, n): a slice that the call made.
-/
namespace Go.Proofs.YtfelikfppjlcmaaDoor
set_option linter.unusedVariables false
open Go.ChangeShapes Go.WideShapes Go.ChangeAt Go.RowKit

theorem own_made (w : World) (e : TypeId) (n : Nat) (hn : n ≤ maxLen) : Own (w.alloc (.cells (madeCells #[.bool false] n) e)) w.heap.size e 1 (.slice (some ⟨w.heap.size, 0, none⟩) n n) ((List.replicate n false).map Value.bool) := by
  unfold Own
  rw [cellsOf_one Value.bool (fun _ => rfl), List.length_map, List.length_replicate]
  refine ⟨by simp, .inr ⟨w.heap.size, n, madeCells #[.bool false] n, rfl, Nat.le_refl _, heap_alloc_new _ _, Nat.le_refl _, hn, ?_, ?_⟩⟩
  · simp [madeCells]
  · simp only [madeCells, Array.toList_map, Array.toList_range, Nat.mul_one]
    rw [List.take_of_length_le (by simp)]
    apply List.ext_getElem (by simp)
    intro i h1 h2
    simp [Nat.mod_one]

theorem makeBools {P : Program} {ops : Array Oper} {rest : List Oper} {o : Oper} {a : Act} {w : World} {Q : Exit → Act → World → Prop} {t e : TypeId} (hgd : o.guard = none) (l : Operand) (hop : o.op = Op.makeSlice t l l)
    (ht : P.underlying t = some (.slice e)) (hi : (P.info? e).map (fun i => (i.zero, i.size, i.bytes)) = some (some (.bool false), 1, 1)) (n : Nat) (hl : a.eval l = .int .i64 (n : Int)) (hn : (n : Int) ≤ 1048576)
    (hK : wpList P ops Q rest (a.put o.dst (.slice (some ⟨w.heap.size, 0, none⟩) n n)) (w.alloc (.cells (madeCells #[.bool false] n) e))) : wpList P ops Q (o :: rest) a w := by
  obtain ⟨i, h1, h2, h3, h4⟩ := info_parts hi
  exact wpList_make_row w hgd l l t hop e i (.bool false) ht h1 h2 h3 rfl .i64 .i64 n hl hl (by rw [h4]; omega) (by omega) hK

/-- A store into another block. -/
theorem Own.setOther {w : World} {B : Nat} {e : TypeId} {size : Nat} {v : Value} {xs : List Value} (h : Own w B e size v xs) {a : Addr} (ha : v.ownBlock ≠ some a.block) (u : Value) : Own (w.setCell a u) B e size v xs := by
  refine ⟨h.1, ?_⟩
  rcases h.2 with h2 | ⟨g, cap, cur, rfl, hB, hg, hn, hc, hcs, htk⟩
  · exact .inl h2
  · refine .inr ⟨g, cap, cur, rfl, hB, ?_, hn, hc, hcs, htk⟩
    rw [heap_setCell_other _ _ _ _ (fun e => ha (by rw [← e]; rfl))]
    exact hg

/-- What the call itself has made reads as the list. -/
theorem Own.slBool {w : World} {B : Nat} {e : TypeId} {v : Value} {l : List Bool} (h : Own w B e 1 v (l.map Value.bool)) : Sl w 1 RBool v l := by
  have hr := h
  unfold Own at hr
  rw [cellsOf_one Value.bool (fun _ => rfl), List.length_map] at hr
  rcases hr.2 with ⟨h1, h2⟩ | ⟨g, cap, cur, rfl, hB, hg, hn, hc, hcs, htk⟩
  · have : l = [] := List.eq_nil_of_length_eq_zero h2
    subst this
    exact ⟨none, 0, 0, 0, h1, Nat.le_refl _, by decide, fun h => by simp at h, fun i hi => by simp at hi⟩
  · refine ⟨some ⟨g, 0, none⟩, g, 0, cap, rfl, hn, hc, fun _ => ⟨rfl, (Array.getElem?_eq_some_iff.1 hg).1⟩, fun i hi => ⟨[.bool l[i]], rfl, fun j hj => ?_, rfl⟩⟩
    obtain rfl : j = 0 := by omega
    have := hr.cellAt i (by omega)
    simp only [Nat.zero_add, Nat.mul_one, Nat.add_zero]
    rw [this]
    simp [hi]
end Go.Proofs.YtfelikfppjlcmaaDoor

/-
  Tables of the reference: as many lines of bools as each line is long.
-/
namespace Go.Proofs.YtfelikfppjlcmaaDoor
set_option linter.unusedVariables false
set_option linter.unusedSimpArgs false
open Go.ChangeShapes Go.WideShapes Go.ChangeAt Go.RowKit

namespace Tab
def rowV (rs : List Nat) (N i : Nat) : Value := if i < rs.length then .slice (some ⟨rs.getD i 0, 0, none⟩) N N else .slice none 0 0
def rows (rs : List Nat) (N : Nat) : List Value := (List.range N).map (rowV rs N)
def line (N : Nat) (r : Nat → Bool) : List Value := (List.range N).map fun j => .bool (r j)
/-- R at a place turned. -/
def upd (R : Nat → Nat → Bool) (i j : Nat) (b : Bool) : Nat → Nat → Bool := fun x y => if x = i ∧ y = j then b else R x y
theorem rows_len (rs : List Nat) (N : Nat) : (rows rs N).length = N := by simp [rows]
theorem rows_at (rs : List Nat) {N i : Nat} (hi : i < N) : (rows rs N).toArray[i]? = some (rowV rs N i) := by simp [rows, hi]
theorem line_at {N j : Nat} (r : Nat → Bool) (hj : j < N) : (line N r).toArray[j]? = some (.bool (r j)) := by simp [line, hj]
theorem line_set {N : Nat} (r : Nat → Bool) (j : Nat) (b : Bool) : (line N r).toArray.setIfInBounds j (.bool b) = (line N fun y => if y = j then b else r y).toArray := by
  apply Array.toList_inj.1
  apply List.ext_getElem?
  intro k
  rw [Array.toList_setIfInBounds]
  rw [List.getElem?_set]
  simp only [line, List.getElem?_map, List.length_map, List.length_range]
  by_cases h : j = k
  · subst h
    by_cases hn : j < N
    · simp [hn]
    · simp [hn]
  · by_cases hn : k < N
    · simp [hn, h, Ne.symm h]
    · simp [hn, h, Ne.symm h]
theorem rowV_snoc {rs : List Nat} {N i g : Nat} (hi : i ≠ rs.length) : rowV (rs ++ [g]) N i = rowV rs N i := by
  unfold rowV
  by_cases h : i < rs.length
  · rw [if_pos h, if_pos (by rw [List.length_append]; omega)]
    congr 3
    simp [List.getD, List.getElem?_append_left h]
  · rw [if_neg h, if_neg (by rw [List.length_append, List.length_singleton]; omega)]
theorem rows_snoc (rs : List Nat) (N g : Nat) : (rows rs N).toArray.setIfInBounds rs.length (.slice (some ⟨g, 0, none⟩) N N) = (rows (rs ++ [g]) N).toArray := by
  apply Array.toList_inj.1
  apply List.ext_getElem?
  intro k
  rw [Array.toList_setIfInBounds]
  rw [List.getElem?_set]
  simp only [rows, List.getElem?_map, List.length_map, List.length_range]
  by_cases h : rs.length = k
  · subst h
    by_cases hn : rs.length < N
    · simp [hn, rowV]
    · simp [hn]
  · by_cases hn : k < N
    · simp [hn, h, rowV_snoc (Ne.symm h)]
    · simp [hn, h]
end Tab
/-- A table in block g, its lines in the blocks rs. -/
def aTab (g : Nat) (rs : List Nat) (N : Nat) (R : Nat → Nat → Bool) : Asrt where
  fp := rs.reverse ++ [g]
  ok := fun w => w.heap[g]? = some (.cells (Tab.rows rs N).toArray 68 (0, 0)) ∧ ∀ i, i < rs.length → w.heap[rs.getD i 0]? = some (.cells (Tab.line N (R i)).toArray 4 (0, 0))
  loc := fun w w' h hw => by
    refine ⟨(h g (by simp)).trans hw.1, fun i hi => (h (rs.getD i 0) ?_).trans (hw.2 i hi)⟩
    rw [List.mem_append, List.mem_reverse]
    refine .inl ?_
    rw [show rs.getD i 0 = rs[i] by simp [List.getD, List.getElem?_eq_getElem hi]]
    exact List.getElem_mem hi

section
variable {w0 w : World} {μ : List Asrt} {g N : Nat} {rs : List Nat} {R : Nat → Nat → Bool}
theorem St.tabStart (h : St w0 w (aCel g 68 (Tab.rows [] N).toArray :: μ)) (R : Nat → Nat → Bool) : St w0 w (aTab g [] N R :: μ) :=
  h.turn (A' := aTab g [] N R) rfl ⟨h.ok _ (.head _), fun i hi => absurd hi (by simp)⟩
/-- A line is laid. -/
theorem St.tabLine {r : Nat} (h : St w0 w (aTab g rs N R :: aCel r 4 (Tab.line N (R rs.length)).toArray :: μ)) : St w0 (w.setCell ⟨g, rs.length, none⟩ (.slice (some ⟨r, 0, none⟩) N N)) (aTab g (rs ++ [r]) N R :: μ) := by
  have hsep := h.sep
  simp only [List.flatMap_cons, List.nodup_append] at hsep
  have hne : ∀ b ∈ (aTab g rs N R).fp, ¬ b = r := fun b hb e => hsep.2.2 b hb r (by simp [aCel]) e
  have hin : rs.reverse.Nodup ∧ ∀ b ∈ rs.reverse, ∀ c ∈ [g], b ≠ c := by
    have := hsep.1
    simp only [aTab, List.nodup_append] at this
    exact ⟨this.1, this.2.2⟩
  have hok := h.ok _ (.head _)
  have hr := h.ok _ (.tail _ (.head _))
  have hgr : ¬ r = g := fun e => hne g (by simp [aTab]) e.symm
  have h1 : St w0 (w.setCell ⟨g, rs.length, none⟩ (.slice (some ⟨r, 0, none⟩) N N)) (⟨(aTab g rs N R).fp, fun w' => w'.heap[g]? = some (.cells (Tab.rows (rs ++ [r]) N).toArray 68 (0, 0)) ∧ ∀ i, i < rs.length → w'.heap[rs.getD i 0]? = some (.cells (Tab.line N (R i)).toArray 4 (0, 0)), fun w1 w2 hh hw => by
      refine ⟨(hh g (by simp [aTab])).trans hw.1, fun i hi => (hh (rs.getD i 0) ?_).trans (hw.2 i hi)⟩
      simp only [aTab, List.mem_append, List.mem_reverse]
      refine .inl ?_
      rw [show rs.getD i 0 = rs[i] by simp [List.getD, List.getElem?_eq_getElem hi]]
      exact List.getElem_mem hi⟩ :: aCel r 4 (Tab.line N (R rs.length)).toArray :: μ) := by
    refine h.upd rfl rfl rfl (by simp) (fun b hb hm => heap_setCell_other _ _ _ _ (fun e => hm (by rw [e]; simp [aTab]))) ⟨?_, fun i hi => ?_⟩ (fun b hb => .inl hb) hsep.1
    · rw [heap_setCell_same _ _ _ _ _ _ hok.1, Tab.rows_snoc]
    · have hm : rs.getD i 0 ∈ rs := by
        rw [show rs.getD i 0 = rs[i] by simp [List.getD, List.getElem?_eq_getElem hi]]
        exact List.getElem_mem hi
      rw [heap_setCell_other _ _ _ _ (fun e => hin.2 _ (List.mem_reverse.2 hm) g (by simp) e)]
      exact hok.2 i hi
  refine h1.get2.merge (C := aTab g (rs ++ [r]) N R) (by simp [aTab, aCel]) fun ha hb => ⟨hb.1, fun i hi => ?_⟩
  rw [List.length_append, List.length_singleton] at hi
  by_cases e : i = rs.length
  · subst e
    rw [show (rs ++ [r]).getD rs.length 0 = r by simp [List.getD]]
    exact ha
  · have hi2 : i < rs.length := by omega
    rw [show (rs ++ [r]).getD i 0 = rs.getD i 0 by simp [List.getD, List.getElem?_append_left hi2]]
    exact hb.2 i hi2
/-- What lies in it. -/
theorem St.tabRow (h : St w0 w μ) (k : Nat) (hA : μ[k]? = some (aTab g rs N R)) (hN : rs.length = N) {i : Nat} (hi : i < N) : w.cell? ⟨g, i, none⟩ = some (.slice (some ⟨rs.getD i 0, 0, none⟩) N N) := by
  have h1 := ((h.nth k hA).ok _ (.head _)).1
  simp [World.cell?, h1, Tab.rows, hi, Tab.rowV, hN]
theorem St.tabGet (h : St w0 w μ) (k : Nat) (hA : μ[k]? = some (aTab g rs N R)) (hN : rs.length = N) {i j : Nat} (hi : i < N) (hj : j < N) : w.cell? ⟨rs.getD i 0, j, none⟩ = some (.bool (R i j)) ∧ w.frozen? ⟨rs.getD i 0, j, none⟩ = false := by
  have h1 := ((h.nth k hA).ok _ (.head _)).2 i (by omega)
  obtain ⟨r, hr⟩ : ∃ r, rs.getD i 0 = r := ⟨_, rfl⟩
  rw [hr] at h1 ⊢
  constructor
  · simp [World.cell?, h1, Tab.line, hj]
  · simp [World.frozen?, h1]
theorem St.tabFree (h : St w0 w μ) (k : Nat) (hA : μ[k]? = some (aTab g rs N R)) (i : Nat) : w.frozen? ⟨g, i, none⟩ = false := by
  have h1 := ((h.nth k hA).ok _ (.head _)).1
  simp [World.frozen?, h1]
theorem St.tabSet (h : St w0 w (aTab g rs N R :: μ)) {i j : Nat} (hi : i < rs.length) (b : Bool) : St w0 (w.setCell ⟨rs.getD i 0, j, none⟩ (.bool b)) (aTab g rs N (Tab.upd R i j b) :: μ) := by
  have hsep := h.sep
  simp only [List.flatMap_cons, List.nodup_append] at hsep
  have hnd := hsep.1
  simp only [aTab, List.nodup_append] at hnd
  obtain ⟨hn1, -, hn2⟩ := hnd
  have hrs : rs.Nodup := (List.reverse_perm rs).nodup_iff.1 hn1
  have hmem : ∀ k, k < rs.length → rs.getD k 0 ∈ rs := fun k hk => by
    rw [show rs.getD k 0 = rs[k] by simp [List.getD, List.getElem?_eq_getElem hk]]
    exact List.getElem_mem hk
  have hok := h.ok _ (.head _)
  refine h.upd rfl rfl rfl (by simp) (fun x hx hm => heap_setCell_other _ _ _ _ (fun e => hm (by rw [e]; simp only [aTab, List.mem_append, List.mem_reverse]; exact .inl (hmem i hi)))) ⟨?_, fun k hk => ?_⟩ (fun x hx => .inl hx) hsep.1
  · rw [heap_setCell_other _ _ _ _ (fun e => hn2 _ (List.mem_reverse.2 (hmem i hi)) g (by simp) e.symm)]
    exact hok.1
  · by_cases e : k = i
    · subst e
      rw [heap_setCell_same _ _ _ _ _ _ (hok.2 k hk), Tab.line_set]
      rw [show (fun y => if y = j then b else R k y) = Tab.upd R k j b k from funext fun y => by simp [Tab.upd]]
    · rw [heap_setCell_other _ _ _ _ (fun e2 => ?_), hok.2 k hk]
      · rw [show R k = Tab.upd R i j b k from funext fun y => by simp [Tab.upd, e]]
      · rw [show rs.getD k 0 = rs[k] by simp [List.getD, List.getElem?_eq_getElem hk], show rs.getD i 0 = rs[i] by simp [List.getD, List.getElem?_eq_getElem hi]] at e2
        exact e ((List.getElem_inj hrs).1 e2)
end
end Go.Proofs.YtfelikfppjlcmaaDoor

/-
  blank of the reference: an empty table.
-/
namespace Go.Proofs.YtfelikfppjlcmaaDoor
set_option linter.unusedVariables false
set_option linter.unusedSimpArgs false
open Go.ChangeShapes Go.WideShapes Go.ChangeAt Go.RowKit

theorem makeSls {P : Program} {ops : Array Oper} {rest : List Oper} {o : Oper} {a : Act} {w : World} {Q : Exit → Act → World → Prop} {t e : TypeId} (hgd : o.guard = none) (l : Operand) (hop : o.op = Op.makeSlice t l l)
    (ht : P.underlying t = some (.slice e)) (hi : (P.info? e).map (fun i => (i.zero, i.size, i.bytes)) = some (some (.slice none 0 0), 1, 24)) (n : Nat) (hl : a.eval l = .int .i64 (n : Int)) (hn : (n : Int) ≤ 1048576)
    (hK : wpList P ops Q rest (a.put o.dst (.slice (some ⟨w.heap.size, 0, none⟩) n n)) (w.alloc (.cells (madeCells #[.slice none 0 0] n) e))) : wpList P ops Q (o :: rest) a w := by
  obtain ⟨i, h1, h2, h3, h4⟩ := info_parts hi
  exact wpList_make_row w hgd l l t hop e i (.slice none 0 0) ht h1 h2 h3 rfl .i64 .i64 n hl hl (by rw [h4]; omega) (by omega) hK
theorem Tab.rows_made (N : Nat) : madeCells #[.slice none 0 0] N = (Tab.rows [] N).toArray := by
  apply Array.toList_inj.1
  apply List.ext_getElem
  · simp [madeCells, Tab.rows]
  · intro i h1 h2
    simp [madeCells, Tab.rows, Tab.rowV, Nat.mod_one]
theorem Tab.line_made (N : Nat) : madeCells #[.bool false] N = (Tab.line N fun _ => false).toArray := by
  apply Array.toList_inj.1
  apply List.ext_getElem
  · simp [madeCells, Tab.line]
  · intro i h1 h2
    simp [madeCells, Tab.line, Nat.mod_one]
/-- A table is given back. -/
def Tab.Ret (w0 : World) (N : Nat) (R : Nat → Nat → Bool) (μ : List Asrt) (e : Ending) (w' : World) : Prop := ∃ (g : Nat) (rs : List Nat), e = .returned (.slice (some ⟨g, 0, none⟩) N N) ∧ rs.length = N ∧ St w0 w' (aTab g rs N R :: μ)

set_option maxRecDepth 100000 in
set_option maxHeartbeats 1600000 in
theorem rBlank_any (n : Nat) (hn : n ≤ 1000) (w0 w : World) (μ : List Asrt) (h : St w0 w μ) :
    Calls Tryd.prog 63 #[.int .i64 n] w (Tab.Ret w0 (n + 1) (fun _ _ => false) μ) := by
  have HST := Lib.hid (h.alloc (Tab.rows [] (n + 1)).toArray 68)
  have hn1 : IntKind.i64.wrap ((n : Int) + 1) = (n : Int) + 1 := IntWalk.i64_in _ (by omega)
  have hrm := Tab.rows_made (n + 1)
  clear h
  go_enter Tryd.func63, Tryd.ntmps63
  go_wp2_with (refine makeSls rfl (.tmp 6) rfl Tryd.underlying70 (by kernel_rfl) (n + 1) rfl (by omega) ?_; rw [hrm])
  generalize hW : w.alloc _ = w1 at *
  generalize w.heap.size = g at *
  clear hW hrm
  go_loopg [4] (n + 1) (fun gz v4 wr => ∃ (i : Nat) (rs : List Nat), i ≤ n + 1 ∧ gz = n + 1 - i ∧ v4 = .int .i64 i ∧ rs.length = i ∧ St w0 wr (aTab g rs (n + 1) (fun _ _ => false) :: μ))
  case atStart => exact ⟨0, [], by omega, by omega, rfl, rfl, HST.out.tabStart _⟩
  case round =>
    clear HST
    obtain ⟨i, rs, hi, hgz, rfl, hrs, hst⟩ := hrel
    have HGZ := Lib.hid hgz
    clear hgz
    by_cases hlt : i ≤ n
    · have hltI : (i : Int) ≤ n := by omega
      have hlt2 : (i : Int) < ((n + 1 : Nat) : Int) := by omega
      have hlm := Tab.line_made (n + 1)
      have HST := Lib.hid (hst.alloc (Tab.line (n + 1) fun _ => false).toArray 4).get2
      have hfr := HST.out.tabFree 0 rfl i
      have hce : World.cell? (wr.alloc (.cells (Tab.line (n + 1) fun _ => false).toArray 4)) ⟨g, i, none⟩ = some (.slice none 0 0) := by
        have h1 := (HST.out.ok _ (.head _)).1
        simp [World.cell?, h1, Tab.rows, Tab.rowV, hrs, Nat.lt_succ_of_le hlt]
      clear hst
      go_wp2_with (refine makeBools rfl (.tmp 16) rfl Tryd.underlying68 (by kernel_rfl) (n + 1) rfl (by omega) ?_; rw [hlm])
      subst hrs
      go_roundg (n + 1 - (rs.length + 1))
      case measure => have := HGZ.out; omega
      case rel => exact ⟨rs.length + 1, rs ++ [wr.heap.size], by omega, rfl, by go_num, by simp, St.tabLine (r := wr.heap.size) (R := fun _ _ => false) HST.out⟩
    · have hge : ¬ (i : Int) ≤ n := by omega
      obtain rfl : i = n + 1 := by omega
      go_wp2_with (fail)
      go_ret
      exact ⟨g, rs, rfl, hrs, hst⟩
end Go.Proofs.YtfelikfppjlcmaaDoor

/-
  behind of the reference: one table behind another one.
-/
namespace Go.Proofs.YtfelikfppjlcmaaDoor
set_option linter.unusedVariables false
set_option linter.unusedSimpArgs false
open Go.ChangeShapes Go.WideShapes Go.ChangeAt Go.RowKit

namespace Tab
/-- By way of m. -/
def via (A B : Nat → Nat → Bool) (N x m y : Nat) : Bool := decide (x ≤ m) && A x m && decide (m ≤ y) && decide (y < N) && B m y
def acc (A B : Nat → Nat → Bool) (N x M y : Nat) : Bool := (List.range M).any fun m => via A B N x m y
def outR (A B : Nat → Nat → Bool) (N i : Nat) : Nat → Nat → Bool := fun x y => decide (x < i) && acc A B N x N y
def midR (A B : Nat → Nat → Bool) (N i m : Nat) : Nat → Nat → Bool := fun x y => (decide (x < i) && acc A B N x N y) || (decide (x = i) && acc A B N i m y)
def inR (A B : Nat → Nat → Bool) (N i m j : Nat) : Nat → Nat → Bool := fun x y => (decide (x < i) && acc A B N x N y) || (decide (x = i) && (acc A B N i m y || (decide (y < j) && via A B N i m y)))
variable {A B : Nat → Nat → Bool} {N i m j : Nat}
theorem acc_succ (x M y : Nat) : acc A B N x (M + 1) y = (acc A B N x M y || via A B N x M y) := by unfold acc; rw [List.range_succ, List.any_append]; simp
theorem acc_low {x M y : Nat} (h : M ≤ x) : acc A B N x M y = false := by
  unfold acc
  rw [List.any_eq_false]
  intro m hm
  have := List.mem_range.1 hm
  simp [via, show ¬ x ≤ m by omega]
theorem out_zero : outR A B N 0 = fun _ _ => false := by funext x y; simp [outR]
theorem mid_start : midR A B N i i = outR A B N i := by
  funext x y
  unfold midR outR
  rw [acc_low (Nat.le_refl _), Bool.and_false, Bool.or_false]
theorem mid_end : midR A B N i N = outR A B N (i + 1) := by
  funext x y
  unfold midR outR
  by_cases h : x = i
  · subst h; simp
  · rw [show decide (x = i) = false by simp [h], Bool.false_and, Bool.or_false, show decide (x < i + 1) = decide (x < i) from by rw [decide_eq_decide]; omega]
theorem in_start : inR A B N i m m = midR A B N i m := by
  funext x y
  unfold inR midR
  congr 2
  unfold via
  by_cases h : y < m
  · simp [show ¬ m ≤ y by omega]
  · simp [h]
theorem in_none (h : A i m = false) (j : Nat) : inR A B N i m j = midR A B N i (m + 1) := by
  funext x y
  unfold inR midR
  rw [acc_succ, show via A B N i m y = false by simp [via, h], Bool.and_false]
theorem in_end : inR A B N i m N = midR A B N i (m + 1) := by
  funext x y
  unfold inR midR
  rw [acc_succ]
  congr 3
  unfold via
  by_cases h : y < N
  · simp [h]
  · simp [h]
theorem in_step (him : i ≤ m) (hmj : m ≤ j) (hj : j < N) (h : A i m = true) : upd (inR A B N i m j) i j (inR A B N i m j i j || B m j) = inR A B N i m (j + 1) := by
  funext x y
  unfold upd
  by_cases hc : x = i ∧ y = j
  · rw [if_pos hc]
    obtain ⟨rfl, rfl⟩ := hc
    simp [inR, via, him, hmj, hj, h]
  · rw [if_neg hc]
    unfold inR
    by_cases hx : x = i
    · have hy : y ≠ j := fun e => hc ⟨hx, e⟩
      rw [show decide (y < j + 1) = decide (y < j) from by rw [decide_eq_decide]; omega]
    · simp [hx]
end Tab

set_option maxRecDepth 100000 in
set_option maxHeartbeats 3200000 in
theorem rBehind_any (n : Nat) (hn : n ≤ 1000) (A B : Nat → Nat → Bool) (ga gb : Nat) (ra rb : List Nat) (hra : ra.length = n + 1) (hrb : rb.length = n + 1) (w0 w : World) (μ : List Asrt) (h : St w0 w (aTab ga ra (n + 1) A :: aTab gb rb (n + 1) B :: μ)) :
    Calls Tryd.prog 65 #[.slice (some ⟨ga, 0, none⟩) (n + 1) (n + 1), .slice (some ⟨gb, 0, none⟩) (n + 1) (n + 1)] w (Tab.Ret w0 (n + 1) (Tab.outR A B (n + 1) (n + 1)) (aTab ga ra (n + 1) A :: aTab gb rb (n + 1) B :: μ)) := by
  have HBL := Lib.hid (rBlank_any n hn w0)
  have HST := Lib.hid h
  have HRA := Lib.hid hra
  have HRB := Lib.hid hrb
  have hnw : IntKind.i64.wrap (n : Int) = (n : Int) := IntWalk.i64_in _ (by omega)
  clear h hra hrb
  go_enter Tryd.func65, Tryd.ntmps65
  go_wp2_with (fail)
  go_at_call 63
  refine (HBL.out _ _ HST.out).mono ?_
  intro e w1 hret
  obtain ⟨go, ro, rfl, hro, hst⟩ := hret
  have HRO := Lib.hid hro
  clear HST HBL hro
  go_wp2_with (fail)
  go_loopg [6] (n + 1) (fun gz v6 wr => ∃ i : Nat, i ≤ n + 1 ∧ gz = n + 1 - i ∧ v6 = .int .i64 i ∧ St w0 wr (aTab go ro (n + 1) (Tab.outR A B (n + 1) i) :: aTab ga ra (n + 1) A :: aTab gb rb (n + 1) B :: μ))
  case atStart => exact ⟨0, by omega, by omega, rfl, by rw [Tab.out_zero]; exact hst⟩
  case round =>
    clear hst
    obtain ⟨i, hi, hgz, rfl, hst⟩ := hrel
    have HGZ := Lib.hid hgz
    clear hgz
    by_cases hlt : i < n + 1
    · have hltI : (i : Int) < (n : Int) + 1 := by omega
      go_wp2_with (fail)
      go_loopg [7, 8] (n + 1 - i) (fun gz v7 v8 wr => ∃ (m : Nat) (v : Value), i ≤ m ∧ m ≤ n + 1 ∧ gz = n + 1 - m ∧ v7 = .int .i64 m ∧ v = v8 ∧ St w0 wr (aTab go ro (n + 1) (Tab.midR A B (n + 1) i m) :: aTab ga ra (n + 1) A :: aTab gb rb (n + 1) B :: μ))
      case atStart => exact ⟨i, _, by omega, by omega, rfl, rfl, rfl, by rw [Tab.mid_start]; exact hst⟩
      case round =>
        clear hst
        obtain ⟨m, v8, him, hm, hgz, rfl, -, hst⟩ := hrel
        have HGZ2 := Lib.hid hgz
        clear hgz
        by_cases hlm : m < n + 1
        · have hlmI : (m : Int) < (n : Int) + 1 := by omega
          go_wp2_with (fail)
          go_loopg [8] (n + 1 - m) (fun gz v8 wr => ∃ j : Nat, m ≤ j ∧ j ≤ n + 1 ∧ gz = n + 1 - j ∧ v8 = .int .i64 j ∧ St w0 wr (aTab go ro (n + 1) (Tab.inR A B (n + 1) i m j) :: aTab ga ra (n + 1) A :: aTab gb rb (n + 1) B :: μ))
          case atStart => exact ⟨m, by omega, by omega, rfl, rfl, by rw [Tab.in_start]; exact hst⟩
          case round =>
            clear hst
            obtain ⟨j, hmj, hj, hgz, rfl, hst⟩ := hrel
            have HGZ3 := Lib.hid hgz
            clear hgz
            have HST := Lib.hid hst
            clear hst
            have x1 := HST.out.tabRow 1 rfl HRA.out hlt
            have x2 := (HST.out.tabGet 1 rfl HRA.out hlt hlm).1
            obtain ⟨ri, hri⟩ : ∃ r, ra.getD i 0 = r := ⟨_, rfl⟩
            rw [hri] at x1 x2
            cases hA : A i m
            · rw [hA] at x2
              go_wp2_with (fail)
              go_roundg (n + 1 - (m + 1))
              case measure => have := HGZ2.out; omega
              case rel => exact ⟨m + 1, _, by omega, by omega, rfl, by go_num, rfl, by rw [← Tab.in_none hA j]; exact HST.out⟩
            · rw [hA] at x2
              by_cases hlj : j < n + 1
              · have hljI : (j : Int) < (n : Int) + 1 := by omega
                have hljd : decide ((j : Int) < (n : Int) + 1) = true := decide_eq_true hljI
                have z1 := HST.out.tabRow 0 rfl HRO.out hlt
                have z2 := HST.out.tabGet 0 rfl HRO.out hlt hlj
                have y1 := HST.out.tabRow 2 rfl HRB.out hlm
                have y2 := (HST.out.tabGet 2 rfl HRB.out hlm hlj).1
                have HNX := Lib.hid (fun b (h : b = (Tab.inR A B (n + 1) i m j i j || B m j)) => (show St w0 (wr.setCell ⟨ro.getD i 0, j, none⟩ (.bool b)) (aTab go ro (n + 1) (Tab.inR A B (n + 1) i m (j + 1)) :: aTab ga ra (n + 1) A :: aTab gb rb (n + 1) B :: μ) from by have h2 := HST.out.tabSet (j := j) (show i < ro.length by rw [HRO.out]; exact hlt) b; rw [h, Tab.in_step him hmj hlj hA] at h2; rw [h]; exact h2))
                have HZ := Lib.hid (fun W (h : St w0 W (aTab go ro (n + 1) (Tab.inR A B (n + 1) i m (j + 1)) :: aTab ga ra (n + 1) A :: aTab gb rb (n + 1) B :: μ)) => And.intro (h.tabRow 0 rfl HRO.out hlt) (And.intro (h.tabRow 2 rfl HRB.out hlm) (h.tabGet 2 rfl HRB.out hlm hlj).1))
                obtain ⟨rl, hrl⟩ : ∃ r, ro.getD i 0 = r := ⟨_, rfl⟩
                obtain ⟨rm, hrm⟩ : ∃ r, rb.getD m 0 = r := ⟨_, rfl⟩
                obtain ⟨c, hc⟩ : ∃ c, Tab.inR A B (n + 1) i m j i j = c := ⟨_, rfl⟩
                obtain ⟨d, hd⟩ : ∃ d, B m j = d := ⟨_, rfl⟩
                rw [hrl] at z1 z2 HNX HZ
                rw [hrm] at y1 y2 HZ
                rw [hc] at z2 HNX
                rw [hd] at y2 HNX HZ
                clear hrl hrm hc hd hri HST
                obtain ⟨z2, zf⟩ := z2
                go_wp2_with (fail)
                cases c
                · have hN := HNX.out d (by cases d <;> rfl)
                  refine wp_region_held_drew (S := (fun w' => w'.cell? ⟨go, i, none⟩ = some (.slice (some ⟨rl, 0, none⟩) (n + 1) (n + 1)) ∧ w'.cell? ⟨gb, m, none⟩ = some (.slice (some ⟨rm, 0, none⟩) (n + 1) (n + 1)) ∧ w'.cell? ⟨rm, j, none⟩ = some (.bool d))) (by kernel_rfl) ?_ (fun hHeld => ?_)
                  · (try dsimp only); (first | exact ⟨z1, y1, y2⟩ | exact HZ.out _ hN.drew | exact HZ.out _ hN)

                  refine wpAnyH_take (i := 0) (v := ?_) rfl (by kernel_rfl) (by kernel_rfl) (by kernel_rfl) (fun _ _ _ h => h) (Or.inl ⟨by rfl, ?_⟩) (by assumption) ?_
                  rotate_left; focus (intro w hSw; (try dsimp only at hSw); go_simp; try (with_reducible rfl); done)
                  try simp only [List.getElem_toArray, List.getElem_cons_zero, List.getElem_cons_succ, Act.put, List.setIfInBounds_toArray, List.set_cons_zero, List.set_cons_succ]
                  refine wpAnyH_take (i := 1) (v := ?_) rfl (by kernel_rfl) (by kernel_rfl) (by kernel_rfl) (fun _ _ _ h => h) (Or.inl ⟨by rfl, ?_⟩) (by assumption) ?_
                  rotate_left; focus (intro w hSw; (try dsimp only at hSw); go_simp; try (with_reducible rfl); done)
                  try simp only [List.getElem_toArray, List.getElem_cons_zero, List.getElem_cons_succ, Act.put, List.setIfInBounds_toArray, List.set_cons_zero, List.set_cons_succ]
                  refine wpAnyH_take (i := 2) (v := ?_) rfl (by kernel_rfl) (by kernel_rfl) (by kernel_rfl) (fun _ _ _ h => h) (Or.inl ⟨by rfl, ?_⟩) (by assumption) ?_
                  rotate_left; focus (intro w hSw; (try dsimp only at hSw); go_simp; try (with_reducible rfl); done)
                  try simp only [List.getElem_toArray, List.getElem_cons_zero, List.getElem_cons_succ, Act.put, List.setIfInBounds_toArray, List.set_cons_zero, List.set_cons_succ]
                  refine wpAnyH_take (i := 3) (v := ?_) rfl (by kernel_rfl) (by kernel_rfl) (by kernel_rfl) (fun _ _ _ h => h) (Or.inl ⟨by rfl, ?_⟩) (by assumption) ?_
                  rotate_left; focus (intro w hSw; (try dsimp only at hSw); go_simp; try (with_reducible rfl); done)
                  try simp only [List.getElem_toArray, List.getElem_cons_zero, List.getElem_cons_succ, Act.put, List.setIfInBounds_toArray, List.set_cons_zero, List.set_cons_succ]
                  refine wpAnyH_take (i := 4) (v := ?_) rfl (by kernel_rfl) (by kernel_rfl) (by kernel_rfl) (fun _ _ _ h => h) (Or.inl ⟨by rfl, ?_⟩) (by assumption) ?_
                  rotate_left; focus (intro w hSw; (try dsimp only at hSw); go_simp; try (with_reducible rfl); done)
                  try simp only [List.getElem_toArray, List.getElem_cons_zero, List.getElem_cons_succ, Act.put, List.setIfInBounds_toArray, List.set_cons_zero, List.set_cons_succ]
                  refine wpAnyH_take (i := 5) (v := ?_) rfl (by kernel_rfl) (by kernel_rfl) (by kernel_rfl) (fun _ _ _ h => h) (Or.inl ⟨by rfl, ?_⟩) (by assumption) ?_
                  rotate_left; focus (intro w hSw; (try dsimp only at hSw); go_simp; try (with_reducible rfl); done)
                  try simp only [List.getElem_toArray, List.getElem_cons_zero, List.getElem_cons_succ, Act.put, List.setIfInBounds_toArray, List.set_cons_zero, List.set_cons_succ]
                  refine wpAnyH_take (i := 6) (v := ?_) rfl (by kernel_rfl) (by kernel_rfl) (by kernel_rfl) (fun _ _ _ h => h) (Or.inl ⟨by rfl, ?_⟩) (by assumption) ?_
                  rotate_left; focus (intro w hSw; (try dsimp only at hSw); go_simp; try (with_reducible rfl); done)
                  try simp only [List.getElem_toArray, List.getElem_cons_zero, List.getElem_cons_succ, Act.put, List.setIfInBounds_toArray, List.set_cons_zero, List.set_cons_succ]
                  refine wpAnyH_take (i := 7) (v := ?_) rfl (by kernel_rfl) (by kernel_rfl) (by kernel_rfl) (fun _ _ _ h => h) (Or.inl ⟨by rfl, ?_⟩) (by assumption) ?_
                  rotate_left; focus (intro w hSw; (try dsimp only at hSw); go_simp; try (with_reducible rfl); done)
                  try simp only [List.getElem_toArray, List.getElem_cons_zero, List.getElem_cons_succ, Act.put, List.setIfInBounds_toArray, List.set_cons_zero, List.set_cons_succ]
                  refine wpAnyH_take (i := 8) (v := ?_) rfl (by kernel_rfl) (by kernel_rfl) (by kernel_rfl) (fun _ _ _ h => h) (Or.inl ⟨by rfl, ?_⟩) (by assumption) ?_
                  rotate_left; focus (intro w hSw; (try dsimp only at hSw); go_simp; try (with_reducible rfl); done)
                  try simp only [List.getElem_toArray, List.getElem_cons_zero, List.getElem_cons_succ, Act.put, List.setIfInBounds_toArray, List.set_cons_zero, List.set_cons_succ]
                  refine wpAnyH_take (i := 9) (v := ?_) rfl (by kernel_rfl) (by kernel_rfl) (by kernel_rfl) (fun _ _ _ h => h) (Or.inl ⟨by rfl, ?_⟩) (by assumption) ?_
                  rotate_left; focus (intro w hSw; (try dsimp only at hSw); go_simp; try (with_reducible rfl); done)
                  try simp only [List.getElem_toArray, List.getElem_cons_zero, List.getElem_cons_succ, Act.put, List.setIfInBounds_toArray, List.set_cons_zero, List.set_cons_succ]
                  refine wpAnyH_take (i := 10) (v := ?_) rfl (by kernel_rfl) (by kernel_rfl) (by kernel_rfl) (fun _ _ _ h => h) (Or.inl ⟨by rfl, ?_⟩) (by assumption) ?_
                  rotate_left; focus (intro w hSw; (try dsimp only at hSw); go_simp; try (with_reducible rfl); done)
                  try simp only [List.getElem_toArray, List.getElem_cons_zero, List.getElem_cons_succ, Act.put, List.setIfInBounds_toArray, List.set_cons_zero, List.set_cons_succ]
                  refine wpAnyH_ready (rs := [11]) (by kernel_rfl) (by simp) ?_
                  refine AllReadyH.cons rfl (fun K hK => ?_) AllReadyH.nil
                  go_simp
                  refine hK.out _ _ ?_ (fun hHeld => ?_)
                  · (try dsimp only); (first | exact ⟨z1, y1, y2⟩ | exact HZ.out _ hN.drew | exact HZ.out _ hN)
                  clear hK K
                  try simp only [List.getElem_toArray, List.getElem_cons_zero, List.getElem_cons_succ, Act.put, List.setIfInBounds_toArray, List.set_cons_zero, List.set_cons_succ]
                  refine wpAnyH_take (i := 12) (v := ?_) rfl (by kernel_rfl) (by kernel_rfl) (by kernel_rfl) (fun _ _ _ h => h) (Or.inl ⟨by rfl, ?_⟩) (by assumption) ?_
                  rotate_left; focus (intro w hSw; (try dsimp only at hSw); go_simp; try (with_reducible rfl); done)
                  try simp only [List.getElem_toArray, List.getElem_cons_zero, List.getElem_cons_succ, Act.put, List.setIfInBounds_toArray, List.set_cons_zero, List.set_cons_succ]
                  refine wpAnyH_take (i := 13) (v := ?_) rfl (by kernel_rfl) (by kernel_rfl) (by kernel_rfl) (fun _ _ _ h => h) (Or.inl ⟨by rfl, ?_⟩) (by assumption) ?_
                  rotate_left; focus (intro w hSw; (try dsimp only at hSw); go_simp; try (with_reducible rfl); done)
                  try simp only [List.getElem_toArray, List.getElem_cons_zero, List.getElem_cons_succ, Act.put, List.setIfInBounds_toArray, List.set_cons_zero, List.set_cons_succ]
                  refine wpAnyH_take (i := 14) (v := ?_) rfl (by kernel_rfl) (by kernel_rfl) (by kernel_rfl) (fun _ _ _ h => h) (Or.inl ⟨by rfl, ?_⟩) (by assumption) ?_
                  rotate_left; focus (intro w hSw; (try dsimp only at hSw); go_simp; try (with_reducible rfl); done)
                  try simp only [List.getElem_toArray, List.getElem_cons_zero, List.getElem_cons_succ, Act.put, List.setIfInBounds_toArray, List.set_cons_zero, List.set_cons_succ]
                  refine wpAnyH_take (i := 15) (v := ?_) rfl (by kernel_rfl) (by kernel_rfl) (by kernel_rfl) (fun _ _ _ h => h) (Or.inl ⟨by rfl, ?_⟩) (by assumption) ?_
                  rotate_left; focus (intro w hSw; (try dsimp only at hSw); go_simp; try (with_reducible rfl); done)
                  try simp only [List.getElem_toArray, List.getElem_cons_zero, List.getElem_cons_succ, Act.put, List.setIfInBounds_toArray, List.set_cons_zero, List.set_cons_succ]
                  refine wpAnyH_take (i := 16) (v := ?_) rfl (by kernel_rfl) (by kernel_rfl) (by kernel_rfl) (fun _ _ _ h => h) (Or.inl ⟨by rfl, ?_⟩) (by assumption) ?_
                  rotate_left; focus (intro w hSw; (try dsimp only at hSw); go_simp; try (with_reducible rfl); done)
                  try simp only [List.getElem_toArray, List.getElem_cons_zero, List.getElem_cons_succ, Act.put, List.setIfInBounds_toArray, List.set_cons_zero, List.set_cons_succ]
                  refine wpAnyH_take (i := 17) (v := ?_) rfl (by kernel_rfl) (by kernel_rfl) (by kernel_rfl) (fun _ _ _ h => h) (Or.inl ⟨by rfl, ?_⟩) (by assumption) ?_
                  rotate_left; focus (intro w hSw; (try dsimp only at hSw); go_simp; try (with_reducible rfl); done)
                  try simp only [List.getElem_toArray, List.getElem_cons_zero, List.getElem_cons_succ, Act.put, List.setIfInBounds_toArray, List.set_cons_zero, List.set_cons_succ]
                  refine wpAnyH_take (i := 18) (v := ?_) rfl (by kernel_rfl) (by kernel_rfl) (by kernel_rfl) (fun _ _ _ h => h) (Or.inl ⟨by rfl, ?_⟩) (by assumption) ?_
                  rotate_left; focus (intro w hSw; (try dsimp only at hSw); go_simp; try (with_reducible rfl); done)
                  try simp only [List.getElem_toArray, List.getElem_cons_zero, List.getElem_cons_succ, Act.put, List.setIfInBounds_toArray, List.set_cons_zero, List.set_cons_succ]
                  refine wpAnyH_take (i := 19) (v := ?_) rfl (by kernel_rfl) (by kernel_rfl) (by kernel_rfl) (fun _ _ _ h => h) (Or.inl ⟨by rfl, ?_⟩) (by assumption) ?_
                  rotate_left; focus (intro w hSw; (try dsimp only at hSw); go_simp; try (with_reducible rfl); done)
                  try simp only [List.getElem_toArray, List.getElem_cons_zero, List.getElem_cons_succ, Act.put, List.setIfInBounds_toArray, List.set_cons_zero, List.set_cons_succ]
                  refine wpAnyH_take (i := 20) (v := ?_) rfl (by kernel_rfl) (by kernel_rfl) (by kernel_rfl) (fun _ _ _ h => h) (Or.inl ⟨by rfl, ?_⟩) (by assumption) ?_
                  rotate_left; focus (intro w hSw; (try dsimp only at hSw); go_simp; try (with_reducible rfl); done)
                  try simp only [List.getElem_toArray, List.getElem_cons_zero, List.getElem_cons_succ, Act.put, List.setIfInBounds_toArray, List.set_cons_zero, List.set_cons_succ]
                  refine wpAnyH_take (i := 21) (v := ?_) rfl (by kernel_rfl) (by kernel_rfl) (by kernel_rfl) (fun _ _ _ h => h) (Or.inl ⟨by rfl, ?_⟩) (by assumption) ?_
                  rotate_left; focus (intro w hSw; (try dsimp only at hSw); go_simp; try (with_reducible rfl); done)
                  try simp only [List.getElem_toArray, List.getElem_cons_zero, List.getElem_cons_succ, Act.put, List.setIfInBounds_toArray, List.set_cons_zero, List.set_cons_succ]
                  refine wpAnyH_ready (rs := [22]) (by kernel_rfl) (by simp) ?_
                  refine AllReadyH.cons rfl (fun K hK => ?_) AllReadyH.nil
                  go_simp
                  refine hK.out _ _ ?_ (fun hHeld => ?_)
                  · (try dsimp only); (first | exact ⟨z1, y1, y2⟩ | exact HZ.out _ hN.drew | exact HZ.out _ hN)
                  clear hK K
                  try simp only [List.getElem_toArray, List.getElem_cons_zero, List.getElem_cons_succ, Act.put, List.setIfInBounds_toArray, List.set_cons_zero, List.set_cons_succ]
                  refine wpAnyH_done (by kernel_rfl) ?_ _
                  go_wp2
                  go_roundg (n + 1 - (j + 1))
                  case measure => have := HGZ3.out; omega
                  case rel => exact ⟨j + 1, by omega, by omega, rfl, by go_num, hN.drew⟩
                · have hN := HNX.out true rfl
                  refine wp_region_held_drew (S := (fun w' => w'.cell? ⟨go, i, none⟩ = some (.slice (some ⟨rl, 0, none⟩) (n + 1) (n + 1)) ∧ w'.cell? ⟨gb, m, none⟩ = some (.slice (some ⟨rm, 0, none⟩) (n + 1) (n + 1)) ∧ w'.cell? ⟨rm, j, none⟩ = some (.bool d))) (by kernel_rfl) ?_ (fun hHeld => ?_)
                  · (try dsimp only); (first | exact ⟨z1, y1, y2⟩ | exact HZ.out _ hN.drew | exact HZ.out _ hN)

                  refine wpAnyH_take (i := 0) (v := ?_) rfl (by kernel_rfl) (by kernel_rfl) (by kernel_rfl) (fun _ _ _ h => h) (Or.inl ⟨by rfl, ?_⟩) (by assumption) ?_
                  rotate_left; focus (intro w hSw; (try dsimp only at hSw); go_simp; try (with_reducible rfl); done)
                  try simp only [List.getElem_toArray, List.getElem_cons_zero, List.getElem_cons_succ, Act.put, List.setIfInBounds_toArray, List.set_cons_zero, List.set_cons_succ]
                  refine wpAnyH_take (i := 1) (v := ?_) rfl (by kernel_rfl) (by kernel_rfl) (by kernel_rfl) (fun _ _ _ h => h) (Or.inl ⟨by rfl, ?_⟩) (by assumption) ?_
                  rotate_left; focus (intro w hSw; (try dsimp only at hSw); go_simp; try (with_reducible rfl); done)
                  try simp only [List.getElem_toArray, List.getElem_cons_zero, List.getElem_cons_succ, Act.put, List.setIfInBounds_toArray, List.set_cons_zero, List.set_cons_succ]
                  refine wpAnyH_take (i := 2) (v := ?_) rfl (by kernel_rfl) (by kernel_rfl) (by kernel_rfl) (fun _ _ _ h => h) (Or.inl ⟨by rfl, ?_⟩) (by assumption) ?_
                  rotate_left; focus (intro w hSw; (try dsimp only at hSw); go_simp; try (with_reducible rfl); done)
                  try simp only [List.getElem_toArray, List.getElem_cons_zero, List.getElem_cons_succ, Act.put, List.setIfInBounds_toArray, List.set_cons_zero, List.set_cons_succ]
                  refine wpAnyH_take (i := 3) (v := ?_) rfl (by kernel_rfl) (by kernel_rfl) (by kernel_rfl) (fun _ _ _ h => h) (Or.inl ⟨by rfl, ?_⟩) (by assumption) ?_
                  rotate_left; focus (intro w hSw; (try dsimp only at hSw); go_simp; try (with_reducible rfl); done)
                  try simp only [List.getElem_toArray, List.getElem_cons_zero, List.getElem_cons_succ, Act.put, List.setIfInBounds_toArray, List.set_cons_zero, List.set_cons_succ]
                  refine wpAnyH_take (i := 4) (v := ?_) rfl (by kernel_rfl) (by kernel_rfl) (by kernel_rfl) (fun _ _ _ h => h) (Or.inl ⟨by rfl, ?_⟩) (by assumption) ?_
                  rotate_left; focus (intro w hSw; (try dsimp only at hSw); go_simp; try (with_reducible rfl); done)
                  try simp only [List.getElem_toArray, List.getElem_cons_zero, List.getElem_cons_succ, Act.put, List.setIfInBounds_toArray, List.set_cons_zero, List.set_cons_succ]
                  refine wpAnyH_take (i := 5) (v := ?_) rfl (by kernel_rfl) (by kernel_rfl) (by kernel_rfl) (fun _ _ _ h => h) (Or.inl ⟨by rfl, ?_⟩) (by assumption) ?_
                  rotate_left; focus (intro w hSw; (try dsimp only at hSw); go_simp; try (with_reducible rfl); done)
                  try simp only [List.getElem_toArray, List.getElem_cons_zero, List.getElem_cons_succ, Act.put, List.setIfInBounds_toArray, List.set_cons_zero, List.set_cons_succ]
                  refine wpAnyH_take (i := 6) (v := ?_) rfl (by kernel_rfl) (by kernel_rfl) (by kernel_rfl) (fun _ _ _ h => h) (Or.inl ⟨by rfl, ?_⟩) (by assumption) ?_
                  rotate_left; focus (intro w hSw; (try dsimp only at hSw); go_simp; try (with_reducible rfl); done)
                  try simp only [List.getElem_toArray, List.getElem_cons_zero, List.getElem_cons_succ, Act.put, List.setIfInBounds_toArray, List.set_cons_zero, List.set_cons_succ]
                  refine wpAnyH_take (i := 7) (v := ?_) rfl (by kernel_rfl) (by kernel_rfl) (by kernel_rfl) (fun _ _ _ h => h) (Or.inl ⟨by rfl, ?_⟩) (by assumption) ?_
                  rotate_left; focus (intro w hSw; (try dsimp only at hSw); go_simp; try (with_reducible rfl); done)
                  try simp only [List.getElem_toArray, List.getElem_cons_zero, List.getElem_cons_succ, Act.put, List.setIfInBounds_toArray, List.set_cons_zero, List.set_cons_succ]
                  refine wpAnyH_take (i := 8) (v := ?_) rfl (by kernel_rfl) (by kernel_rfl) (by kernel_rfl) (fun _ _ _ h => h) (Or.inl ⟨by rfl, ?_⟩) (by assumption) ?_
                  rotate_left; focus (intro w hSw; (try dsimp only at hSw); go_simp; try (with_reducible rfl); done)
                  try simp only [List.getElem_toArray, List.getElem_cons_zero, List.getElem_cons_succ, Act.put, List.setIfInBounds_toArray, List.set_cons_zero, List.set_cons_succ]
                  refine wpAnyH_take (i := 9) (v := ?_) rfl (by kernel_rfl) (by kernel_rfl) (by kernel_rfl) (fun _ _ _ h => h) (Or.inl ⟨by rfl, ?_⟩) (by assumption) ?_
                  rotate_left; focus (intro w hSw; (try dsimp only at hSw); go_simp; try (with_reducible rfl); done)
                  try simp only [List.getElem_toArray, List.getElem_cons_zero, List.getElem_cons_succ, Act.put, List.setIfInBounds_toArray, List.set_cons_zero, List.set_cons_succ]
                  refine wpAnyH_take (i := 10) (v := ?_) rfl (by kernel_rfl) (by kernel_rfl) (by kernel_rfl) (fun _ _ _ h => h) (Or.inl ⟨by rfl, ?_⟩) (by assumption) ?_
                  rotate_left; focus (intro w hSw; (try dsimp only at hSw); go_simp; try (with_reducible rfl); done)
                  try simp only [List.getElem_toArray, List.getElem_cons_zero, List.getElem_cons_succ, Act.put, List.setIfInBounds_toArray, List.set_cons_zero, List.set_cons_succ]
                  refine wpAnyH_ready (rs := [11]) (by kernel_rfl) (by simp) ?_
                  refine AllReadyH.cons rfl (fun K hK => ?_) AllReadyH.nil
                  go_simp
                  refine hK.out _ _ ?_ (fun hHeld => ?_)
                  · (try dsimp only); (first | exact ⟨z1, y1, y2⟩ | exact HZ.out _ hN.drew | exact HZ.out _ hN)
                  clear hK K
                  try simp only [List.getElem_toArray, List.getElem_cons_zero, List.getElem_cons_succ, Act.put, List.setIfInBounds_toArray, List.set_cons_zero, List.set_cons_succ]
                  refine wpAnyH_take (i := 12) (v := ?_) rfl (by kernel_rfl) (by kernel_rfl) (by kernel_rfl) (fun _ _ _ h => h) (Or.inl ⟨by rfl, ?_⟩) (by assumption) ?_
                  rotate_left; focus (intro w hSw; (try dsimp only at hSw); go_simp; try (with_reducible rfl); done)
                  try simp only [List.getElem_toArray, List.getElem_cons_zero, List.getElem_cons_succ, Act.put, List.setIfInBounds_toArray, List.set_cons_zero, List.set_cons_succ]
                  first | (refine wpAnyH_take (i := 13) (v := undef) rfl (by kernel_rfl) (by kernel_rfl) (by kernel_rfl) (fun _ _ _ h => h) (Or.inr ⟨by rfl, rfl⟩) (by assumption) ?_) | (refine wpAnyH_take (i := 13) (v := ?_) rfl (by kernel_rfl) (by kernel_rfl) (by kernel_rfl) (fun _ _ _ h => h) (Or.inl ⟨by rfl, ?_⟩) (by assumption) ?_; rotate_left; focus (intro w hSw; (try dsimp only at hSw); go_simp; try (with_reducible rfl); done))
                  try simp only [List.getElem_toArray, List.getElem_cons_zero, List.getElem_cons_succ, Act.put, List.setIfInBounds_toArray, List.set_cons_zero, List.set_cons_succ]
                  first | (refine wpAnyH_take (i := 14) (v := undef) rfl (by kernel_rfl) (by kernel_rfl) (by kernel_rfl) (fun _ _ _ h => h) (Or.inr ⟨by rfl, rfl⟩) (by assumption) ?_) | (refine wpAnyH_take (i := 14) (v := ?_) rfl (by kernel_rfl) (by kernel_rfl) (by kernel_rfl) (fun _ _ _ h => h) (Or.inl ⟨by rfl, ?_⟩) (by assumption) ?_; rotate_left; focus (intro w hSw; (try dsimp only at hSw); go_simp; try (with_reducible rfl); done))
                  try simp only [List.getElem_toArray, List.getElem_cons_zero, List.getElem_cons_succ, Act.put, List.setIfInBounds_toArray, List.set_cons_zero, List.set_cons_succ]
                  first | (refine wpAnyH_take (i := 15) (v := undef) rfl (by kernel_rfl) (by kernel_rfl) (by kernel_rfl) (fun _ _ _ h => h) (Or.inr ⟨by rfl, rfl⟩) (by assumption) ?_) | (refine wpAnyH_take (i := 15) (v := ?_) rfl (by kernel_rfl) (by kernel_rfl) (by kernel_rfl) (fun _ _ _ h => h) (Or.inl ⟨by rfl, ?_⟩) (by assumption) ?_; rotate_left; focus (intro w hSw; (try dsimp only at hSw); go_simp; try (with_reducible rfl); done))
                  try simp only [List.getElem_toArray, List.getElem_cons_zero, List.getElem_cons_succ, Act.put, List.setIfInBounds_toArray, List.set_cons_zero, List.set_cons_succ]
                  first | (refine wpAnyH_take (i := 16) (v := undef) rfl (by kernel_rfl) (by kernel_rfl) (by kernel_rfl) (fun _ _ _ h => h) (Or.inr ⟨by rfl, rfl⟩) (by assumption) ?_) | (refine wpAnyH_take (i := 16) (v := ?_) rfl (by kernel_rfl) (by kernel_rfl) (by kernel_rfl) (fun _ _ _ h => h) (Or.inl ⟨by rfl, ?_⟩) (by assumption) ?_; rotate_left; focus (intro w hSw; (try dsimp only at hSw); go_simp; try (with_reducible rfl); done))
                  try simp only [List.getElem_toArray, List.getElem_cons_zero, List.getElem_cons_succ, Act.put, List.setIfInBounds_toArray, List.set_cons_zero, List.set_cons_succ]
                  first | (refine wpAnyH_take (i := 17) (v := undef) rfl (by kernel_rfl) (by kernel_rfl) (by kernel_rfl) (fun _ _ _ h => h) (Or.inr ⟨by rfl, rfl⟩) (by assumption) ?_) | (refine wpAnyH_take (i := 17) (v := ?_) rfl (by kernel_rfl) (by kernel_rfl) (by kernel_rfl) (fun _ _ _ h => h) (Or.inl ⟨by rfl, ?_⟩) (by assumption) ?_; rotate_left; focus (intro w hSw; (try dsimp only at hSw); go_simp; try (with_reducible rfl); done))
                  try simp only [List.getElem_toArray, List.getElem_cons_zero, List.getElem_cons_succ, Act.put, List.setIfInBounds_toArray, List.set_cons_zero, List.set_cons_succ]
                  first | (refine wpAnyH_take (i := 18) (v := undef) rfl (by kernel_rfl) (by kernel_rfl) (by kernel_rfl) (fun _ _ _ h => h) (Or.inr ⟨by rfl, rfl⟩) (by assumption) ?_) | (refine wpAnyH_take (i := 18) (v := ?_) rfl (by kernel_rfl) (by kernel_rfl) (by kernel_rfl) (fun _ _ _ h => h) (Or.inl ⟨by rfl, ?_⟩) (by assumption) ?_; rotate_left; focus (intro w hSw; (try dsimp only at hSw); go_simp; try (with_reducible rfl); done))
                  try simp only [List.getElem_toArray, List.getElem_cons_zero, List.getElem_cons_succ, Act.put, List.setIfInBounds_toArray, List.set_cons_zero, List.set_cons_succ]
                  first | (refine wpAnyH_take (i := 19) (v := undef) rfl (by kernel_rfl) (by kernel_rfl) (by kernel_rfl) (fun _ _ _ h => h) (Or.inr ⟨by rfl, rfl⟩) (by assumption) ?_) | (refine wpAnyH_take (i := 19) (v := ?_) rfl (by kernel_rfl) (by kernel_rfl) (by kernel_rfl) (fun _ _ _ h => h) (Or.inl ⟨by rfl, ?_⟩) (by assumption) ?_; rotate_left; focus (intro w hSw; (try dsimp only at hSw); go_simp; try (with_reducible rfl); done))
                  try simp only [List.getElem_toArray, List.getElem_cons_zero, List.getElem_cons_succ, Act.put, List.setIfInBounds_toArray, List.set_cons_zero, List.set_cons_succ]
                  refine wpAnyH_take (i := 20) (v := ?_) rfl (by kernel_rfl) (by kernel_rfl) (by kernel_rfl) (fun _ _ _ h => h) (Or.inl ⟨by rfl, ?_⟩) (by assumption) ?_
                  rotate_left; focus (intro w hSw; (try dsimp only at hSw); go_simp; try (with_reducible rfl); done)
                  try simp only [List.getElem_toArray, List.getElem_cons_zero, List.getElem_cons_succ, Act.put, List.setIfInBounds_toArray, List.set_cons_zero, List.set_cons_succ]
                  refine wpAnyH_take (i := 21) (v := ?_) rfl (by kernel_rfl) (by kernel_rfl) (by kernel_rfl) (fun _ _ _ h => h) (Or.inl ⟨by rfl, ?_⟩) (by assumption) ?_
                  rotate_left; focus (intro w hSw; (try dsimp only at hSw); go_simp; try (with_reducible rfl); done)
                  try simp only [List.getElem_toArray, List.getElem_cons_zero, List.getElem_cons_succ, Act.put, List.setIfInBounds_toArray, List.set_cons_zero, List.set_cons_succ]
                  refine wpAnyH_ready (rs := [22]) (by kernel_rfl) (by simp) ?_
                  refine AllReadyH.cons rfl (fun K hK => ?_) AllReadyH.nil
                  go_simp
                  refine hK.out _ _ ?_ (fun hHeld => ?_)
                  · (try dsimp only); (first | exact ⟨z1, y1, y2⟩ | exact HZ.out _ hN.drew | exact HZ.out _ hN)
                  clear hK K
                  try simp only [List.getElem_toArray, List.getElem_cons_zero, List.getElem_cons_succ, Act.put, List.setIfInBounds_toArray, List.set_cons_zero, List.set_cons_succ]
                  refine wpAnyH_done (by kernel_rfl) ?_ _
                  go_wp2
                  go_roundg (n + 1 - (j + 1))
                  case measure => have := HGZ3.out; omega
                  case rel => exact ⟨j + 1, by omega, by omega, rfl, by go_num, hN.drew⟩
              · have hljd : decide ((j : Int) < (n : Int) + 1) = false := decide_eq_false (by omega)
                obtain rfl : j = n + 1 := by omega
                go_wp2_with (fail)
                go_roundg (n + 1 - (m + 1))
                case measure => have := HGZ2.out; omega
                case rel => exact ⟨m + 1, _, by omega, by omega, rfl, by go_num, rfl, by rw [← Tab.in_end]; exact HST.out⟩
        · obtain rfl : m = n + 1 := by omega
          have hge : ¬ ((n : Int) + 1 < (n : Int) + 1) := by omega
          go_wp2_with (fail)
          go_roundg (n + 1 - (i + 1))
          case measure => have := HGZ.out; omega
          case rel => exact ⟨i + 1, by omega, rfl, by go_num, by rw [← Tab.mid_end]; exact hst⟩
    · obtain rfl : i = n + 1 := by omega
      have hge : ¬ ((n : Int) + 1 < (n : Int) + 1) := by omega
      go_wp2_with (fail)
      go_ret
      exact ⟨go, ro, rfl, HRO.out, hst⟩
end Go.Proofs.YtfelikfppjlcmaaDoor

/-
  What the tables of the reference hold, kind by kind. (Plain functions; nothing of the program is claimed.)
-/
namespace Go.Proofs.YtfelikfppjlcmaaDoor
set_option linter.unusedVariables false
set_option linter.unusedSimpArgs false

namespace Rm
def tb (n : Nat) (B : Nat → Nat) (f : Nat) (t : Rx) : Nat → Nat → Bool := fun x y => decide (x < n + 1) && decide (y < n + 1) && mt n B f t x y
variable {n : Nat} {B : Nat → Nat} {f : Nat} {t : Rx}
theorem tb_le {x y : Nat} (h : tb n B f t x y = true) : x ≤ y ∧ y < n + 1 := by
  simp only [tb, Bool.and_eq_true, decide_eq_true_eq] at h
  exact ⟨(mt_fwd f t x y (by omega) h.2).1, h.1.2⟩
theorem tb_none (h : t.kind = 1) : (fun _ _ => false) = tb n B (f + 1) t := by
  funext x y
  rw [tb, mt, if_neg (by omega), if_neg (by omega), if_neg (by omega), if_neg (by omega), if_neg (by omega), Bool.and_false]
def eqR (i : Nat) : Nat → Nat → Bool := fun x y => decide (x < i) && decide (x = y)
theorem eq_zero : eqR 0 = fun _ _ => false := by funext x y; simp [eqR]
theorem eq_step (i : Nat) : Tab.upd (eqR i) i i true = eqR (i + 1) := by
  funext x y
  unfold Tab.upd eqR
  by_cases h : x = i ∧ y = i
  · rw [if_pos h]; obtain ⟨rfl, rfl⟩ := h; simp
  · rw [if_neg h, Bool.eq_iff_iff]
    simp only [Bool.and_eq_true, decide_eq_true_eq]
    omega
theorem eq_end (h : t.kind = 2) : eqR (n + 1) = tb n B (f + 1) t := by
  funext x y
  rw [tb, mt, if_pos h, eqR, Bool.eq_iff_iff]
  simp only [Bool.and_eq_true, decide_eq_true_eq]
  omega
def byR (p : Nat → Bool) (i : Nat) : Nat → Nat → Bool := fun x y => decide (x < i) && (decide (y = x + 1) && p x)
theorem by_zero (p : Nat → Bool) : byR p 0 = fun _ _ => false := by funext x y; simp [byR]
theorem by_step (p : Nat → Bool) (i : Nat) : Tab.upd (byR p i) i (i + 1) (p i) = byR p (i + 1) := by
  funext x y
  unfold Tab.upd byR
  by_cases h : x = i ∧ y = i + 1
  · rw [if_pos h]; obtain ⟨rfl, rfl⟩ := h; simp
  · rw [if_neg h]
    by_cases hx : x = i
    · subst hx
      simp [show ¬ y = x + 1 from fun e => h ⟨rfl, e⟩]
    · rw [show decide (x < i + 1) = decide (x < i) from by rw [decide_eq_decide]; omega]
theorem by_end (h : t.kind = 3) : byR (fun x => Dm.mem (Rx.ws t) (B x)) n = tb n B (f + 1) t := by
  funext x y
  rw [tb, mt, if_neg (by omega), if_pos h, byR, Bool.eq_iff_iff]
  simp only [Bool.and_eq_true, decide_eq_true_eq]
  constructor
  · rintro ⟨h1, h2, h3⟩; exact ⟨⟨by omega, by omega⟩, h2, h1, h3⟩
  · rintro ⟨-, h2, h1, h3⟩; exact ⟨h1, h2, h3⟩
theorem cat_end (h : t.kind = 4) : Tab.outR (tb n B f (t.kids.getD 0 Rx.nil)) (tb n B f (t.kids.getD 1 Rx.nil)) (n + 1) (n + 1) = tb n B (f + 1) t := by
  funext x y
  rw [tb, mt, if_neg (by omega), if_neg (by omega), if_neg (by omega), if_pos h, Bool.eq_iff_iff]
  simp only [Tab.outR, Tab.acc, Bool.and_eq_true, decide_eq_true_eq, List.any_eq_true, List.mem_range]
  constructor
  · rintro ⟨hx, m, hm, hv⟩
    simp only [Tab.via, tb, Bool.and_eq_true, decide_eq_true_eq] at hv
    exact ⟨⟨hx, hv.1.2⟩, m, hm, hv.1.1.1.2.2, hv.2.2⟩
  · rintro ⟨⟨hx, hy⟩, m, hm, h1, h2⟩
    have e1 := mt_fwd f _ x m (by omega) h1
    have e2 := mt_fwd f _ m y (by omega) h2
    refine ⟨hx, m, hm, ?_⟩
    simp only [Tab.via, tb, Bool.and_eq_true, decide_eq_true_eq]
    exact ⟨⟨⟨⟨e1.1, ⟨hx, hm⟩, h1⟩, e2.1⟩, hy⟩, ⟨hm, hy⟩, h2⟩
def orO (U : Nat → Nat → Bool) (i : Nat) : Nat → Nat → Bool := fun x y => decide (x < i) && U x y
def orI (U : Nat → Nat → Bool) (i j : Nat) : Nat → Nat → Bool := fun x y => (decide (x < i) && U x y) || (decide (x = i) && decide (y < j) && U x y)
theorem or_zero (U : Nat → Nat → Bool) : orO U 0 = fun _ _ => false := by funext x y; simp [orO]
theorem or_in {U : Nat → Nat → Bool} (hU : ∀ x y, U x y = true → x ≤ y) (i : Nat) : orI U i i = orO U i := by
  funext x y
  rw [orI, orO, Bool.eq_iff_iff]
  simp only [Bool.or_eq_true, Bool.and_eq_true, decide_eq_true_eq]
  constructor
  · rintro (h | ⟨⟨rfl, h2⟩, h3⟩)
    · exact h
    · have := hU _ _ h3; omega
  · exact .inl
theorem or_step (U : Nat → Nat → Bool) (i j : Nat) : Tab.upd (orI U i j) i j (U i j) = orI U i (j + 1) := by
  funext x y
  unfold Tab.upd orI
  by_cases h : x = i ∧ y = j
  · rw [if_pos h]; obtain ⟨rfl, rfl⟩ := h; simp
  · rw [if_neg h]
    by_cases hx : x = i
    · rw [show decide (y < j + 1) = decide (y < j) from by rw [decide_eq_decide]; have : y ≠ j := fun e => h ⟨hx, e⟩; omega]
    · simp [hx]
theorem or_out {U : Nat → Nat → Bool} {N : Nat} (hU : ∀ x y, U x y = true → y < N) (i : Nat) : orI U i N = orO U (i + 1) := by
  funext x y
  rw [orI, orO, Bool.eq_iff_iff]
  simp only [Bool.or_eq_true, Bool.and_eq_true, decide_eq_true_eq]
  constructor
  · rintro (⟨h1, h2⟩ | ⟨⟨rfl, h2⟩, h3⟩)
    · exact ⟨by omega, h2⟩
    · exact ⟨by omega, h3⟩
  · rintro ⟨h1, h2⟩
    have := hU _ _ h2
    by_cases e : x = i
    · exact .inr ⟨⟨e, this⟩, h2⟩
    · exact .inl ⟨by omega, h2⟩
theorem or_end (h : t.kind = 5) : orO (fun x y => tb n B f (t.kids.getD 0 Rx.nil) x y || tb n B f (t.kids.getD 1 Rx.nil) x y) (n + 1) = tb n B (f + 1) t := by
  funext x y
  rw [tb, mt, if_neg (by omega), if_neg (by omega), if_pos h, orO, Bool.eq_iff_iff]
  simp only [tb, Bool.or_eq_true, Bool.and_eq_true, decide_eq_true_eq]
  constructor
  · rintro ⟨h1, (⟨h2, h3⟩ | ⟨h2, h3⟩)⟩
    · exact ⟨h2, .inl h3⟩
    · exact ⟨h2, .inr h3⟩
  · rintro ⟨h2, (h3 | h3)⟩
    · exact ⟨h2.1, .inl ⟨h2, h3⟩⟩
    · exact ⟨h2.1, .inr ⟨h2, h3⟩⟩
/-! The star: rows from the last one down. -/
def sv (A F : Nat → Nat → Bool) (i m y : Nat) : Bool := decide (i < m) && A i m && F m y
def sa (A F : Nat → Nat → Bool) (i M y : Nat) : Bool := (List.range M).any fun m => sv A F i m y
def stO (F : Nat → Nat → Bool) (i : Nat) : Nat → Nat → Bool := fun x y => decide (i ≤ x) && F x y
def stM (A F : Nat → Nat → Bool) (i M : Nat) : Nat → Nat → Bool := fun x y => (decide (i < x) && F x y) || (decide (x = i) && (decide (y = i) || sa A F i M y))
def stI (A F : Nat → Nat → Bool) (i m j : Nat) : Nat → Nat → Bool := fun x y => (decide (i < x) && F x y) || (decide (x = i) && (decide (y = i) || sa A F i m y || (decide (y < j) && sv A F i m y)))
variable {A F : Nat → Nat → Bool} {N i m j : Nat}
theorem sa_succ (i M y : Nat) : sa A F i (M + 1) y = (sa A F i M y || sv A F i M y) := by unfold sa; rw [List.range_succ, List.any_append]; simp
theorem sa_low {i M y : Nat} (h : M ≤ i + 1) : sa A F i M y = false := by
  unfold sa
  rw [List.any_eq_false]
  intro m hm
  have := List.mem_range.1 hm
  simp [sv, show ¬ i < m by omega]
theorem s_start (i : Nat) : Tab.upd (stO F (i + 1)) i i true = stM A F i (i + 1) := by
  funext x y
  unfold Tab.upd stO stM
  rw [sa_low (Nat.le_refl _), Bool.or_false]
  by_cases h : x = i ∧ y = i
  · rw [if_pos h]; obtain ⟨rfl, rfl⟩ := h; simp
  · rw [if_neg h, show decide (i + 1 ≤ x) = decide (i < x) from rfl]
    by_cases hx : x = i
    · subst hx; simp [show ¬ y = x from fun e => h ⟨rfl, e⟩]
    · simp [hx]
theorem s_in (hF : ∀ x y, F x y = true → x ≤ y) : stI A F i m m = stM A F i m := by
  funext x y
  unfold stI stM
  rw [show (decide (y < m) && sv A F i m y) = false from ?_, Bool.or_false]
  rw [Bool.and_eq_false_iff]
  by_cases h : y < m
  · right
    unfold sv
    rw [Bool.and_eq_false_iff]
    right
    cases e : F m y
    · rfl
    · have := hF _ _ e; omega
  · left; simp [h]
theorem s_none (h : A i m = false) (j : Nat) : stI A F i m j = stM A F i (m + 1) := by
  funext x y
  unfold stI stM
  rw [sa_succ, show sv A F i m y = false by simp [sv, h], Bool.and_false, Bool.or_false, Bool.or_false]
theorem s_inEnd (hF : ∀ x y, F x y = true → y < N) : stI A F i m N = stM A F i (m + 1) := by
  funext x y
  unfold stI stM
  rw [sa_succ, ← Bool.or_assoc]
  congr 3
  unfold sv
  cases e : F m y
  · simp
  · simp [hF _ _ e]
theorem s_row {y : Nat} (him : i < m) : stI A F i m j m y = F m y := by simp [stI, him, show ¬ m = i by omega]
theorem s_step (him : i < m) (h : A i m = true) : Tab.upd (stI A F i m j) i j (stI A F i m j i j || F m j) = stI A F i m (j + 1) := by
  funext x y
  unfold Tab.upd
  by_cases hc : x = i ∧ y = j
  · rw [if_pos hc]
    obtain ⟨rfl, rfl⟩ := hc
    simp [stI, sv, him, h]
  · rw [if_neg hc]
    unfold stI
    by_cases hx : x = i
    · have hy : y ≠ j := fun e => hc ⟨hx, e⟩
      rw [show decide (y < j + 1) = decide (y < j) from by rw [decide_eq_decide]; omega]
    · simp [hx]
theorem star_rec (h : t.kind = 6) {x : Nat} (hx : x < n + 1) (y : Nat) : tb n B (f + 1) t x y = (decide (y = x) || sa (tb n B f (t.kids.getD 0 Rx.nil)) (tb n B (f + 1) t) x (n + 1) y) := by
  have hm : ∀ a b, mt n B (f + 1) t a b = st (mt n B f (t.kids.getD 0 Rx.nil)) n n a b := fun a b => by
    rw [mt, if_neg (by omega), if_neg (by omega), if_neg (by omega), if_neg (by omega), if_pos h]
  have hf : Fwd n (mt n B f (t.kids.getD 0 Rx.nil)) := mt_fwd f _
  rw [Bool.eq_iff_iff]
  simp only [tb, sa, sv, hm, Bool.or_eq_true, Bool.and_eq_true, decide_eq_true_eq, List.any_eq_true, List.mem_range]
  constructor
  · rintro ⟨⟨-, hy⟩, hs⟩
    rw [← st_eq hf (show x ≤ n by omega) (f := n + 1) (by omega), st] at hs
    simp only [Bool.or_eq_true, decide_eq_true_eq, List.any_eq_true, List.mem_range, Bool.and_eq_true] at hs
    rcases hs with rfl | ⟨m, hm1, ⟨h1, h2⟩, h3⟩
    · exact .inl rfl
    · exact .inr ⟨m, hm1, ⟨h1, ⟨hx, hm1⟩, h2⟩, ⟨hm1, hy⟩, h3⟩
  · rintro (rfl | ⟨m, hm1, ⟨h1, -, h2⟩, ⟨-, hy⟩, h3⟩)
    · exact ⟨⟨hx, hx⟩, st_refl _ _⟩
    · refine ⟨⟨hx, hy⟩, ?_⟩
      rw [← st_eq hf (show x ≤ n by omega) (f := n + 1) (by omega), st]
      simp only [Bool.or_eq_true, decide_eq_true_eq, List.any_eq_true, List.mem_range, Bool.and_eq_true]
      exact .inr ⟨m, hm1, ⟨h1, h2⟩, h3⟩
theorem s_midEnd (h : t.kind = 6) (hi : i < n + 1) : stM (tb n B f (t.kids.getD 0 Rx.nil)) (tb n B (f + 1) t) i (n + 1) = stO (tb n B (f + 1) t) i := by
  funext x y
  unfold stM stO
  by_cases hx : x = i
  · subst hx
    rw [← star_rec h hi]
    simp
  · rw [show decide (x = i) = false by simp [hx], Bool.false_and, Bool.or_false, show decide (i < x) = decide (i ≤ x) from by rw [decide_eq_decide]; omega]
theorem s_end (F : Nat → Nat → Bool) : stO F 0 = F := by funext x y; simp [stO]
theorem s_zero : stO (tb n B f t) (n + 1) = fun _ _ => false := by
  funext x y
  rw [stO, tb]
  by_cases h : n + 1 ≤ x
  · simp [show ¬ x < n + 1 by omega]
  · simp [h]
end Rm
end Go.Proofs.YtfelikfppjlcmaaDoor

/-
  m[k]++ of a map that the call made, at the steps of a region that draws its order; structs of two numbers as keys. (A helper text; it claims nothing of the program.)
-/
namespace Go.Proofs.YtfelikfppjlcmaaDoor
set_option linter.unusedVariables false
open Go.ChangeShapes Go.WideShapes Go.ChangeAt Go.RowKit Go.ChangeMaps

section
variable {P : Program} {k e t : TypeId} {w : World} {b n : Nat} {D : DataW Unit}
theorem entry_own (h : w.ownsMap P k (plainElem P e) b n D) (KL : WideMaps.KeyLaw P k) (ht : P.underlying t = some (.map k e)) (he : P.underlying e = some (.int .i64)) (hz : ∀ u : World, (zeroValue e).run P u = .ok (.int .i64 0) u) (hn : n < maxLen)
    {key : Value} {kl : Lit} (hkey : keyOf P k key = some kl) :
    ∃ (v0 : Value) (st : Nat) (es1 : Array MapEntry) (clock1 : Nat) (D1 : DataW Unit), (Instr.mapEntry t (.map (some b)) key).run P w = .ok (.tuple #[v0, goInt st]) (setBlock w b (.map es1 clock1)) ∧
      (setBlock w b (.map es1 clock1)).ownsMap P k (plainElem P e) b (n + 1) D1 ∧ D1.atKey kl (.lit (.int .i64 0)) = D.atKey kl (.lit (.int .i64 0)) ∧
      ∀ (w2 : World) (val : Value) (d : DataW Unit) (ps : List MemPlace), w2.heap[b]? = some (.map es1 clock1) → plainElem P e val = some (d, ps) → ∃ w3, (Instr.entryStore t (.map (some b)) (goInt st) val).run P w2 = .ok () w3 ∧ w3.ownsMap P k (plainElem P e) b (n + 1) (D.put kl d) ∧ w2.grownBy w3 (some b) := by
  have K := Maps.Keyed.of_law KL
  have h0 := h
  have hpz : plainElem (H := Unit) P e (.int .i64 0) = some (.lit (.int .i64 0), []) := plainElem_int he (by decide)
  obtain ⟨es, clock, hb, F, hs, hD⟩ := h
  obtain ⟨v0, st, es1, clock1, hrun, hcase, hstore⟩ := WideElems.entry_then_store KL ht hz hb F hkey
  have hsame : ∀ {c1 c2 : Nat} {x1 x2 : Array MapEntry}, setBlock w b (.map x1 c1) = setBlock w b (.map x2 c2) → x1 = x2 ∧ c1 = c2 := by
    intro c1 c2 x1 x2 hh
    have h1 := congrArg (fun u : World => u.heap[b]?) hh
    simp only [heap_setBlock_same hb] at h1
    simpa using h1
  have hst : ∀ (w2 : World) (val : Value) (d : DataW Unit) (ps : List MemPlace), w2.heap[b]? = some (.map es1 clock1) → plainElem P e val = some (d, ps) → ∃ w3, (Instr.entryStore t (.map (some b)) (goInt st) val).run P w2 = .ok () w3 ∧ w3.ownsMap P k (plainElem P e) b (n + 1) (D.put kl d) ∧ w2.grownBy w3 (some b) := by
    intro w2 val d ps hw2 hval
    obtain ⟨es', clock', g1, g2⟩ := hstore w2 val hw2
    obtain ⟨w', g3, g4, g5⟩ := h0.update K ht hn hkey hval
    rw [g2] at g3
    cases g3
    refine ⟨_, g1, ?_, ⟨rfl, rfl, rfl, by simp [setBlock], fun i _ hi => heap_setBlock_other hw2 _ (fun e => hi (by rw [e]))⟩⟩
    obtain ⟨xs, ck, q1, q2⟩ := g4
    refine ⟨xs, ck, ?_, q2⟩
    rw [heap_setBlock_same hb] at q1
    rw [heap_setBlock_same hw2]
    exact q1
  rcases KL.find w hkey es.toList F.keys with ⟨h1, h2⟩ | ⟨j, e0, h1, h2, h3⟩
  · have hrunE : (Instr.mapEntry t (.map (some b)) key).run P w = .ok (.tuple #[.int .i64 0, goInt clock]) (setBlock w b (.map (es.push ⟨key, .int .i64 0, clock⟩) (clock + 1))) := by
      simp [Instr.mapEntry, run_underlying ht, MapKept.run_getObj_map hb, KL.check w false hkey, h1, hz, MapKept.run_setObj_map _ hb, Result.andThen, setBlock]
    have hrunU : (Instr.mapUpdate t (.map (some b)) key (.int .i64 0)).run P w = .ok () (setBlock w b (.map (es.push ⟨key, .int .i64 0, clock⟩) (clock + 1))) := by
      simp [Instr.mapUpdate, run_underlying ht, MapKept.run_getObj_map hb, KL.check w false hkey, h1, MapKept.run_setObj_map _ hb, Result.andThen, setBlock]
    have hrunL : (Instr.lookup t (.map (some b)) key false).run P w = .ok (.int .i64 0) w := by
      obtain ⟨c, hl, _, _⟩ := h0.lookup_int K ht he (hz w) hkey
      rw [hl]
      have : (Instr.lookup t (.map (some b)) key false).run P w = .ok (.int .i64 0) w := by
        rcases Maps.fit_look false K ht (hz w) hb F hkey with ⟨hr, _, _⟩ | ⟨x0, _, hx0, hxk, _⟩
        · exact hr
        · exact absurd hxk (h2 x0 hx0)
      rw [← hl, this]
    obtain ⟨c, hl, hat, _⟩ := h0.lookup_int K ht he (hz w) hkey
    rw [hrunL] at hl
    cases hl
    obtain ⟨w', g3, g4, g5⟩ := h0.update K ht hn hkey hpz
    rw [hrunU] at g3
    cases g3
    rw [hrunE] at hrun
    have hq := Result.ok.inj hrun
    obtain ⟨e1, e2⟩ := hsame hq.2
    subst e1 e2
    refine ⟨v0, st, _, _, _, by rw [hrunE]; exact hrun, g4, ?_, hst⟩
    rw [Maps.atKey_put_same (by rw [hD]; exact ⟨_, rfl⟩) (K.key hkey), hat]
  · have hj : es[j]? = some e0 := by simpa using h2
    have hsm : es.modify j (fun e => { e with key := key }) = es := by
      apply Array.ext'
      rw [Array.toList_modify, modify_eq_set _ _ _ _ h2]
      have : ({ e0 with key := key } : MapEntry) = e0 := by rw [← h3]
      rw [this]
      exact WideElems.set_self _ _ _ h2
    have hrunE : (Instr.mapEntry t (.map (some b)) key).run P w = .ok (.tuple #[e0.val, goInt e0.born]) (setBlock w b (.map es clock)) := by
      simp [Instr.mapEntry, run_underlying ht, MapKept.run_getObj_map hb, KL.check w false hkey, h1, hj, h3, KL.stays w hkey, hsm, MapKept.run_setObj_map _ hb, Result.andThen, setBlock]
    rw [hrunE] at hrun
    have hq := Result.ok.inj hrun
    obtain ⟨e1, e2⟩ := hsame hq.2
    subst e1 e2
    exact ⟨v0, st, _, _, D, by rw [hrunE]; exact hrun, ⟨es, clock, heap_setBlock_same hb _, F, by omega, hD⟩, rfl, hst⟩
end

/-- A map whose entry at a key has been laid open, to be written. -/
def aEnt (k e t : TypeId) (b n : Nat) (D : DataW Unit) (kl : Lit) (st : Nat) : Asrt where
  fp := [b]
  ok := fun w => ∃ (es1 : Array MapEntry) (clock1 : Nat) (D1 : DataW Unit), w.heap[b]? = some (.map es1 clock1) ∧ w.ownsMap Tryd.prog k (plainElem Tryd.prog e) b (n + 1) D1 ∧ D1.atKey kl (.lit (.int .i64 0)) = D.atKey kl (.lit (.int .i64 0)) ∧
    ∀ (w2 : World) (val : Value) (d : DataW Unit) (ps : List MemPlace), w2.heap[b]? = some (.map es1 clock1) → plainElem Tryd.prog e val = some (d, ps) → ∃ w3, (Instr.entryStore t (.map (some b)) (goInt st) val).run Tryd.prog w2 = .ok () w3 ∧ w3.ownsMap Tryd.prog k (plainElem Tryd.prog e) b (n + 1) (D.put kl d) ∧ w2.grownBy w3 (some b)
  loc := fun w w' hb h => by
    obtain ⟨es1, clock1, D1, h1, ⟨xs, ck, q1, q2⟩, h3, h4⟩ := h
    have hh := hb b (by simp)
    exact ⟨es1, clock1, D1, hh.trans h1, ⟨xs, ck, hh.trans q1, q2⟩, h3, h4⟩

section
variable {w0 w : World} {μ : List Asrt} {k e t : TypeId} {b n : Nat} {D : DataW Unit} {ops : Array Oper} {rest : List Oper} {o : Oper} {a : Act} {K : Act → World → Prop} {Q : Exit → Act → World → Prop} {EE : Prop}
/-- A map's literal: an entry of it. -/
theorem St.insertOp (hgd : o.guard = none) (m x v : Operand) (hop : o.op = Op.insert t m x v) (KL : WideMaps.KeyLaw Tryd.prog k) (ht : Tryd.prog.underlying t = some (.map k e)) (h : St w0 w (aMap k e b n D :: μ)) (hn : n < maxLen) (hm : a.eval m = .map (some b)) (key val : Value) {kl : Lit} (hx : a.eval x = key) (hv : a.eval v = val) (hkey : keyOf Tryd.prog k key = some kl)
    (d : DataW Unit) (ps : List MemPlace) (hval : plainElem Tryd.prog e val = some (d, ps)) (hK : ∀ w', St w0 w' (aMap k e b (n + 1) (D.put kl d) :: μ) → wpList Tryd.prog ops Q rest (a.put o.dst undef) w') : wpList Tryd.prog ops Q (o :: rest) a w := by
  refine wpList_plain hgd fun K' hK' => ?_
  obtain ⟨w', hrun, r1, r2⟩ := h.mapOwn.update (Maps.Keyed.of_law KL) ht hn hkey hval
  unfold Oper.wp
  simp [execOp, hop, hm, hx, hv, hrun, Result.andThen]
  exact hK' _ _ (hK w' (h.mapPut r1 r2))
/-- m[k], at a step. -/
theorem St.stepLook (hgd : o.guard = none) (m x : Operand) (hop : o.op = Op.lookup t m x false) (KL : WideMaps.KeyLaw Tryd.prog k) (ht : Tryd.prog.underlying t = some (.map k e)) (he : Tryd.prog.underlying e = some (.int .i64)) (hz : ∀ u : World, (zeroValue e).run Tryd.prog u = .ok (.int .i64 0) u) (h : w.ownsMap Tryd.prog k (plainElem Tryd.prog e) b n D) (hm : a.eval m = .map (some b)) (key : Value) {kl : Lit} (hx : a.eval x = key) (hkey : keyOf Tryd.prog k key = some kl)
    (c : Int) (hc : D.atKey kl (.lit (.int .i64 0)) = .lit (.int .i64 c)) (hK : K (a.put o.dst (.int .i64 c)) w) : if Region.wanted o (yielded ops a.tmps) = true then Oper.wp Tryd.prog o a w K Q else EE := by
  have hw : Region.wanted o (yielded ops a.tmps) = true := by simp [Region.wanted, hgd]
  rw [if_pos hw]
  obtain ⟨c', hl, hat, _⟩ := h.lookup_int (Maps.Keyed.of_law KL) ht he (hz w) hkey
  rw [hc] at hat
  cases hat
  unfold Oper.wp
  simp [execOp, hop, hm, hx, hl, Result.andThen]
  exact hK
theorem St.stepLook2 (hgd : o.guard = none) (m x : Operand) (hop : o.op = Op.lookup t m x false) (KL : WideMaps.KeyLaw Tryd.prog k) (ht : Tryd.prog.underlying t = some (.map k e)) (he : Tryd.prog.underlying e = some (.int .i64)) (hz : ∀ u : World, (zeroValue e).run Tryd.prog u = .ok (.int .i64 0) u) {kl : Lit} {st : Nat} (h : St w0 w (aEnt k e t b n D kl st :: μ)) (hm : a.eval m = .map (some b)) (key : Value) (hx : a.eval x = key) (hkey : keyOf Tryd.prog k key = some kl)
    (c : Int) (hc : D.atKey kl (.lit (.int .i64 0)) = .lit (.int .i64 c)) (hK : K (a.put o.dst (.int .i64 c)) w) : if Region.wanted o (yielded ops a.tmps) = true then Oper.wp Tryd.prog o a w K Q else EE := by
  obtain ⟨es1, clock1, D1, h1, h2, h3, _⟩ := h.ok _ (.head _)
  exact St.stepLook hgd m x hop KL ht he hz h2 hm key hx hkey c (h3.trans hc) hK
/-- The entry at k, at a step. -/
theorem St.stepEntry (hgd : o.guard = none) (m x : Operand) (hop : o.op = Op.mapEntry t m x) (KL : WideMaps.KeyLaw Tryd.prog k) (ht : Tryd.prog.underlying t = some (.map k e)) (he : Tryd.prog.underlying e = some (.int .i64)) (hz : ∀ u : World, (zeroValue e).run Tryd.prog u = .ok (.int .i64 0) u) (h : St w0 w (aMap k e b n D :: μ)) (hn : n < maxLen) (hm : a.eval m = .map (some b)) (key : Value) {kl : Lit} (hx : a.eval x = key) (hkey : keyOf Tryd.prog k key = some kl)
    (hK : ∀ v0 st w', St w0 w' (aEnt k e t b n D kl st :: μ) → K (a.put o.dst (.tuple #[v0, goInt (st : Nat)])) w') : if Region.wanted o (yielded ops a.tmps) = true then Oper.wp Tryd.prog o a w K Q else EE := by
  have hw : Region.wanted o (yielded ops a.tmps) = true := by simp [Region.wanted, hgd]
  rw [if_pos hw]
  have hown := h.mapOwn
  obtain ⟨v0, st, es1, clock1, D1, hrun, g1, g2, g3⟩ := entry_own hown KL ht he hz hn hkey
  obtain ⟨es, clock, hb, _⟩ := hown
  unfold Oper.wp
  simp only [execOp, hop, hm, hx, Sem.run_bind, hrun, Result.andThen_ok, Sem.run_pure]
  refine hK v0 st _ (h.upd rfl rfl rfl (by simp [setBlock]) (fun i hi hm => heap_setBlock_other hb _ (fun e => hm (by simp [aMap, e]))) ⟨es1, clock1, D1, heap_setBlock_same hb _, g1, g2, g3⟩ (fun i hi => .inl hi) (by simp [aEnt]))
/-- It is written, at a step. -/
theorem St.stepEntryStore (hgd : o.guard = none) (m s v : Operand) (hop : o.op = Op.entryStore t m s v) {kl : Lit} {st : Nat} (h : St w0 w (aEnt k e t b n D kl st :: μ)) (hm : a.eval m = .map (some b)) (hs : a.eval s = goInt (st : Nat)) (val : Value) (hv : a.eval v = val)
    (d : DataW Unit) (ps : List MemPlace) (hval : plainElem Tryd.prog e val = some (d, ps)) (hK : ∀ w', St w0 w' (aMap k e b (n + 1) (D.put kl d) :: μ) → K (a.put o.dst undef) w') : if Region.wanted o (yielded ops a.tmps) = true then Oper.wp Tryd.prog o a w K Q else EE := by
  have hw : Region.wanted o (yielded ops a.tmps) = true := by simp [Region.wanted, hgd]
  rw [if_pos hw]
  obtain ⟨es1, clock1, D1, h1, _, _, h4⟩ := h.ok _ (.head _)
  obtain ⟨w3, hrun, g1, g2⟩ := h4 w val d ps h1 hval
  unfold Oper.wp
  simp only [execOp, hop, hm, hs, hv, Sem.run_bind, hrun, Result.andThen_ok, Sem.run_pure]
  refine hK w3 (h.upd g2.os g2.tape g2.output g2.size (fun i hi hm => g2.block i hi (fun he => hm (by simp [aEnt]; exact (Option.some.inj he)))) g1 (fun i hi => .inl hi) (by simp [aMap]))
end
end Go.Proofs.YtfelikfppjlcmaaDoor

/-
  Small things that walks share. (A helper text; it claims nothing of the program.)
-/
namespace Go.Proofs.YtfelikfppjlcmaaDoor
set_option linter.unusedVariables false
set_option linter.unusedSimpArgs false
open Go.ChangeShapes Go.WideShapes Go.ChangeAt Go.RowKit

theorem St.toBack2 {w0 w : World} {μ ν : List Asrt} (h : St w0 w (ν ++ μ)) : St w0 w (μ ++ ν) := h.perm List.perm_append_comm
theorem Fc.callC2 {c : Nat} {fn : Func} (hf : Tryd.prog.funcs[c]? = some fn) (hn : (fn.name == "runtime.NumGoroutine") = false) (hb : fn.body.isNone = false) (args : Array Value) (W : World) : (callFunc c args).run Tryd.prog W = .ok (.enter c args) W := by
  have hn2 : ¬ fn.name = "runtime.NumGoroutine" := fun e => by rw [e] at hn; simp at hn
  have hb2 : ¬ fn.body = none := fun e => by rw [e] at hb; cases hb
  simp [callFunc, go_sem, hf, hn2, hb2]

namespace Cp
theorem zeroE (w : World) : (zeroValue 3).run Tryd.prog w = .ok (.int .i64 0) w := by kernel_rfl
theorem tsz : ∃ m, Tryd.prog.types.size = m + 1 := ⟨Tryd.prog.types.size - 1, by kernel_rfl⟩
theorem stepAlloc {P : Program} {w0 w : World} {μ : List Asrt} {ops : Array Oper} {o : Oper} {a : Act} {K : Act → World → Prop} {Q : Exit → Act → World → Prop} {EE : Prop} {T : TypeId} {cs : Array Value} (hgd : o.guard = none) (ha : o.op = Op.alloc T) (hr : ∀ u : World, (execOp a.eval o).run P u = .ok (.value (.pointer (some ⟨u.heap.size, 0, none⟩))) (u.alloc (.cells cs T)))
    (h : St w0 w μ) (hK : ∀ g w', St w0 w' (aCel g T cs :: μ) → K (a.put o.dst (.pointer (some ⟨g, 0, none⟩))) w') : if Region.wanted o (yielded ops a.tmps) = true then Oper.wp P o a w K Q else EE :=
  St.stepNew hgd hr h hK
theorem share0 {P A : World → Prop} {G : Prop} (h1 : (∀ W, A W → P W) → G) (h2 : ∀ W, A W → P W) : G := h1 h2
theorem shareE {P A : Value → Nat → World → Prop} {G : Prop} (h1 : (∀ v s W, A v s W → P v s W) → G) (h2 : ∀ v s W, A v s W → P v s W) : G := h1 h2
theorem share2 {P A : Nat → Nat → World → Prop} {G : Prop} (h1 : (∀ g s W, A g s W → P g s W) → G) (h2 : ∀ g s W, A g s W → P g s W) : G := h1 h2
end Cp
end Go.Proofs.YtfelikfppjlcmaaDoor

/-
  The map of what has been reckoned: from a node's number and a place to a class. (A helper text; it claims nothing of the program.)
-/
namespace Go.Proofs.YtfelikfppjlcmaaDoor
set_option linter.unusedVariables false
open Go.ChangeShapes Go.WideShapes Go.ChangeAt Go.RowKit Go.ChangeMaps

namespace Memo
abbrev Key := Nat × Nat
def keyV (c : Key) : Value := .agg #[.int .i64 c.1, .int .i64 c.2]
/-- How an element reads. -/
def clR : Value → Option (DataW Unit × List MemPlace)
  | .agg ⟨[.int .u64 a, .int .u64 b, .int .u64 c, .int .u64 d]⟩ => some (.agg [.lit (.int .u64 a), .lit (.int .u64 b), .lit (.int .u64 c), .lit (.int .u64 d)], [])
  | _ => none
def clD (ws : List Nat) : DataW Unit := .agg (ws.map fun n : Nat => .lit (.int .u64 n))
theorem clR_of {ws : List Nat} (h : Dm.Ok4 ws) : clR (Cs.clV ws) = some (clD ws, []) := by
  obtain ⟨a, b, c, d, rfl⟩ := Cs.okFour h
  rfl
theorem clR_inv {ws : List Nat} (hw : Dm.Ok4 ws) {v : Value} {ps : List MemPlace} (h : clR v = some (clD ws, ps)) : v = Cs.clV ws := by
  obtain ⟨a, b, c, d, rfl⟩ := Cs.okFour hw
  unfold clR at h
  split at h
  · simp only [Option.some.injEq, Prod.mk.injEq, clD, List.map_cons, List.map_nil, DataW.agg.injEq, List.cons.injEq, DataW.lit.injEq, Lit.int.injEq, true_and, and_true] at h
    obtain ⟨⟨rfl, rfl, rfl, rfl⟩, _⟩ := h
    rfl
  · cases h
theorem law : WideMaps.KeyLaw Tryd.prog 122 := deep_law (m := 2) (by omega) (by kernel_rfl) (by kernel_rfl) (by kernel_rfl)
theorem key (c : Key) (h1 : c.1 ≤ 1000) (h2 : c.2 ≤ 1000) : ∃ kl, keyOf Tryd.prog 122 (keyV c) = some kl := by
  have hk : Tryd.prog.keyType 122 = true := by kernel_rfl
  have hc : Tryd.prog.cellsOf 122 = 2 := by kernel_rfl
  have hci : Tryd.prog.cellsOf 3 = 1 := by kernel_rfl
  obtain ⟨m, hm⟩ : ∃ m, Tryd.prog.types.size = m + 1 := ⟨Tryd.prog.types.size - 1, by kernel_rfl⟩
  have hu := Tryd.underlying122
  have hi := Tryd.underlying3
  have w1 : (Lit.int .i64 (c.1 : Int)).wf = true := WalkArith.wf_i64 (by omega)
  have w2 : (Lit.int .i64 (c.2 : Int)).wf = true := WalkArith.wf_i64 (by omega)
  unfold keyOf keyV
  simp only [hu]
  rw [if_pos (by simp [hk, Value.formed, hu, hc]), hm]
  unfold Program.keyLits
  simp only [hu, Value.cells]
  rw [if_pos (by rw [hc]; exact ⟨rfl, by simp⟩)]
  simp [hci, Program.keyLits, hi, w1, w2]
theorem keyV_inj {a b : Key} (h : keyV a = keyV b) : a = b := by
  simp only [keyV, Value.agg.injEq, Array.mk.injEq, List.cons.injEq, Value.int.injEq, true_and, and_true, Int.natCast_inj] at h
  exact Prod.ext h.1 h.2
theorem zeroC (w : World) : (zeroValue 24).run Tryd.prog w = .ok (Cs.clV Dm.zero) w := by kernel_rfl
structure Ok (E : Nat → Nat → List Nat) (D : DataW Unit) (L : List Key) : Prop where
  tidy : Maps.Tidy D
  nodup : L.Nodup
  rng : ∀ c ∈ L, c.1 < 100 ∧ c.2 ≤ 200
  size : Maps.size D = L.length
  look : ∀ c kl, keyOf Tryd.prog 122 (keyV c) = some kl → Maps.has D kl = decide (c ∈ L) ∧ (c ∈ L → D.atKey kl (clD Dm.zero) = clD (E c.1 c.2))
theorem ok_nil (E : Nat → Nat → List Nat) : Ok E (.map [] : DataW Unit) [] := ⟨Maps.tidy_empty, List.nodup_nil, fun _ h => absurd h List.not_mem_nil, rfl, fun c kl _ => ⟨by simp [Maps.has], fun h => absurd h List.not_mem_nil⟩⟩
theorem Ok.len {E : Nat → Nat → List Nat} {D : DataW Unit} {L : List Key} (h : Ok E D L) : L.length ≤ 20100 := by
  have hs : ∀ x ∈ L, x ∈ (List.range 100).flatMap fun a => (List.range 201).map fun b => (a, b) := fun x hx => by
    obtain ⟨h1, h2⟩ := h.rng x hx
    exact List.mem_flatMap.2 ⟨x.1, List.mem_range.2 h1, List.mem_map.2 ⟨x.2, List.mem_range.2 (by omega), rfl⟩⟩
  have := List.Nodup.length_le_of_subset h.nodup hs
  have e : ((List.range 100).flatMap fun a => (List.range 201).map fun b => (a, b)).length = 20100 := by
    rw [List.length_flatMap]
    simp only [List.length_map, List.length_range]
    rfl
  omega
theorem Ok.put {E : Nat → Nat → List Nat} {D : DataW Unit} {L : List Key} (h : Ok E D L) {c : Key} {kl : Lit} (hc : keyOf Tryd.prog 122 (keyV c) = some kl) (h1 : c.1 < 100) (h2 : c.2 ≤ 200) : ∃ L', Ok E (D.put kl (clD (E c.1 c.2))) L' := by
  have K := Maps.Keyed.of_law law
  have hlk : ∀ c' kl', keyOf Tryd.prog 122 (keyV c') = some kl' → c' ≠ c → kl' ≠ kl := fun c' kl' hc' hne e => hne (keyV_inj (K.inj hc' (e ▸ hc)))
  by_cases hm : c ∈ L
  · refine ⟨L, h.tidy.put (K.key hc) _, h.nodup, h.rng, ?_, fun c' kl' hc' => ?_⟩
    · rw [Maps.size_put h.tidy, (h.look c kl hc).1, if_pos (by simpa using hm)]; exact h.size
    · by_cases he : c' = c
      · subst he
        rw [hc] at hc'; cases hc'
        exact ⟨by rw [Maps.has_put_same h.tidy.isMap (K.key hc)]; simpa using hm, fun _ => Maps.atKey_put_same h.tidy.isMap (K.key hc) _ _⟩
      · rw [Maps.has_put_other (hlk c' kl' hc' he), Maps.atKey_put_other (hlk c' kl' hc' he)]
        exact h.look c' kl' hc'
  · refine ⟨c :: L, h.tidy.put (K.key hc) _, List.nodup_cons.2 ⟨hm, h.nodup⟩, fun x hx => ?_, ?_, fun c' kl' hc' => ?_⟩
    · rcases List.mem_cons.1 hx with rfl | hx
      · exact ⟨h1, h2⟩
      · exact h.rng x hx
    · rw [Maps.size_put h.tidy, (h.look c kl hc).1, if_neg (by simpa using hm), h.size]; rfl
    · by_cases he : c' = c
      · subst he
        rw [hc] at hc'; cases hc'
        exact ⟨by rw [Maps.has_put_same h.tidy.isMap (K.key hc)]; simp, fun _ => Maps.atKey_put_same h.tidy.isMap (K.key hc) _ _⟩
      · rw [Maps.has_put_other (hlk c' kl' hc' he), Maps.atKey_put_other (hlk c' kl' hc' he)]
        obtain ⟨g1, g2⟩ := h.look c' kl' hc'
        refine ⟨by rw [g1]; simp [he], fun hx => g2 ?_⟩
        rcases List.mem_cons.1 hx with hx | hx
        · exact absurd hx he
        · exact hx
end Memo
theorem World.ownsMap.tight {P : Program} {w : World} {k : TypeId} {R : Value → Option (DataW Unit × List MemPlace)} {b n : Nat} {D : DataW Unit} (h : w.ownsMap P k R b n D) : w.ownsMap P k R b (Maps.size D) D := by
  obtain ⟨es, clock, h1, h2, h3, rfl⟩ := h
  refine ⟨es, clock, h1, h2, ?_, rfl⟩
  rw [Maps.size_eq, length_sorted]
  simp
/-- The memo: what is in it is right. -/
def aMemo (E : Nat → Nat → List Nat) (g : Nat) : Asrt where
  fp := [g]
  ok := fun w => ∃ D L, w.ownsMap Tryd.prog 122 Memo.clR g (Maps.size D) D ∧ Memo.Ok E D L
  loc := fun w w' hb h => by
    obtain ⟨D, L, ⟨es, clock, h1, h2⟩, h3⟩ := h
    exact ⟨D, L, ⟨es, clock, (hb g (by simp)).trans h1, h2⟩, h3⟩
section
variable {w0 w : World} {μ : List Asrt} {E : Nat → Nat → List Nat} {g : Nat} {t : TypeId} {ops : Array Oper} {o : Oper} {a : Act} {K : Act → World → Prop} {Q : Exit → Act → World → Prop} {EE : Prop}
theorem St.memoMake (h : St w0 w μ) (E : Nat → Nat → List Nat) : St w0 (w.alloc (.map #[] 0)) (aMemo E w.heap.size :: μ) :=
  h.push ((Below.refl _ _).alloc (Nat.le_refl _) _) ⟨_, [], World.ownsMap_made w Tryd.prog 122 _, Memo.ok_nil E⟩ (fun x hx => by simp [aMemo] at hx; subst hx; simp) (by simp [aMemo])
theorem St.stepMemo (hgd : o.guard = none) (m x : Operand) (hop : o.op = Op.lookup t m x true) (ht : Tryd.prog.underlying t = some (.map 122 24)) (h : St w0 w (aMemo E g :: μ)) (hE : ∀ i j, Dm.Ok4 (E i j)) (hm : a.eval m = .map (some g)) (c : Memo.Key) (hx : a.eval x = Memo.keyV c) {kl : Lit} (hkey : keyOf Tryd.prog 122 (Memo.keyV c) = some kl)
    (hK : ∀ hit : Bool, K (a.put o.dst (.tuple #[Cs.clV (if hit = true then E c.1 c.2 else Dm.zero), .bool hit])) w) : if Region.wanted o (yielded ops a.tmps) = true then Oper.wp Tryd.prog o a w K Q else EE := by
  have hw : Region.wanted o (yielded ops a.tmps) = true := by simp [Region.wanted, hgd]
  rw [if_pos hw]
  obtain ⟨D, L, hown, hok⟩ := h.ok _ (.head _)
  obtain ⟨v, ps, hl, hv⟩ := hown.look_ok (Maps.Keyed.of_law Memo.law) ht (Memo.zeroC w) (Memo.clR_of Dm.ok_zero) hkey
  obtain ⟨g1, g2⟩ := hok.look c kl hkey
  have hval : v = Cs.clV (if Maps.has D kl = true then E c.1 c.2 else Dm.zero) := by
    cases hh : Maps.has D kl
    · rw [if_neg (by decide)]
      rw [Maps.atKey_of_not_has hh] at hv
      exact Memo.clR_inv Dm.ok_zero hv
    · rw [if_pos rfl]
      rw [hh] at g1
      rw [g2 (by simpa using g1.symm)] at hv
      exact Memo.clR_inv (hE _ _) hv
  subst hval
  unfold Oper.wp
  simp [execOp, hop, hm, hx, hl, Result.andThen]
  exact hK (Maps.has D kl)
theorem St.stepMemoPut (hgd : o.guard = none) (m x v : Operand) (hop : o.op = Op.mapUpdate t m x v) (ht : Tryd.prog.underlying t = some (.map 122 24)) (h : St w0 w (aMemo E g :: μ)) (hE : ∀ i j, Dm.Ok4 (E i j)) (hm : a.eval m = .map (some g)) (c : Memo.Key) (h1 : c.1 < 100) (h2 : c.2 ≤ 200) (hx : a.eval x = Memo.keyV c) {kl : Lit} (hkey : keyOf Tryd.prog 122 (Memo.keyV c) = some kl) (hv : a.eval v = Cs.clV (E c.1 c.2))
    (hK : ∀ w', St w0 w' (aMemo E g :: μ) → K (a.put o.dst undef) w') : if Region.wanted o (yielded ops a.tmps) = true then Oper.wp Tryd.prog o a w K Q else EE := by
  have hw : Region.wanted o (yielded ops a.tmps) = true := by simp [Region.wanted, hgd]
  rw [if_pos hw]
  obtain ⟨D, L, hown, hok⟩ := h.ok _ (.head _)
  have hlen := hok.len
  obtain ⟨w', hrun, r1, r2⟩ := hown.update (Maps.Keyed.of_law Memo.law) ht (by rw [hok.size]; unfold maxLen; omega) hkey (Memo.clR_of (hE c.1 c.2))
  obtain ⟨L', hok'⟩ := hok.put hkey h1 h2
  unfold Oper.wp
  simp [execOp, hop, hm, hx, hv, hrun, Result.andThen]
  refine hK w' (h.upd r2.os r2.tape r2.output r2.size (fun i hi hm => r2.block i hi fun he => hm (by simp [aMemo]; exact Option.some.inj he)) ⟨_, L', World.ownsMap.tight r1, hok'⟩ (fun i hi => .inl hi) (by simp [aMemo]))
end
end Go.Proofs.YtfelikfppjlcmaaDoor

/-
  An array of numbers is equal to itself.
-/
namespace Go.Proofs.YtfelikfppjlcmaaDoor
open Go.ChangeShapes Go.WideShapes Go.ChangeAt Go.RowKit

theorem run_equalIn_arr {P : Program} {t e : TypeId} {n : Nat} {k : IntKind} (ht : P.underlying t = some (.array n e)) (he : P.underlying e = some (.int k)) (hs : (P.info? e).map (·.size) = some 1)
    (xs : List Int) (hl : xs.length = n) (d : Nat) (w : World) : (Op.equalIn (d + 2) t (.agg (xs.map (Value.int k)).toArray) (.agg (xs.map (Value.int k)).toArray)).run P w = .ok true w := by
  cases hq : P.info? e with
  | none => simp [hq] at hs
  | some inf =>
    have hs1 : inf.size = 1 := by simpa [hq] using hs
    have hpart : ∀ i, i < n → (part e (xs.map (Value.int k)).toArray (i * 1)).run P w = .ok (.int k (xs.getD i 0)) w := by
      intro i hi
      have hil : i < xs.length := by omega
      simp [part, isAgg, run_underlying he, hil]
    have hloop : ∀ (l : List Nat), (∀ i ∈ l, i < n) → (forIn l ((none : Option Bool), ()) (fun i (_ : Option Bool × Unit) => (do
        let a ← part e (xs.map (Value.int k)).toArray (i * 1)
        let b ← part e (xs.map (Value.int k)).toArray (i * 1)
        let c ← Op.equalIn (d + 1) e a b
        if (!c) = true then pure (ForInStep.done (some false, ())) else pure (ForInStep.yield (none, ())) : Sem (ForInStep (Option Bool × Unit))))).run P w = .ok (none, ()) w := by
      intro l
      induction l with
      | nil => intro _; simp
      | cons i l ih =>
        intro h
        have h1 := hpart i (h i (List.mem_cons_self ..))
        simp only [List.forIn_cons, Sem.run_bind, h1, Result.andThen_ok, run_equalIn_int w d e k k _ _ he, beq_self_eq_true, Bool.not_true, Bool.false_eq_true, if_false, Sem.run_pure]
        exact ih fun q hq => h q (List.mem_cons_of_mem _ hq)
    rw [Op.equalIn]
    simp only [Sem.run_bind, run_underlying ht, Result.andThen_ok, sizeOf, typeInfo, run_program, hq, Sem.run_pure, hs1]
    rw [Std.Legacy.Range.forIn_eq_forIn_range', hloop _ (by intro i hi; simp at hi; exact hi)]
    simp

theorem run_neq_arr {P : Program} {t e : TypeId} {n : Nat} {k : IntKind} (ht : P.underlying t = some (.array n e)) (he : P.underlying e = some (.int k)) (hs : (P.info? e).map (·.size) = some 1)
    (xs : List Int) (hl : xs.length = n) (w : World) : (binOp .neq t (.agg (xs.map (Value.int k)).toArray) (.agg (xs.map (Value.int k)).toArray)).run P w = .ok (.bool false) w := by
  rw [run_neq_struct, run_equalIn_arr ht he hs xs hl 9998 w]
  rfl
theorem run_eql_arr {P : Program} {t e : TypeId} {n : Nat} {k : IntKind} (ht : P.underlying t = some (.array n e)) (he : P.underlying e = some (.int k)) (hs : (P.info? e).map (·.size) = some 1)
    (xs : List Int) (hl : xs.length = n) (w : World) : (binOp .eql t (.agg (xs.map (Value.int k)).toArray) (.agg (xs.map (Value.int k)).toArray)).run P w = .ok (.bool true) w := by
  rw [run_eql_struct, run_equalIn_arr ht he hs xs hl 9998 w]
  rfl

/-- A whole array (or struct) read in a region that only reads. -/
theorem wpQuiet_load_mid {P : Program} {w : World} {ops : Array Oper} {rest : List Oper} {o : Oper} {a : Act} {Q : Act → Prop} (ty : TypeId) (x : Operand) (ho : o.op = .load ty x) (hw : Region.wanted o (yielded ops a.tmps) = true)
    (b off : Nat) (hx : a.eval x = .pointer (some ⟨b, off, none⟩)) (cs : List Value) (d : TypeDesc) (hc : w.rangeAt b off cs) (hu : P.underlying ty = some d) (hd : d.isRow = true) (hi : (P.info? ty).map (·.size) = some cs.length)
    (h : wpQuiet P ops (fun w' => ∃ n, w' = w.drewN n) Q rest (a.put o.dst (.agg cs.toArray))) : wpQuiet P ops (fun w' => ∃ n, w' = w.drewN n) Q (o :: rest) a := by
  unfold wpQuiet
  rw [if_pos hw]
  refine ⟨_, ?_, h⟩
  rintro _ ⟨n, rfl⟩
  unfold Oper.quietAt execOp
  simp only [ho, hx, Instr.loadAt, Instr.sureAddr, Sem.run_bind, Sem.run_pure, Result.andThen_ok, run_loadVar_mid (w.drewN n) b off ty cs d hc hu hd hi]
  exact ⟨rfl, rfl⟩
end Go.Proofs.YtfelikfppjlcmaaDoor

/-
  Two arrays of numbers compared. (A helper text; it claims nothing of the program.)
-/
namespace Go.Proofs.YtfelikfppjlcmaaDoor
open Go.ChangeShapes Go.WideShapes Go.ChangeAt Go.RowKit

theorem run_equalIn_arr2 {P : Program} {t e : TypeId} {n : Nat} {k : IntKind} (ht : P.underlying t = some (.array n e)) (he : P.underlying e = some (.int k)) (hs : (P.info? e).map (·.size) = some 1)
    (xs ys : List Int) (hl : xs.length = n) (hl2 : ys.length = n) (d : Nat) (w : World) : (Op.equalIn (d + 2) t (.agg (xs.map (Value.int k)).toArray) (.agg (ys.map (Value.int k)).toArray)).run P w = .ok (decide (xs = ys)) w := by
  cases hq : P.info? e with
  | none => simp [hq] at hs
  | some inf =>
    have hs1 : inf.size = 1 := by simpa [hq] using hs
    have hpart : ∀ (zs : List Int), zs.length = n → ∀ i, i < n → (part e (zs.map (Value.int k)).toArray (i * 1)).run P w = .ok (.int k (zs.getD i 0)) w := by
      intro zs hz i hi
      have hil : i < zs.length := by omega
      simp [part, isAgg, run_underlying he, hil]
    have hloop : ∀ (l : List Nat), (∀ i ∈ l, i < n) → ∃ r : Option Bool, (forIn l ((none : Option Bool), ()) (fun i (_ : Option Bool × Unit) => (do
        let a ← part e (xs.map (Value.int k)).toArray (i * 1)
        let b ← part e (ys.map (Value.int k)).toArray (i * 1)
        let c ← Op.equalIn (d + 1) e a b
        if (!c) = true then pure (ForInStep.done (some false, ())) else pure (ForInStep.yield (none, ())) : Sem (ForInStep (Option Bool × Unit))))).run P w = .ok (r, ()) w ∧ ((r = none ∧ ∀ i ∈ l, xs.getD i 0 = ys.getD i 0) ∨ (r = some false ∧ ∃ i ∈ l, xs.getD i 0 ≠ ys.getD i 0)) := by
      intro l
      induction l with
      | nil => intro _; exact ⟨none, by simp, .inl ⟨rfl, fun i hi => by cases hi⟩⟩
      | cons i l ih =>
        intro h
        have h1 := hpart xs hl i (h i (List.mem_cons_self ..))
        have h2 := hpart ys hl2 i (h i (List.mem_cons_self ..))
        simp only [List.forIn_cons, Sem.run_bind, h1, h2, Result.andThen_ok, run_equalIn_int w d e k k _ _ he]
        by_cases hxy : xs.getD i 0 = ys.getD i 0
        · obtain ⟨r, hr, hh⟩ := ih fun q hq => h q (List.mem_cons_of_mem _ hq)
          refine ⟨r, ?_, ?_⟩
          · simp only [hxy, beq_self_eq_true, Bool.not_true, Bool.false_eq_true, if_false, Sem.run_pure, Result.andThen_ok]
            exact hr
          · rcases hh with ⟨e1, e2⟩ | ⟨e1, j, hj, e2⟩
            · refine .inl ⟨e1, fun j hj => ?_⟩
              rcases List.mem_cons.1 hj with rfl | hj
              · exact hxy
              · exact e2 j hj
            · exact .inr ⟨e1, j, List.mem_cons_of_mem _ hj, e2⟩
        · refine ⟨some false, ?_, .inr ⟨rfl, i, List.mem_cons_self .., hxy⟩⟩
          have hb : (xs.getD i 0 == ys.getD i 0) = false := by rw [beq_eq_false_iff_ne]; exact hxy
          simp only [hb, Bool.not_false, if_true, Sem.run_pure, Result.andThen_ok]
    rw [Op.equalIn]
    simp only [Sem.run_bind, run_underlying ht, Result.andThen_ok, sizeOf, typeInfo, run_program, hq, Sem.run_pure, hs1]
    obtain ⟨r, hr, hh⟩ := hloop (List.range' 0 n 1) (by intro i hi; simp at hi; exact hi)
    rw [Std.Legacy.Range.forIn_eq_forIn_range']
    simp only [Std.Legacy.Range.size, Nat.sub_zero, Nat.add_sub_cancel, Nat.div_one]
    rw [hr]
    rcases hh with ⟨rfl, h2⟩ | ⟨rfl, j, hj, h2⟩
    · have : xs = ys := by
        apply List.ext_getElem (by omega)
        intro i h3 h4
        have := h2 i (by simp; omega)
        simpa [List.getD, h3, h4] using this
      simp [this]
    · have : xs ≠ ys := fun h => h2 (by rw [h])
      simp [this]
theorem run_neq_arr2 {P : Program} {t e : TypeId} {n : Nat} {k : IntKind} (ht : P.underlying t = some (.array n e)) (he : P.underlying e = some (.int k)) (hs : (P.info? e).map (·.size) = some 1)
    (xs ys : List Int) (hl : xs.length = n) (hl2 : ys.length = n) (w : World) : (binOp .neq t (.agg (xs.map (Value.int k)).toArray) (.agg (ys.map (Value.int k)).toArray)).run P w = .ok (.bool (!decide (xs = ys))) w := by
  rw [run_neq_struct, run_equalIn_arr2 ht he hs xs ys hl hl2 9998 w]
  rfl
theorem run_eql_arr2 {P : Program} {t e : TypeId} {n : Nat} {k : IntKind} (ht : P.underlying t = some (.array n e)) (he : P.underlying e = some (.int k)) (hs : (P.info? e).map (·.size) = some 1)
    (xs ys : List Int) (hl : xs.length = n) (hl2 : ys.length = n) (w : World) : (binOp .eql t (.agg (xs.map (Value.int k)).toArray) (.agg (ys.map (Value.int k)).toArray)).run P w = .ok (.bool (decide (xs = ys))) w := by
  rw [run_eql_struct, run_equalIn_arr2 ht he hs xs ys hl hl2 9998 w]
  rfl
end Go.Proofs.YtfelikfppjlcmaaDoor

/-
  Range, Join, Meet, Not of package class; Where of the reference.
-/
namespace Go.Proofs.YtfelikfppjlcmaaDoor
set_option linter.unusedVariables false
set_option linter.unusedSimpArgs false
open Go.ChangeShapes Go.WideShapes Go.ChangeAt Go.RowKit

set_option maxRecDepth 100000 in
set_option maxHeartbeats 1600000 in
theorem clRange_any (lo hi : Int) (h1 : -9223372036854775808 ≤ lo) (h2 : lo ≤ 9223372036854775807) (h3 : -9223372036854775808 ≤ hi) (h4 : hi ≤ 9223372036854775807) (w : World) :
    Calls Tryd.prog 58 #[.int .i64 lo, .int .i64 hi] w fun e w' => e = .returned (Cs.clV (Cs.of fun x => decide (lo ≤ (x : Int) ∧ (x : Int) ≤ hi))) ∧ Below w.heap.size w w' := by
  have hst := ((St.init w).alloc (Cs.clA Dm.zero) 24).alloc (Cs.clA Dm.zero) 24
  simp only [World.size_alloc] at hst
  have HST := Lib.hid hst
  clear hst
  have hmx := fun (W : World) ts t => run_max_int2 (P := Tryd.prog) (w := W) ts t .i64 .i64 lo 0
  have hmn := fun (W : World) ts t => run_min_int2 (P := Tryd.prog) (w := W) ts t .i64 .i64 hi 255
  obtain ⟨m, hm, hm0, hm1, hm2⟩ : ∃ m, (if 0 > lo then 0 else lo) = m ∧ 0 ≤ m ∧ lo ≤ m ∧ m ≤ 9223372036854775807 ∧ (m = 0 ∨ m = lo) := by
    by_cases h : 0 > lo
    · exact ⟨0, by rw [if_pos h], by omega, by omega, by omega, .inl rfl⟩
    · exact ⟨lo, by rw [if_neg h], by omega, by omega, by omega, .inr rfl⟩
  obtain ⟨hm2, hm3⟩ := hm2
  obtain ⟨M, hM, hM0, hM1, hM2⟩ : ∃ M, (if 255 < hi then 255 else hi) = M ∧ M ≤ 255 ∧ M ≤ hi ∧ (M = 255 ∨ M = hi) := by
    by_cases h : 255 < hi
    · exact ⟨255, by rw [if_pos h], by omega, by omega, .inl rfl⟩
    · exact ⟨hi, by rw [if_neg h], by omega, by omega, .inr rfl⟩
  rw [hm] at hmx
  rw [hM] at hmn
  have HM3 := Lib.hid hm3; have HM2 := Lib.hid hM2
  clear hm hM hm3 hM2
  obtain ⟨Z, hZ⟩ : ∃ Z, (Cs.of fun x => decide (lo ≤ (x : Int) ∧ (x : Int) ≤ hi)) = Z := ⟨_, rfl⟩
  rw [hZ]
  have HZ := Lib.hid hZ
  clear hZ
  go_enter Tryd.func58, Tryd.ntmps58
  go_wp2_with (fail)
  go_loopg [6] (256 - m.toNat) (fun gz v6 wr => ∃ b : Nat, (b : Int) ≤ 9223372036854775807 ∧ gz = 256 - b ∧ m ≤ b ∧ v6 = .int .i64 b ∧ St w wr [aCel (w.heap.size + 1) 24 (Cs.clA (Cs.of fun x => decide (lo ≤ (x : Int) ∧ (x : Int) ≤ hi ∧ x < b))), aCel w.heap.size 24 (Cs.clA Dm.zero)])
  case atStart =>
    refine ⟨m.toNat, by omega, rfl, by omega, by rw [Int.toNat_of_nonneg hm0], ?_⟩
    rw [show (Cs.of fun x => decide (lo ≤ (x : Int) ∧ (x : Int) ≤ hi ∧ x < m.toNat)) = Dm.zero from by
      rw [← Cs.of_false]
      refine Cs.of_congr fun x hx => decide_eq_false ?_
      have := HM3.out
      omega]
    exact HST.out
  case round =>
    clear HST
    obtain ⟨b, hbb, hgz, hmb, rfl, hst⟩ := hrel
    have HGZ := Lib.hid hgz
    clear hgz
    by_cases hle : (b : Int) ≤ M
    · have hb : b < 256 := by omega
      have HP := Lib.hid (Cs.of_put (p := fun x => decide (lo ≤ (x : Int) ∧ (x : Int) ≤ hi ∧ x < b)) (q := fun x => decide (lo ≤ (x : Int) ∧ (x : Int) ≤ hi ∧ x < b + 1)) hb (fun x hx => by
        rw [Bool.eq_iff_iff, Bool.or_eq_true, decide_eq_true_iff, decide_eq_true_iff, decide_eq_true_iff]
        omega))
      have h4 := Cs.ok_of (fun x => decide (lo ≤ (x : Int) ∧ (x : Int) ≤ hi ∧ x < b))
      unfold Dm.put at HP
      generalize (Cs.of fun x => decide (lo ≤ (x : Int) ∧ (x : Int) ≤ hi ∧ x < b)) = ws at *
      have hlt := h4.lt (b / 64)
      have hget := Cs.clA_get (ws := ws) (j := b / 64) (by rw [h4.len]; omega)
      have hst2 := hst.drew.setCel (b / 64) (Cs.wV (ws.getD (b / 64) 0 ||| 2 ^ (b % 64)))
      rw [Cs.clA_set, HP.out] at hst2
      unfold Cs.wV at hget hst2
      have c0 := hst.drew.celAt hget
      have f0 := hst.drew.celFree (b / 64)
      have HST2 := Lib.hid hst2
      have hpow : 2 ^ (b % 64) < 18446744073709551616 := Nat.pow_lt_pow_right (a := 2) (m := b % 64) (n := 64) (by decide) (by omega)
      have hor : bits .or .u64 ((ws.getD (b / 64) 0 : Nat) : Int) ((2 ^ (b % 64) : Nat) : Int) = ((ws.getD (b / 64) 0 ||| 2 ^ (b % 64) : Nat) : Int) := bits_or_u64_nat _ _ hlt hpow
      have hsh : IntKind.u64.wrap ((2 : Int) ^ (b % 64)) = ((2 ^ (b % 64) : Nat) : Int) := by
        have e : ((2 : Int) ^ (b % 64)) = ((2 ^ (b % 64) : Nat) : Int) := by simp
        rw [e, IntKind.wrap_u64]
        exact Int.emod_eq_of_lt (Int.natCast_nonneg _) (Int.ofNat_lt.2 hpow)
      have h63 := Cs.and63 b
      have hq : ((b % 64 : Nat) : Int) < 64 := by omega
      have hii : (b : Int) < 256 := by omega
      generalize ((2 ^ (b % 64) : Nat) : Int) = z at *
      generalize (ws.getD (b / 64) 0 ||| 2 ^ (b % 64)) = u at *
      generalize ws.getD (b / 64) 0 = y at *
      generalize b % 64 = q at *
      have hd0 : (0 : Int) ≤ (b : Int) / 64 := by omega
      have hd1 : (b : Int) / 64 < 4 := by omega
      have hdn : ((b : Int) / 64).toNat = b / 64 := by omega
      clear hlt h4 hst hget hst2 hpow HP
      go_wp2_with (fail)
      refine wp_region_held_drew (S := (fun w' => True)) (by kernel_rfl) ?_ (fun hHeld => ?_)
      · (try dsimp only); (first | done | exact trivial)

      refine wpAnyH_take (i := 0) (v := ?_) rfl (by kernel_rfl) (by kernel_rfl) (by kernel_rfl) (fun _ _ _ h => h) (Or.inl ⟨by rfl, ?_⟩) (by assumption) ?_
      rotate_left; focus (intro w hSw; (try dsimp only at hSw); go_simp; try (with_reducible rfl); done)
      try simp only [List.getElem_toArray, List.getElem_cons_zero, List.getElem_cons_succ, Act.put, List.setIfInBounds_toArray, List.set_cons_zero, List.set_cons_succ]
      refine wpAnyH_take (i := 1) (v := ?_) rfl (by kernel_rfl) (by kernel_rfl) (by kernel_rfl) (fun _ _ _ h => h) (Or.inl ⟨by rfl, ?_⟩) (by assumption) ?_
      rotate_left; focus (intro w hSw; (try dsimp only at hSw); go_simp; try (with_reducible rfl); done)
      try simp only [List.getElem_toArray, List.getElem_cons_zero, List.getElem_cons_succ, Act.put, List.setIfInBounds_toArray, List.set_cons_zero, List.set_cons_succ]
      refine wpAnyH_take (i := 2) (v := ?_) rfl (by kernel_rfl) (by kernel_rfl) (by kernel_rfl) (fun _ _ _ h => h) (Or.inl ⟨by rfl, ?_⟩) (by assumption) ?_
      rotate_left; focus (intro w hSw; (try dsimp only at hSw); go_simp; try (with_reducible rfl); done)
      try simp only [List.getElem_toArray, List.getElem_cons_zero, List.getElem_cons_succ, Act.put, List.setIfInBounds_toArray, List.set_cons_zero, List.set_cons_succ]
      refine wpAnyH_take (i := 4) (v := ?_) rfl (by kernel_rfl) (by kernel_rfl) (by kernel_rfl) (fun _ _ _ h => h) (Or.inl ⟨by rfl, ?_⟩) (by assumption) ?_
      rotate_left; focus (intro w hSw; (try dsimp only at hSw); go_simp; try (with_reducible rfl); done)
      try simp only [List.getElem_toArray, List.getElem_cons_zero, List.getElem_cons_succ, Act.put, List.setIfInBounds_toArray, List.set_cons_zero, List.set_cons_succ]
      refine wpAnyH_take (i := 5) (v := ?_) rfl (by kernel_rfl) (by kernel_rfl) (by kernel_rfl) (fun _ _ _ h => h) (Or.inl ⟨by rfl, ?_⟩) (by assumption) ?_
      rotate_left; focus (intro w hSw; (try dsimp only at hSw); go_simp; try (with_reducible rfl); done)
      try simp only [List.getElem_toArray, List.getElem_cons_zero, List.getElem_cons_succ, Act.put, List.setIfInBounds_toArray, List.set_cons_zero, List.set_cons_succ]
      refine wpAnyH_take (i := 6) (v := ?_) rfl (by kernel_rfl) (by kernel_rfl) (by kernel_rfl) (fun _ _ _ h => h) (Or.inl ⟨by rfl, ?_⟩) (by assumption) ?_
      rotate_left; focus (intro w hSw; (try dsimp only at hSw); go_simp; try (with_reducible rfl); done)
      try simp only [List.getElem_toArray, List.getElem_cons_zero, List.getElem_cons_succ, Act.put, List.setIfInBounds_toArray, List.set_cons_zero, List.set_cons_succ]
      refine wpAnyH_ready (rs := [3]) (by kernel_rfl) (by simp) ?_
      refine AllReadyH.cons rfl (fun K hK => ?_) AllReadyH.nil
      go_simp
      refine hK.out _ _ ?_ (fun hHeld => ?_)
      · (try dsimp only); (first | done | exact trivial)
      clear hK K
      try simp only [List.getElem_toArray, List.getElem_cons_zero, List.getElem_cons_succ, Act.put, List.setIfInBounds_toArray, List.set_cons_zero, List.set_cons_succ]
      refine wpAnyH_take (i := 7) (v := ?_) rfl (by kernel_rfl) (by kernel_rfl) (by kernel_rfl) (fun _ _ _ h => h) (Or.inl ⟨by rfl, ?_⟩) (by assumption) ?_
      rotate_left; focus (intro w hSw; (try dsimp only at hSw); go_simp; try (with_reducible rfl); done)
      try simp only [List.getElem_toArray, List.getElem_cons_zero, List.getElem_cons_succ, Act.put, List.setIfInBounds_toArray, List.set_cons_zero, List.set_cons_succ]
      refine wpAnyH_take (i := 8) (v := ?_) rfl (by kernel_rfl) (by kernel_rfl) (by kernel_rfl) (fun _ _ _ h => h) (Or.inl ⟨by rfl, ?_⟩) (by assumption) ?_
      rotate_left; focus (intro w hSw; (try dsimp only at hSw); go_simp; try (with_reducible rfl); done)
      try simp only [List.getElem_toArray, List.getElem_cons_zero, List.getElem_cons_succ, Act.put, List.setIfInBounds_toArray, List.set_cons_zero, List.set_cons_succ]
      refine wpAnyH_ready (rs := [9]) (by kernel_rfl) (by simp) ?_
      refine AllReadyH.cons rfl (fun K hK => ?_) AllReadyH.nil
      go_simp
      refine hK.out _ _ ?_ (fun hHeld => ?_)
      · (try dsimp only); (first | done | exact trivial)
      clear hK K
      try simp only [List.getElem_toArray, List.getElem_cons_zero, List.getElem_cons_succ, Act.put, List.setIfInBounds_toArray, List.set_cons_zero, List.set_cons_succ]
      refine wpAnyH_done (by kernel_rfl) ?_ _
      go_wp2
      go_roundg (256 - (b + 1))
      case measure => have := HGZ.out; omega
      case rel => exact ⟨b + 1, by omega, rfl, by omega, by go_num, HST2.out⟩
    · have he : (Cs.of fun x => decide (lo ≤ (x : Int) ∧ (x : Int) ≤ hi ∧ x < b)) = Cs.of fun x => decide (lo ≤ (x : Int) ∧ (x : Int) ≤ hi) := by
        refine Cs.of_congr fun x hx => ?_
        rw [Bool.eq_iff_iff, decide_eq_true_iff, decide_eq_true_iff]
        have := HM2.out
        omega
      rw [he, HZ.out] at hst
      have hok := Cs.ok_of (fun x => decide (lo ≤ (x : Int) ∧ (x : Int) ≤ hi))
      rw [HZ.out] at hok
      have HST := Lib.hid (hst.pick (ρ := [aCel w.heap.size 24 (Cs.clA Dm.zero), aCel (w.heap.size + 1) 24 (Cs.clA Z)]) [1, 0] 2 rfl rfl)
      have HS4 := Lib.hid (Cs.clA_size hok)
      clear hst hok he
      go_wp2_with (first | (refine St.rowIn rfl 24 (.tmp 5) rfl (w.heap.size + 1) rfl _ HST.out 1 rfl Tryd.underlying24 rfl (by rw [HS4.out]; exact Cs.clInfo) ?_) | (refine St.rowOp rfl 24 (.tmp 4) (.tmp 24) rfl w.heap.size (Cs.clA Z) rfl rfl HST.out (by rw [HS4.out]; exact Cs.clInfo) (by rw [HS4.out]; rfl) (Cs.clA_one Z) ?_; intro w9 hst9; have HST9 := Lib.hid hst9; clear hst9 HST))
      refine bodyPost_ret (results_row rfl _ _ w.heap.size 24 _ _ rfl (HST9.out.heapAt 0 rfl) Tryd.underlying24 rfl (by rw [HS4.out]; exact Cs.clInfo)) rfl ?_
      exact ⟨rfl, HST9.out.bel⟩
set_option maxRecDepth 100000 in
set_option maxHeartbeats 1600000 in
theorem clJoin_any (a b : List Nat) (ha : Dm.Ok4 a) (hb : Dm.Ok4 b) (w : World) :
    Calls Tryd.prog 59 #[Cs.clV a, Cs.clV b] w fun e w' => e = .returned (Cs.clV (Cs.zip (· ||| ·) a b)) ∧ Below w.heap.size w w' := by
  have hst := (((St.init w).alloc (Cs.clA a) 24).alloc (Cs.clA b) 24).alloc (Cs.clA Dm.zero) 24
  simp only [World.size_alloc] at hst
  have HST := Lib.hid hst
  clear hst
  have HA := Lib.hid ha; have HB := Lib.hid hb
  obtain ⟨Z, hZ⟩ : ∃ Z, Cs.zip (· ||| ·) a b = Z := ⟨_, rfl⟩
  rw [hZ]
  have HZL := Lib.hid (show Z.length = 4 by rw [← hZ]; exact Cs.zip_len ha.len hb.len)
  have HZG := Lib.hid (fun (j : Nat) (hj : j < 4) => show Z.getD j 0 = (a.getD j 0 ||| b.getD j 0) by rw [← hZ]; exact Cs.zip_get ha.len hb.len hj)
  clear ha hb hZ
  unfold Cs.clV
  go_enter Tryd.func59, Tryd.ntmps59
  go_wp2_with (fail)
  go_loopg [6] 4 (fun gz v6 wr => ∃ i : Nat, i ≤ 4 ∧ gz = 4 - i ∧ v6 = .int .i64 i ∧ St w wr [aCel (w.heap.size + 1 + 1) 24 (Cs.clA Dm.zero), aCel (w.heap.size + 1) 24 (Cs.clA b), aCel w.heap.size 24 (Cs.clA (Cs.upto a Z i))])
  case atStart => exact ⟨0, by omega, by omega, rfl, by rw [Cs.upto_zero]; exact HST.out⟩
  case round =>
    clear HST
    obtain ⟨i, hi, hgz, rfl, hst⟩ := hrel
    have HGZ := Lib.hid hgz
    clear hgz
    by_cases hlt : i < 4
    · have hltI : (i : Int) < 4 := by omega
      have hga := Cs.clA_get (ws := Cs.upto a Z i) (j := i) (by rw [Cs.upto_len HA.out.len HZL.out (by omega)]; omega)
      rw [Cs.upto_get HA.out.len HZL.out hlt] at hga
      have hgb := Cs.clA_get (ws := b) (j := i) (by rw [HB.out.len]; omega)
      have hst2 := (hst.drew.pick (ρ := [aCel w.heap.size 24 (Cs.clA (Cs.upto a Z i)), aCel (w.heap.size + 1 + 1) 24 (Cs.clA Dm.zero), aCel (w.heap.size + 1) 24 (Cs.clA b)]) [2, 0, 1] 3 rfl rfl).setCel i (Cs.wV (Z.getD i 0))
      rw [Cs.clA_set, Cs.upto_set HA.out.len HZL.out hlt] at hst2
      have c0 := (hst.drew.nth 2 rfl).celAt hga
      have f0 := (hst.drew.nth 2 rfl).celFree i
      have d0 := (hst.drew.nth 1 rfl).celAt hgb
      have hzg := HZG.out i hlt
      have hla := HA.out.lt i
      have hlb := HB.out.lt i
      have hor : bits .or .u64 ((a.getD i 0 : Nat) : Int) ((b.getD i 0 : Nat) : Int) = ((a.getD i 0 ||| b.getD i 0 : Nat) : Int) := bits_or_u64_nat _ _ hla hlb
      rw [← hzg] at hor
      unfold Cs.wV at c0 d0 hst2
      have HST2 := Lib.hid hst2
      generalize a.getD i 0 = x at *
      generalize b.getD i 0 = y at *
      generalize Z.getD i 0 = z at *
      clear hst hga hgb hst2 hzg hla hlb
      go_wp2_with (fail)
      refine wp_region_held_drew (S := (fun w' => w'.cell? ⟨w.heap.size + 1, i, none⟩ = some (.int .u64 y))) (by kernel_rfl) ?_ (fun hHeld => ?_)
      · (try dsimp only); (first | exact d0 | exact d0b)

      refine wpAnyH_take (i := 0) (v := ?_) rfl (by kernel_rfl) (by kernel_rfl) (by kernel_rfl) (fun _ _ _ h => h) (Or.inl ⟨by rfl, ?_⟩) (by assumption) ?_
      rotate_left; focus (intro w hSw; (try dsimp only at hSw); go_simp; try (with_reducible rfl); done)
      try simp only [List.getElem_toArray, List.getElem_cons_zero, List.getElem_cons_succ, Act.put, List.setIfInBounds_toArray, List.set_cons_zero, List.set_cons_succ]
      refine wpAnyH_take (i := 1) (v := ?_) rfl (by kernel_rfl) (by kernel_rfl) (by kernel_rfl) (fun _ _ _ h => h) (Or.inl ⟨by rfl, ?_⟩) (by assumption) ?_
      rotate_left; focus (intro w hSw; (try dsimp only at hSw); go_simp; try (with_reducible rfl); done)
      try simp only [List.getElem_toArray, List.getElem_cons_zero, List.getElem_cons_succ, Act.put, List.setIfInBounds_toArray, List.set_cons_zero, List.set_cons_succ]
      refine wpAnyH_take (i := 3) (v := ?_) rfl (by kernel_rfl) (by kernel_rfl) (by kernel_rfl) (fun _ _ _ h => h) (Or.inl ⟨by rfl, ?_⟩) (by assumption) ?_
      rotate_left; focus (intro w hSw; (try dsimp only at hSw); go_simp; try (with_reducible rfl); done)
      try simp only [List.getElem_toArray, List.getElem_cons_zero, List.getElem_cons_succ, Act.put, List.setIfInBounds_toArray, List.set_cons_zero, List.set_cons_succ]
      refine wpAnyH_take (i := 4) (v := ?_) rfl (by kernel_rfl) (by kernel_rfl) (by kernel_rfl) (fun _ _ _ h => h) (Or.inl ⟨by rfl, ?_⟩) (by assumption) ?_
      rotate_left; focus (intro w hSw; (try dsimp only at hSw); go_simp; try (with_reducible rfl); done)
      try simp only [List.getElem_toArray, List.getElem_cons_zero, List.getElem_cons_succ, Act.put, List.setIfInBounds_toArray, List.set_cons_zero, List.set_cons_succ]
      refine wpAnyH_take (i := 5) (v := ?_) rfl (by kernel_rfl) (by kernel_rfl) (by kernel_rfl) (fun _ _ _ h => h) (Or.inl ⟨by rfl, ?_⟩) (by assumption) ?_
      rotate_left; focus (intro w hSw; (try dsimp only at hSw); go_simp; try (with_reducible rfl); done)
      try simp only [List.getElem_toArray, List.getElem_cons_zero, List.getElem_cons_succ, Act.put, List.setIfInBounds_toArray, List.set_cons_zero, List.set_cons_succ]
      refine wpAnyH_ready (rs := [2]) (by kernel_rfl) (by simp) ?_
      refine AllReadyH.cons rfl (fun K hK => ?_) AllReadyH.nil
      go_simp
      refine hK.out _ _ ?_ (fun hHeld => ?_)
      · (try dsimp only); (first | exact d0 | exact d0b)
      clear hK K
      try simp only [List.getElem_toArray, List.getElem_cons_zero, List.getElem_cons_succ, Act.put, List.setIfInBounds_toArray, List.set_cons_zero, List.set_cons_succ]
      refine wpAnyH_take (i := 6) (v := ?_) rfl (by kernel_rfl) (by kernel_rfl) (by kernel_rfl) (fun _ _ _ h => h) (Or.inl ⟨by rfl, ?_⟩) (by assumption) ?_
      rotate_left; focus (intro w hSw; (try dsimp only at hSw); go_simp; try (with_reducible rfl); done)
      try simp only [List.getElem_toArray, List.getElem_cons_zero, List.getElem_cons_succ, Act.put, List.setIfInBounds_toArray, List.set_cons_zero, List.set_cons_succ]
      refine wpAnyH_take (i := 7) (v := ?_) rfl (by kernel_rfl) (by kernel_rfl) (by kernel_rfl) (fun _ _ _ h => h) (Or.inl ⟨by rfl, ?_⟩) (by assumption) ?_
      rotate_left; focus (intro w hSw; (try dsimp only at hSw); go_simp; try (with_reducible rfl); done)
      try simp only [List.getElem_toArray, List.getElem_cons_zero, List.getElem_cons_succ, Act.put, List.setIfInBounds_toArray, List.set_cons_zero, List.set_cons_succ]
      refine wpAnyH_ready (rs := [8]) (by kernel_rfl) (by simp) ?_
      refine AllReadyH.cons rfl (fun K hK => ?_) AllReadyH.nil
      (go_simp; have d0b : (wr.drew.setCell ⟨w.heap.size, i, none⟩ (.int .u64 z)).cell? ⟨w.heap.size + 1, i, none⟩ = some (.int .u64 y) := (by rw [World.cell?_setCell_other _ _ _ _ (by simp)]; exact d0))
      refine hK.out _ _ ?_ (fun hHeld => ?_)
      · (try dsimp only); (first | exact d0 | exact d0b)
      clear hK K
      try simp only [List.getElem_toArray, List.getElem_cons_zero, List.getElem_cons_succ, Act.put, List.setIfInBounds_toArray, List.set_cons_zero, List.set_cons_succ]
      refine wpAnyH_done (by kernel_rfl) ?_ _
      go_wp2
      go_roundg (4 - (i + 1))
      case measure => have := HGZ.out; omega
      case rel => exact ⟨i + 1, by omega, rfl, by go_num, HST2.out.pick [1, 2, 0] 3 rfl rfl⟩
    · have hie : i = 4 := by omega
      rw [hie, Cs.upto_all HA.out.len HZL.out] at hst
      have hge : ¬ ((i : Int) < 4) := by omega
      have HST := Lib.hid (hst.pick (ρ := [aCel (w.heap.size + 1 + 1) 24 (Cs.clA Dm.zero), aCel w.heap.size 24 (Cs.clA Z)]) [0, 2] 3 rfl rfl)
      have HS4 := Lib.hid (show (Cs.clA Z).size = 4 by simp [Cs.clA, HZL.out])
      clear hst hie
      go_wp2_with (first | (refine St.rowIn rfl 24 (.tmp 2) rfl w.heap.size rfl _ HST.out 1 rfl Tryd.underlying24 rfl (by rw [HS4.out]; exact Cs.clInfo) ?_) | (refine St.rowOp rfl 24 (.tmp 4) (.tmp 18) rfl (w.heap.size + 1 + 1) (Cs.clA Z) rfl rfl HST.out (by rw [HS4.out]; exact Cs.clInfo) (by rw [HS4.out]; rfl) (Cs.clA_one Z) ?_; intro w9 hst9; have HST9 := Lib.hid hst9; clear hst9 HST))
      refine bodyPost_ret (results_row rfl _ _ (w.heap.size + 1 + 1) 24 _ _ rfl (HST9.out.heapAt 0 rfl) Tryd.underlying24 rfl (by rw [HS4.out]; exact Cs.clInfo)) rfl ?_
      exact ⟨rfl, HST9.out.bel⟩

set_option maxRecDepth 100000 in
set_option maxHeartbeats 1600000 in
theorem clMeet_any (a b : List Nat) (ha : Dm.Ok4 a) (hb : Dm.Ok4 b) (w : World) :
    Calls Tryd.prog 61 #[Cs.clV a, Cs.clV b] w fun e w' => e = .returned (Cs.clV (Cs.zip (· &&& ·) a b)) ∧ Below w.heap.size w w' := by
  have hst := (((St.init w).alloc (Cs.clA a) 24).alloc (Cs.clA b) 24).alloc (Cs.clA Dm.zero) 24
  simp only [World.size_alloc] at hst
  have HST := Lib.hid hst
  clear hst
  have HA := Lib.hid ha; have HB := Lib.hid hb
  obtain ⟨Z, hZ⟩ : ∃ Z, Cs.zip (· &&& ·) a b = Z := ⟨_, rfl⟩
  rw [hZ]
  have HZL := Lib.hid (show Z.length = 4 by rw [← hZ]; exact Cs.zip_len ha.len hb.len)
  have HZG := Lib.hid (fun (j : Nat) (hj : j < 4) => show Z.getD j 0 = (a.getD j 0 &&& b.getD j 0) by rw [← hZ]; exact Cs.zip_get ha.len hb.len hj)
  clear ha hb hZ
  unfold Cs.clV
  go_enter Tryd.func61, Tryd.ntmps61
  go_wp2_with (fail)
  go_loopg [6] 4 (fun gz v6 wr => ∃ i : Nat, i ≤ 4 ∧ gz = 4 - i ∧ v6 = .int .i64 i ∧ St w wr [aCel (w.heap.size + 1 + 1) 24 (Cs.clA Dm.zero), aCel (w.heap.size + 1) 24 (Cs.clA b), aCel w.heap.size 24 (Cs.clA (Cs.upto a Z i))])
  case atStart => exact ⟨0, by omega, by omega, rfl, by rw [Cs.upto_zero]; exact HST.out⟩
  case round =>
    clear HST
    obtain ⟨i, hi, hgz, rfl, hst⟩ := hrel
    have HGZ := Lib.hid hgz
    clear hgz
    by_cases hlt : i < 4
    · have hltI : (i : Int) < 4 := by omega
      have hga := Cs.clA_get (ws := Cs.upto a Z i) (j := i) (by rw [Cs.upto_len HA.out.len HZL.out (by omega)]; omega)
      rw [Cs.upto_get HA.out.len HZL.out hlt] at hga
      have hgb := Cs.clA_get (ws := b) (j := i) (by rw [HB.out.len]; omega)
      have hst2 := (hst.drew.pick (ρ := [aCel w.heap.size 24 (Cs.clA (Cs.upto a Z i)), aCel (w.heap.size + 1 + 1) 24 (Cs.clA Dm.zero), aCel (w.heap.size + 1) 24 (Cs.clA b)]) [2, 0, 1] 3 rfl rfl).setCel i (Cs.wV (Z.getD i 0))
      rw [Cs.clA_set, Cs.upto_set HA.out.len HZL.out hlt] at hst2
      have c0 := (hst.drew.nth 2 rfl).celAt hga
      have f0 := (hst.drew.nth 2 rfl).celFree i
      have d0 := (hst.drew.nth 1 rfl).celAt hgb
      have hzg := HZG.out i hlt
      have hla := HA.out.lt i
      have hlb := HB.out.lt i
      have hor : bits .and .u64 ((a.getD i 0 : Nat) : Int) ((b.getD i 0 : Nat) : Int) = ((a.getD i 0 &&& b.getD i 0 : Nat) : Int) := bits_and_u64_nat _ _ hla hlb
      rw [← hzg] at hor
      unfold Cs.wV at c0 d0 hst2
      have HST2 := Lib.hid hst2
      generalize a.getD i 0 = x at *
      generalize b.getD i 0 = y at *
      generalize Z.getD i 0 = z at *
      clear hst hga hgb hst2 hzg hla hlb
      go_wp2_with (fail)
      refine wp_region_held_drew (S := (fun w' => w'.cell? ⟨w.heap.size + 1, i, none⟩ = some (.int .u64 y))) (by kernel_rfl) ?_ (fun hHeld => ?_)
      · (try dsimp only); (first | exact d0 | exact d0b)

      refine wpAnyH_take (i := 0) (v := ?_) rfl (by kernel_rfl) (by kernel_rfl) (by kernel_rfl) (fun _ _ _ h => h) (Or.inl ⟨by rfl, ?_⟩) (by assumption) ?_
      rotate_left; focus (intro w hSw; (try dsimp only at hSw); go_simp; try (with_reducible rfl); done)
      try simp only [List.getElem_toArray, List.getElem_cons_zero, List.getElem_cons_succ, Act.put, List.setIfInBounds_toArray, List.set_cons_zero, List.set_cons_succ]
      refine wpAnyH_take (i := 1) (v := ?_) rfl (by kernel_rfl) (by kernel_rfl) (by kernel_rfl) (fun _ _ _ h => h) (Or.inl ⟨by rfl, ?_⟩) (by assumption) ?_
      rotate_left; focus (intro w hSw; (try dsimp only at hSw); go_simp; try (with_reducible rfl); done)
      try simp only [List.getElem_toArray, List.getElem_cons_zero, List.getElem_cons_succ, Act.put, List.setIfInBounds_toArray, List.set_cons_zero, List.set_cons_succ]
      refine wpAnyH_take (i := 3) (v := ?_) rfl (by kernel_rfl) (by kernel_rfl) (by kernel_rfl) (fun _ _ _ h => h) (Or.inl ⟨by rfl, ?_⟩) (by assumption) ?_
      rotate_left; focus (intro w hSw; (try dsimp only at hSw); go_simp; try (with_reducible rfl); done)
      try simp only [List.getElem_toArray, List.getElem_cons_zero, List.getElem_cons_succ, Act.put, List.setIfInBounds_toArray, List.set_cons_zero, List.set_cons_succ]
      refine wpAnyH_take (i := 4) (v := ?_) rfl (by kernel_rfl) (by kernel_rfl) (by kernel_rfl) (fun _ _ _ h => h) (Or.inl ⟨by rfl, ?_⟩) (by assumption) ?_
      rotate_left; focus (intro w hSw; (try dsimp only at hSw); go_simp; try (with_reducible rfl); done)
      try simp only [List.getElem_toArray, List.getElem_cons_zero, List.getElem_cons_succ, Act.put, List.setIfInBounds_toArray, List.set_cons_zero, List.set_cons_succ]
      refine wpAnyH_take (i := 5) (v := ?_) rfl (by kernel_rfl) (by kernel_rfl) (by kernel_rfl) (fun _ _ _ h => h) (Or.inl ⟨by rfl, ?_⟩) (by assumption) ?_
      rotate_left; focus (intro w hSw; (try dsimp only at hSw); go_simp; try (with_reducible rfl); done)
      try simp only [List.getElem_toArray, List.getElem_cons_zero, List.getElem_cons_succ, Act.put, List.setIfInBounds_toArray, List.set_cons_zero, List.set_cons_succ]
      refine wpAnyH_ready (rs := [2]) (by kernel_rfl) (by simp) ?_
      refine AllReadyH.cons rfl (fun K hK => ?_) AllReadyH.nil
      go_simp
      refine hK.out _ _ ?_ (fun hHeld => ?_)
      · (try dsimp only); (first | exact d0 | exact d0b)
      clear hK K
      try simp only [List.getElem_toArray, List.getElem_cons_zero, List.getElem_cons_succ, Act.put, List.setIfInBounds_toArray, List.set_cons_zero, List.set_cons_succ]
      refine wpAnyH_take (i := 6) (v := ?_) rfl (by kernel_rfl) (by kernel_rfl) (by kernel_rfl) (fun _ _ _ h => h) (Or.inl ⟨by rfl, ?_⟩) (by assumption) ?_
      rotate_left; focus (intro w hSw; (try dsimp only at hSw); go_simp; try (with_reducible rfl); done)
      try simp only [List.getElem_toArray, List.getElem_cons_zero, List.getElem_cons_succ, Act.put, List.setIfInBounds_toArray, List.set_cons_zero, List.set_cons_succ]
      refine wpAnyH_take (i := 7) (v := ?_) rfl (by kernel_rfl) (by kernel_rfl) (by kernel_rfl) (fun _ _ _ h => h) (Or.inl ⟨by rfl, ?_⟩) (by assumption) ?_
      rotate_left; focus (intro w hSw; (try dsimp only at hSw); go_simp; try (with_reducible rfl); done)
      try simp only [List.getElem_toArray, List.getElem_cons_zero, List.getElem_cons_succ, Act.put, List.setIfInBounds_toArray, List.set_cons_zero, List.set_cons_succ]
      refine wpAnyH_ready (rs := [8]) (by kernel_rfl) (by simp) ?_
      refine AllReadyH.cons rfl (fun K hK => ?_) AllReadyH.nil
      (go_simp; have d0b : (wr.drew.setCell ⟨w.heap.size, i, none⟩ (.int .u64 z)).cell? ⟨w.heap.size + 1, i, none⟩ = some (.int .u64 y) := (by rw [World.cell?_setCell_other _ _ _ _ (by simp)]; exact d0))
      refine hK.out _ _ ?_ (fun hHeld => ?_)
      · (try dsimp only); (first | exact d0 | exact d0b)
      clear hK K
      try simp only [List.getElem_toArray, List.getElem_cons_zero, List.getElem_cons_succ, Act.put, List.setIfInBounds_toArray, List.set_cons_zero, List.set_cons_succ]
      refine wpAnyH_done (by kernel_rfl) ?_ _
      go_wp2
      go_roundg (4 - (i + 1))
      case measure => have := HGZ.out; omega
      case rel => exact ⟨i + 1, by omega, rfl, by go_num, HST2.out.pick [1, 2, 0] 3 rfl rfl⟩
    · have hie : i = 4 := by omega
      rw [hie, Cs.upto_all HA.out.len HZL.out] at hst
      have hge : ¬ ((i : Int) < 4) := by omega
      have HST := Lib.hid (hst.pick (ρ := [aCel (w.heap.size + 1 + 1) 24 (Cs.clA Dm.zero), aCel w.heap.size 24 (Cs.clA Z)]) [0, 2] 3 rfl rfl)
      have HS4 := Lib.hid (show (Cs.clA Z).size = 4 by simp [Cs.clA, HZL.out])
      clear hst hie
      go_wp2_with (first | (refine St.rowIn rfl 24 (.tmp 2) rfl w.heap.size rfl _ HST.out 1 rfl Tryd.underlying24 rfl (by rw [HS4.out]; exact Cs.clInfo) ?_) | (refine St.rowOp rfl 24 (.tmp 4) (.tmp 18) rfl (w.heap.size + 1 + 1) (Cs.clA Z) rfl rfl HST.out (by rw [HS4.out]; exact Cs.clInfo) (by rw [HS4.out]; rfl) (Cs.clA_one Z) ?_; intro w9 hst9; have HST9 := Lib.hid hst9; clear hst9 HST))
      refine bodyPost_ret (results_row rfl _ _ (w.heap.size + 1 + 1) 24 _ _ rfl (HST9.out.heapAt 0 rfl) Tryd.underlying24 rfl (by rw [HS4.out]; exact Cs.clInfo)) rfl ?_
      exact ⟨rfl, HST9.out.bel⟩
end Go.Proofs.YtfelikfppjlcmaaDoor

/-
  Check of package rex, Rex of the reference: what is wrong with a regular expression.
-/
namespace Go.Proofs.YtfelikfppjlcmaaDoor
set_option linter.unusedVariables false
set_option linter.unusedSimpArgs false
open Go.ChangeShapes Go.WideShapes Go.ChangeAt Go.RowKit

namespace Rx
theorem eqz {a0 a1 a2 a3 : Nat} (W : World) : (Op.equalIn 10000 24 (.agg #[.int .u64 a0, .int .u64 a1, .int .u64 a2, .int .u64 a3]) (.agg #[.int .u64 0, .int .u64 0, .int .u64 0, .int .u64 0])).run Tryd.prog W = .ok (decide ([a0, a1, a2, a3] = Dm.zero)) W :=
  (run_equalIn_arr2 (P := Tryd.prog) (n := 4) (k := .u64) Tryd.underlying24 Tryd.underlying22 (by kernel_rfl) [(a0 : Int), a1, a2, a3] [0, 0, 0, 0] rfl rfl 9998 W).trans (by
    congr 1
    rw [decide_eq_decide]
    unfold Dm.zero
    simp)
theorem cel6 {w0 w : World} {μ : List Asrt} {g : Nat} {T : TypeId} {v0 v1 v2 v3 v4 v5 : Value} (h : St w0 w μ) (i : Nat) (hA : μ[i]? = some (aCel g T #[v0, v1, v2, v3, v4, v5])) :
    w.cell? ⟨g, 0, none⟩ = some v0 ∧ w.cell? ⟨g, 1, none⟩ = some v1 ∧ w.cell? ⟨g, 2, none⟩ = some v2 ∧ w.cell? ⟨g, 3, none⟩ = some v3 ∧ w.cell? ⟨g, 4, none⟩ = some v4 ∧ w.cell? ⟨g, 5, none⟩ = some v5 := by
  have h1 := h.nth i hA
  exact ⟨h1.celAt rfl, h1.celAt rfl, h1.celAt rfl, h1.celAt rfl, h1.celAt rfl, h1.celAt rfl⟩
end Rx

set_option maxRecDepth 100000 in
theorem kids_any (k : Int) (w : World) : Calls Tryd.prog 89 #[.int .i64 k] w fun e w' => e = .returned (.int .i64 (Rx.kidsOf k)) ∧ w' = w := by
  obtain ⟨R, hR⟩ : ∃ R, Rx.kidsOf k = R := ⟨_, rfl⟩
  have HR := Lib.hid hR
  rw [hR]
  clear hR
  have fin : ∀ r, Rx.kidsOf k = r → r = R := fun r h => by rw [← HR.out, h]
  have HF := Lib.hid fin
  clear fin
  by_cases h1 : k = 1
  · subst h1
    go_enter Tryd.func89, Tryd.ntmps89
    go_wp2
    go_ret
    exact ⟨by rw [← HF.out 0 rfl]; rfl, rfl⟩
  by_cases h2 : k = 2
  · subst h2
    go_enter Tryd.func89, Tryd.ntmps89
    go_wp2
    go_ret
    exact ⟨by rw [← HF.out 0 rfl]; rfl, rfl⟩
  by_cases h3 : k = 3
  · subst h3
    go_enter Tryd.func89, Tryd.ntmps89
    go_wp2
    go_ret
    exact ⟨by rw [← HF.out 0 rfl]; rfl, rfl⟩
  by_cases h6 : k = 6
  · subst h6
    go_enter Tryd.func89, Tryd.ntmps89
    go_wp2
    go_ret
    exact ⟨by rw [← HF.out 1 rfl]; rfl, rfl⟩
  by_cases h4 : k = 4
  · subst h4
    go_enter Tryd.func89, Tryd.ntmps89
    go_wp2
    go_ret
    exact ⟨by rw [← HF.out 2 rfl]; rfl, rfl⟩
  by_cases h5 : k = 5
  · subst h5
    go_enter Tryd.func89, Tryd.ntmps89
    go_wp2
    go_ret
    exact ⟨by rw [← HF.out 2 rfl]; rfl, rfl⟩
  have HV := Lib.hid (HF.out (-1) (by unfold Rx.kidsOf; rw [if_neg (by omega), if_neg (by omega), if_neg (by omega)]))
  have e1 : (k == 1) = false := by rw [beq_eq_false_iff_ne]; exact h1
  have e2 : (k == 2) = false := by rw [beq_eq_false_iff_ne]; exact h2
  have e3 : (k == 3) = false := by rw [beq_eq_false_iff_ne]; exact h3
  have e4 : (k == 4) = false := by rw [beq_eq_false_iff_ne]; exact h4
  have e5 : (k == 5) = false := by rw [beq_eq_false_iff_ne]; exact h5
  have e6 : (k == 6) = false := by rw [beq_eq_false_iff_ne]; exact h6
  clear h1 h2 h3 h4 h5 h6
  go_enter Tryd.func89, Tryd.ntmps89
  go_wp2
  go_ret
  exact ⟨by rw [← HV.out]; rfl, rfl⟩

set_option maxRecDepth 100000 in
set_option maxHeartbeats 8000000 in
theorem rxCheck_any (w0 : World) (F : Nat → Prop) :
    ∀ (n : Nat) (t : Rx) (cs : Array Value) (deep m : Int) (g : Nat) (μ : List Asrt) (w : World), (Rx.enc n).R F w0 cs.toList t → Rx.In m → 1 ≤ deep → deep ≤ 31 → St w0 w (aCel g 3 #[.int .i64 m] :: μ) →
      Calls Tryd.prog 57 #[.agg cs, .int .i64 deep, .pointer (some ⟨g, 0, none⟩)] w fun e w' => e = .returned (.int .i64 (Rx.chk n t deep m).1) ∧ St w0 w' (aCel g 3 #[.int .i64 (Rx.chk n t deep m).2] :: μ) := by
  intro n
  induction n with
  | zero => intro t cs deep m g μ w h; exact h.elim
  | succ n ih =>
    intro t cs deep m g μ w ht hin hd0 hd1 hst
    obtain ⟨n', hn, vk, hcs, ⟨hk0, hk1⟩, hok, hk⟩ := Rx.opened ht
    obtain rfl : n = n' := by omega
    obtain ⟨a0, a1, a2, a3, hws⟩ := Cs.okFour hok
    have hcs2 : cs = #[.int .i64 t.kind, .int .u64 a0, .int .u64 a1, .int .u64 a2, .int .u64 a3, vk] := by
      apply Array.toList_inj.1
      rw [hcs, Rx.cel, hws]; rfl
    subst hcs2
    obtain ⟨ak, bk, ok, ck, rfl, hkl, k3, k4⟩ := Rx.kidsAt hk
    obtain ⟨hi0, hi1⟩ := hin
    have hout := Rx.chk_out (f := n + 1) (t := t) (deep := deep) (n := m) ⟨hi0, hi1⟩
    obtain ⟨R, hR⟩ : ∃ R, Rx.chk (n + 1) t deep m = R := ⟨_, rfl⟩
    rw [hR] at hout ⊢
    rw [Rx.chk] at hR
    have hbad : Rx.bad t = ((Rx.kidsOf t.kind != (t.kids.length : Int)) || ((t.kind == 3) == decide ([a0, a1, a2, a3] = Dm.zero))) := by
      unfold Rx.bad
      rw [hws]
      congr 1
      · rw [Bool.eq_iff_iff]; simp
    rw [hbad] at hR
    have hs1 := ((hst.alloc #[.int .i64 t.kind, .int .u64 a0, .int .u64 a1, .int .u64 a2, .int .u64 a3, .slice ak t.kids.length ck] 27).get2).setCel 0 (.int .i64 (m + 1))
    have HS1 := Lib.hid (show St w0 _ (aCel g 3 #[.int .i64 (m + 1)] :: aCel w.heap.size 27 #[.int .i64 t.kind, .int .u64 a0, .int .u64 a1, .int .u64 a2, .int .u64 a3, .slice ak t.kids.length ck] :: μ) from hs1)
    have hbig := hst.alloc #[.int .i64 t.kind, .int .u64 a0, .int .u64 a1, .int .u64 a2, .int .u64 a3, .slice ak t.kids.length ck] 27
    have q0 := (hbig.nth 1 rfl).celAt (i := 0) rfl
    have q1 := (hbig.nth 1 rfl).celFree 0
    have HR := Lib.hid hR
    have HKI := Lib.hid (fun W => kids_any t.kind W)
    have K3 := Lib.hid k3; have K4 := Lib.hid k4; have IH := Lib.hid ih
    clear hs1 hbig hst hR k3 k4 ih hk ht hcs hok hws hbad hn
    generalize t.kind = kd at *
    generalize t.kids = ks at *
    by_cases h1 : 100 < m + 1
    · have he := HR.out
      rw [if_pos h1] at he
      subst he
      clear HR K3 K4 IH hkl
      go_enter Tryd.func57, Tryd.ntmps57
      go_wp2
      go_ret
      exact ⟨rfl, HS1.out.pick [0] 2 rfl rfl⟩
    by_cases h2 : 30 < deep
    · have he := HR.out
      rw [if_neg h1, if_pos h2] at he
      subst he
      clear HR K3 K4 IH hkl
      go_enter Tryd.func57, Tryd.ntmps57
      go_wp2
      go_ret
      exact ⟨rfl, HS1.out.pick [0] 2 rfl rfl⟩
    have hR2 := HR.out
    rw [if_neg h1, if_neg h2] at hR2
    clear HR
    have heq := fun W => Rx.eqz (a0 := a0) (a1 := a1) (a2 := a2) (a3 := a3) W
    generalize decide ([a0, a1, a2, a3] = Dm.zero) = bz at *
    generalize Rx.kidsOf kd = kk at *
    obtain ⟨b3, hb3⟩ : ∃ b, (kd == 3) = b := ⟨_, rfl⟩
    obtain ⟨bl, hbl⟩ : ∃ b, (kk != (ks.length : Int)) = b := ⟨_, rfl⟩
    rw [hb3, hbl] at hR2
    have HR := Lib.hid hR2
    clear hR2
    have HSN := Lib.hid fun n => HS1.out.drewN n
    go_enter Tryd.func57, Tryd.ntmps57
    go_wp2_with (fail)
    generalize hWW : World.setCell _ _ _ = W1 at *
    have HSN := Lib.hid fun n => HS1.out.drewN n
    obtain ⟨y0, y1, y2, y3, y4, y5⟩ := Rx.cel6 HS1.out 1 rfl
    go_quiet ((go_at_call 89; exact Calls.quiet_of_same (HKI.out _)))
    have HS := Lib.hid (HSN.out nq)
    clear HSN HS1 hWW q0 q1 y0 y1 y2 y3 y4 y5
    generalize World.drewN _ _ = W2 at *
    obtain ⟨y0, y1, y2, y3, y4, y5⟩ := Rx.cel6 HS.out 1 rfl
    have g0 := (HS.out.nth 0 rfl).celAt (i := 0) rfl
    cases bl
    · by_cases hbb : b3 = bz
      · subst hbb
        have he := HR.out
        rw [Bool.false_or, beq_self_eq_true, if_pos rfl] at he
        subst he
        have HSN := Lib.hid fun n => (HS.out.drewN n).pick [0] 2 rfl rfl
        go_wp2_with (fail)
        go_quiet (fail)
        have HS := Lib.hid (HSN.out nq)
        clear HSN
        go_wp2
        go_ret
        exact ⟨rfl, HS.out⟩
      · obtain rfl : bz = !b3 := by cases b3 <;> cases bz <;> simp_all
        have he := HR.out
        rw [Bool.false_or, show (b3 == !b3) = false by cases b3 <;> rfl, if_neg (by decide)] at he
        clear HR
        have HRL : Hid (Rx.chkK (fun k n' => Rx.chk n k (deep + 1) n') (ks.drop 0) (m + 1) = R) := Lib.hid he
        clear he
        have HSN := Lib.hid fun n => (HS.out.drewN n).pick [0, 1] 2 rfl rfl
        have hdw : IntKind.i64.wrap (deep + 1) = deep + 1 := IntWalk.i64_in _ (by omega)
        go_wp2_with (fail)
        go_quiet (fail)
        have HS := Lib.hid (HSN.out nq)
        clear HSN y0 y1 y2 y3 y4 y5 g0
        generalize World.drewN _ _ = W3 at *
        obtain ⟨y0, y1, y2, y3, y4, y5⟩ := Rx.cel6 HS.out 1 rfl
        go_wp2_with (fail)
        go_loopg [42] ks.length (fun gk v42 wr => ∃ (i : Nat) (m' : Int), i ≤ ks.length ∧ gk = ks.length - i ∧ v42 = .int .i64 i ∧ Rx.In m' ∧ Hid (Rx.chkK (fun k n' => Rx.chk n k (deep + 1) n') (ks.drop i) m' = R) ∧ St w0 wr (aCel g 3 #[.int .i64 m'] :: aCel w.heap.size 27 #[.int .i64 kd, .int .u64 a0, .int .u64 a1, .int .u64 a2, .int .u64 a3, .slice ak ks.length ck] :: μ))
        case atStart => exact ⟨0, m + 1, by omega, by omega, rfl, ⟨by omega, by omega⟩, HRL, HS.out⟩
        case round =>
          clear HS HRL y0 y1 y2 y3 y4 y5
          obtain ⟨i, m', hi, hgk, rfl, hin', HRL, hst⟩ := hrel
          have HGK := Lib.hid hgk
          have HIN := Lib.hid hin'
          clear hgk hin'
          by_cases hlt : i < ks.length
          · have hltI : (i : Int) < ks.length := by omega
            obtain ⟨rfl, -, -⟩ := K3.out (by omega)
            obtain ⟨b0, b1, b2, b3', ax, cx, -, e0, e1, e2, e3, e4, e5, hen⟩ := K4.out i hlt
            have he := HRL.out
            rw [Rx.chkK_at hlt] at he
            have hout2 := Rx.chk_out (f := n) (t := ks.getD i Rx.nil) (deep := deep + 1) (n := m') HIN.out
            have c0 := bkeep hst.bel e0; have c1 := bkeep hst.bel e1; have c2 := bkeep hst.bel e2; have c3 := bkeep hst.bel e3; have c4 := bkeep hst.bel e4; have c5 := bkeep hst.bel e5
            have HC := Lib.hid (fun W hW => IH.out (ks.getD i Rx.nil) #[.int .i64 (ks.getD i Rx.nil).kind, .int .u64 b0, .int .u64 b1, .int .u64 b2, .int .u64 b3', .slice ax (ks.getD i Rx.nil).kids.length cx] (deep + 1) m' g (aCel wr.heap.size 27 #[.int .i64 (ks.getD i Rx.nil).kind, .int .u64 b0, .int .u64 b1, .int .u64 b2, .int .u64 b3', .slice ax (ks.getD i Rx.nil).kids.length cx] :: aCel w.heap.size 27 #[.int .i64 kd, .int .u64 a0, .int .u64 a1, .int .u64 a2, .int .u64 a3, .slice (some ⟨bk, ok, none⟩) ks.length ck] :: μ) W hen HIN.out (by omega) (by omega) hW)
            have HST := Lib.hid (hst.alloc #[.int .i64 (ks.getD i Rx.nil).kind, .int .u64 b0, .int .u64 b1, .int .u64 b2, .int .u64 b3', .slice ax (ks.getD i Rx.nil).kids.length cx] 27).get2
            clear hst e0 e1 e2 e3 e4 e5 hen
            obtain ⟨Q, hQ⟩ : ∃ Q, Rx.chk n (ks.getD i Rx.nil) (deep + 1) m' = Q := ⟨_, rfl⟩
            rw [hQ] at HC he hout2
            have HE := Lib.hid he
            clear hQ he
            generalize (ks.getD i Rx.nil).kind = kd2 at *
            generalize (ks.getD i Rx.nil).kids.length = nx at *
            obtain ⟨e, m2⟩ := Q
            obtain ⟨o1, o2, o3, o4⟩ := hout2
            simp only at HC o1 o2 o3 o4
            go_wp2_with (fail)
            go_at_call 57
            refine (HC.out _ HST.out).mono ?_
            rintro ex w5 ⟨rfl, hst5⟩
            have HST5 := Lib.hid hst5
            clear hst5 HST HC c0 c1 c2 c3 c4 c5
            by_cases he0 : e = 0
            · subst he0
              have HRL := Lib.hid (show Rx.chkK (fun k n' => Rx.chk n k (deep + 1) n') (ks.drop (i + 1)) m2 = R by rw [← HE.out, if_pos rfl])
              have hm2 := o3 rfl
              go_wp2
              go_roundg (ks.length - (i + 1))
              case measure => have := HGK.out; omega
              case rel => exact ⟨i + 1, m2, by omega, rfl, by go_num, ⟨o1, hm2⟩, HRL, HST5.out.pick [0, 2] 3 rfl rfl⟩
            · have hne : (e != 0) = true := by simpa using he0
              have HRE := Lib.hid (show (e, m2) = R by rw [← HE.out, if_neg he0])
              go_wp2
              go_ret
              exact ⟨by rw [← HRE.out]; rfl, by rw [← HRE.out]; exact HST5.out.pick [0] 3 rfl rfl⟩
          · have hge : ¬ ((i : Int) < ks.length) := by omega
            have HRE := Lib.hid (show ((0 : Int), m') = R by rw [← HRL.out, Rx.chkK_end hlt])
            go_wp2
            go_ret
            exact ⟨by rw [← HRE.out]; rfl, by rw [← HRE.out]; exact hst.pick [0] 2 rfl rfl⟩
    · have he := HR.out
      rw [Bool.true_or, if_pos rfl] at he
      subst he
      go_wp2
      go_ret
      exact ⟨rfl, HS.out.pick [0] 2 rfl rfl⟩

set_option maxRecDepth 100000 in
theorem rexCheck_any (F : Nat → Prop) (n : Nat) (t : Rx) (cs : Array Value) (w : World) (ht : (Rx.enc n).R F w cs.toList t) :
    Calls Tryd.prog 23 #[.agg cs] w fun e w' => e = .returned (.int .i64 (Rx.err n t)) ∧ Below w.heap.size w w' := by
  obtain ⟨n', hn, vk, hcs, -, hok, hk⟩ := Rx.opened ht
  obtain ⟨a0, a1, a2, a3, hws⟩ := Cs.okFour hok
  have hcs2 : cs = #[.int .i64 t.kind, .int .u64 a0, .int .u64 a1, .int .u64 a2, .int .u64 a3, vk] := by
    apply Array.toList_inj.1
    rw [hcs, Rx.cel, hws]; rfl
  subst hcs2
  obtain ⟨ak, bk, ok, ck, rfl, -, -, -⟩ := Rx.kidsAt hk
  have hst := ((St.init w).alloc #[.int .i64 t.kind, .int .u64 a0, .int .u64 a1, .int .u64 a2, .int .u64 a3, .slice ak t.kids.length ck] 27).alloc #[.int .i64 0] 3
  simp only [World.size_alloc] at hst
  have HC := Lib.hid (rxCheck_any w F n t _ 1 0 (w.heap.size + 1) _ _ ht ⟨by decide, by decide⟩ (by decide) (by decide) hst)
  have HE := Lib.hid (show (Rx.chk n t 1 0).1 = Rx.err n t from rfl)
  generalize Rx.chk n t 1 0 = R at *
  clear hst ht hcs hok hws hk hn
  go_enter Tryd.func23, Tryd.ntmps23
  go_wp2_with (fail)
  go_at_call 57
  refine (HC.out).mono ?_
  rintro e w1 ⟨rfl, hst1⟩
  have HST := Lib.hid hst1
  clear hst1
  rw [HE.out]
  go_wp2
  go_ret
  exact ⟨rfl, HST.out.bel⟩
end Go.Proofs.YtfelikfppjlcmaaDoor

/-
  Numbered nodes in memory. (A helper text; it claims nothing of the program.)
-/
namespace Go.Proofs.YtfelikfppjlcmaaDoor
set_option linter.unusedVariables false
open Go.ChangeShapes Go.WideShapes Go.ChangeAt Go.RowKit

namespace Nm
/-- The kids of a node with their numbers, the first one's number being b. -/
def kidsB (f : Nat) : List Rx → Nat → List (Rx × Nat)
  | [], _ => []
  | k :: ks, b => (k, b) :: kidsB f ks (b + Rx.cnt f k)
def sumK (f : Nat) (ks : List Rx) : Nat := (ks.map (Rx.cnt f)).sum
theorem kidsB_len (f : Nat) : ∀ (ks : List Rx) (b : Nat), (kidsB f ks b).length = ks.length
  | [], _ => rfl
  | k :: ks, b => by rw [kidsB, List.length_cons, List.length_cons, kidsB_len f ks]
theorem kidsB_app (f : Nat) : ∀ (ks l : List Rx) (b : Nat), kidsB f (ks ++ l) b = kidsB f ks b ++ kidsB f l (b + sumK f ks)
  | [], l, b => by simp [kidsB, sumK]
  | k :: ks, l, b => by
    rw [List.cons_append, kidsB, kidsB, kidsB_app f ks, List.cons_append]
    congr 3
    simp [sumK]; omega
theorem kidsB_at (f : Nat) : ∀ (ks : List Rx) (b i : Nat), i < ks.length → (kidsB f ks b)[i]? = some (ks.getD i Rx.nil, b + sumK f (ks.take i))
  | [], b, i, h => absurd h (by simp)
  | k :: ks, b, 0, h => by simp [kidsB, sumK]
  | k :: ks, b, i + 1, h => by
    rw [kidsB, List.getElem?_cons_succ, kidsB_at f ks _ i (by simpa using h)]
    simp [sumK]; omega
theorem sumK_snoc (f : Nat) (ks : List Rx) (k : Rx) : sumK f (ks ++ [k]) = sumK f ks + Rx.cnt f k := by simp [sumK]
theorem sumK_le (f : Nat) (ks : List Rx) (i : Nat) : sumK f (ks.take i) ≤ sumK f ks := by
  have h : sumK f ks = sumK f (ks.take i) + sumK f (ks.drop i) := by
    unfold sumK
    conv => lhs; rw [← List.take_append_drop i ks]
    rw [List.map_append, List.sum_append]
  omega
theorem len_le (f : Nat) : ∀ ks : List Rx, ks.length ≤ sumK f ks
  | [] => Nat.zero_le _
  | k :: ks => by
    have h1 := Rx.cnt_pos f k
    have h2 := len_le f ks
    unfold sumK at h2 ⊢
    rw [List.length_cons, List.map_cons, List.sum_cons]; omega
theorem cnt_kids (f : Nat) (t : Rx) : Rx.cnt (f + 1) t = 1 + sumK f t.kids := rfl
def noEnc : Enc (Rx × Nat) := ⟨8, fun _ _ _ _ => False, fun h => h.elim, fun h _ _ => h⟩
def cel (t : Rx) (b : Nat) (vr vk : Value) : List Value := .int .i64 t.kind :: ((Rx.ws t).map Cs.wV ++ [vr, .int .i64 b, vk])
def encS (f : Nat) (E : Enc (Rx × Nat)) : Enc (Rx × Nat) where
  size := 8
  R := fun F w cs x => ∃ (a : Option Addr) (l c : Nat) (vk : Value), cs = cel x.1 x.2 (.slice a l c) vk ∧ Dm.Ok4 (Rx.ws x.1) ∧ (E.sl 96).R F w [vk] (kidsB f x.1.kids (x.2 + 1))
  len := fun ⟨a, l, c, vk, h, ho, _⟩ => by rw [h]; simp [cel, ho.len]
  mono := fun ⟨a, l, c, vk, h, ho, hk⟩ hF hb => ⟨a, l, c, vk, h, ho, Enc.mono _ hk hF hb⟩
/-- A numbered node. -/
def enc : Nat → Enc (Rx × Nat)
  | 0 => noEnc
  | f + 1 => encS f (enc f)
theorem enc_size : ∀ f, (enc f).size = 8
  | 0 => rfl
  | f + 1 => rfl
/-- A kid: the node and its number, the slice of what it was made of, the value of its kids, the blocks that these look into. -/
abbrev K4 := (Rx × Nat) × Value × Value × List Nat
def kidV (q : K4) : Value := .agg (cel q.1.1 q.1.2 q.2.1 q.2.2.1).toArray
def kidsE : Nat → Enc (List (Rx × Nat))
  | 0 => ⟨1, fun _ _ _ _ => False, fun h => h.elim, fun h _ _ => h⟩
  | f + 1 => (enc f).sl 96
def kidA (f : Nat) (q : K4) : Asrt := aEnc (kidsE f) q.2.2.2 [q.2.2.1] (kidsB (f - 1) q.1.1.kids (q.1.2 + 1))
def KidOk (q : K4) : Prop := Dm.Ok4 (Rx.ws q.1.1) ∧ (∃ a l c, q.2.1 = .slice a l c) ∧ ∃ a l c, q.2.2.1 = .slice a l c
theorem kidOne {q : K4} (h : KidOk q) : ∀ c ∈ (kidV q).cells.toList, c.oneCell' = true := by
  obtain ⟨-, ⟨a, l, c, h1⟩, a', l', c', h2⟩ := h
  intro x hx
  simp only [kidV, Value.cells, cel, h1, h2, List.mem_cons, List.mem_append, List.mem_map, List.not_mem_nil, or_false] at hx
  rcases hx with rfl | ⟨y, _, rfl⟩ | rfl | rfl | rfl <;> rfl
theorem kidSize {q : K4} (h : KidOk q) : (kidV q).cells.size = 8 := by
  simp [kidV, Value.cells, cel, h.1.len]
theorem enc_of {f : Nat} {F : Nat → Prop} {w : World} {q : K4} (h : KidOk q) (hk : (kidsE f).R F w [q.2.2.1] (kidsB (f - 1) q.1.1.kids (q.1.2 + 1))) : (enc f).R F w (kidV q).cells.toList q.1 := by
  obtain ⟨h0, ⟨a, l, c, h1⟩, -⟩ := h
  cases f with
  | zero => exact hk.elim
  | succ f => exact ⟨a, l, c, q.2.2.1, by rw [← h1]; rfl, h0, hk⟩
theorem sealKids {f : Nat} {w0 w : World} {μ : List Asrt} {T : TypeId} {v : Value} {L : List K4} (h : St w0 w (aOwn T 8 v (L.map kidV) :: aAll (L.map (kidA f)) :: μ)) (hok : ∀ q ∈ L, KidOk q) (hl : L.length ≤ 1000) :
    ∃ fp, St w0 w (aEnc ((enc f).sl 96) fp [v] (L.map (·.1)) :: μ) := by
  refine h.sealed (En := enc f) (g := fun q : K4 => q.1) (enc_size f) (fun q hq ha => enc_of (hok q hq) ha) (by omega)
/-- Its parts, opened. -/
theorem opened {f : Nat} {F : Nat → Prop} {w : World} {cs : List Value} {t : Rx} {b : Nat} (h : (enc f).R F w cs (t, b)) : ∃ f', f = f' + 1 ∧ ∃ (a : Option Addr) (l c : Nat) (vk : Value), cs = cel t b (.slice a l c) vk ∧ Dm.Ok4 (Rx.ws t) ∧ ((enc f').sl 96).R F w [vk] (kidsB f' t.kids (b + 1)) := by
  cases f with
  | zero => exact h.elim
  | succ f => exact ⟨f, rfl, h⟩
theorem kidsAt {f f2 : Nat} {F : Nat → Prop} {w : World} {v : Value} {ks : List Rx} {b0 : Nat} (h : ((enc f).sl 96).R F w [v] (kidsB f2 ks b0)) :
    ∃ (ao : Option Addr) (b off cap : Nat), v = .slice ao ks.length cap ∧ (0 < ks.length → ao = some ⟨b, off, none⟩ ∧ b < w.heap.size ∧ F b) ∧
      ∀ i, i < ks.length → ∃ (a0 a1 a2 a3 : Nat) (a1' : Option Addr) (l1 c1 : Nat) (a2' : Option Addr) (l2 c2 : Nat), Rx.ws (ks.getD i Rx.nil) = [a0, a1, a2, a3] ∧ w.cell? ⟨b, off + i * 8, none⟩ = some (.int .i64 (ks.getD i Rx.nil).kind) ∧ w.cell? ⟨b, off + i * 8 + 1, none⟩ = some (.int .u64 a0) ∧ w.cell? ⟨b, off + i * 8 + 2, none⟩ = some (.int .u64 a1) ∧ w.cell? ⟨b, off + i * 8 + 3, none⟩ = some (.int .u64 a2) ∧ w.cell? ⟨b, off + i * 8 + 4, none⟩ = some (.int .u64 a3) ∧ w.cell? ⟨b, off + i * 8 + 5, none⟩ = some (.slice a1' l1 c1) ∧ w.cell? ⟨b, off + i * 8 + 6, none⟩ = some (.int .i64 ((b0 + sumK f2 (ks.take i) : Nat) : Int)) ∧ w.cell? ⟨b, off + i * 8 + 7, none⟩ = some (.slice a2' l2 c2) ∧
        (enc f).R F w [.int .i64 (ks.getD i Rx.nil).kind, .int .u64 a0, .int .u64 a1, .int .u64 a2, .int .u64 a3, .slice a1' l1 c1, .int .i64 ((b0 + sumK f2 (ks.take i) : Nat) : Int), .slice a2' l2 c2] (ks.getD i Rx.nil, b0 + sumK f2 (ks.take i)) := by
  obtain ⟨ao, b, off, cap, h0, h1, h2, h3⟩ := Enc.slN (Rx.nil, 0) h
  rw [kidsB_len] at h0 h1 h2 h3
  refine ⟨ao, b, off, cap, h0, h2, fun i hi => ?_⟩
  obtain ⟨cs, _, g2, g3⟩ := h3 i hi
  have e : (kidsB f2 ks b0).getD i (Rx.nil, 0) = (ks.getD i Rx.nil, b0 + sumK f2 (ks.take i)) := by
    rw [List.getD_eq_getElem?_getD, kidsB_at f2 ks b0 i hi]; rfl
  rw [e] at g3
  rw [enc_size] at g2
  obtain ⟨f', rfl, a1', l1, c1, vk, e1, q1, q2⟩ := opened g3
  obtain ⟨a0, a1, a2, a3, hw⟩ := Cs.okFour q1
  obtain ⟨ao', b', off', cap', u1, u2⟩ := q2
  simp only [List.cons.injEq, and_true] at u1
  subst u1
  have e2 : cs = [.int .i64 (ks.getD i Rx.nil).kind, .int .u64 a0, .int .u64 a1, .int .u64 a2, .int .u64 a3, .slice a1' l1 c1, .int .i64 ((b0 + sumK f2 (ks.take i) : Nat) : Int), .slice ao' (kidsB f' (ks.getD i Rx.nil).kids (b0 + sumK f2 (ks.take i) + 1)).length cap'] := by rw [e1, cel, hw]; rfl
  subst e2
  exact ⟨a0, a1, a2, a3, a1', l1, c1, _, _, _, hw, g2 0 (by decide), g2 1 (by decide), g2 2 (by decide), g2 3 (by decide), g2 4 (by decide), g2 5 (by decide), g2 6 (by decide), g2 7 (by decide), g3⟩
end Nm
end Go.Proofs.YtfelikfppjlcmaaDoor

/-
  append(s, l...) at a step of a region that draws its order. (A helper text; it claims nothing of the program.)
-/
namespace Go.Proofs.YtfelikfppjlcmaaDoor
set_option linter.unusedVariables false
open Go.ChangeShapes Go.WideShapes Go.ChangeAt Go.RowKit

/-- append(s, l...) at a step of a region that draws its order. -/
theorem St.stepSl {P : Program} {w0 w : World} {μ : List Asrt} {t e : TypeId} {size bytes b2 : Nat} (E : ET P t e size bytes) {ops : Array Oper} {o : Oper} {a : Act} {K : Act → World → Prop} {Q : Exit → Act → World → Prop} {EE : Prop}
    (hgd : o.guard = none) (s x : Operand) (ho : o.op = .call { callee := .builtin .append, args := #[s, x], argTypes := #[t, t] }) {v : Value} {xs : List Value} (hs : a.eval s = v)
    (h : St w0 w (aOwn e size v xs :: μ)) {α : Type} {En : Enc α} (hes : En.size = size) {F : Nat → Prop} {u : Value} {l : List α} (hl : (En.sl b2).R F w [u] l) (hx : a.eval x = u) (f : α → Value) (hf : ∀ w cs a, En.R F w cs a → cs = (f a).cells.toList) (h1 : ∀ a, ∀ q ∈ (f a).cells.toList, q.oneCell' = true)
    (hroom : ((xs.length + l.length : Nat) : Int) * bytes ≤ 140737488355328) (hlen : ((xs.length + l.length : Nat) : Int) ≤ 140737488355328)
    (hK : ∀ v' w', St w0 w' (aOwn e size v' (xs ++ l.map f) :: μ) → K (a.put o.dst v') w') : if Region.wanted o (yielded ops a.tmps) = true then Oper.wp P o a w K Q else EE := by
  have hw : Region.wanted o (yielded ops a.tmps) = true := by simp [Region.wanted, hgd]
  rw [if_pos hw]
  obtain ⟨ao, b, off, cap, hu, c1, c2, c3, c4, c5, c6⟩ := hl
  simp only [List.cons.injEq, and_true] at hu
  subst hu
  cases ao with
  | none =>
    have hl0 : l.length = 0 := by
      rcases Nat.eq_zero_or_pos l.length with h | h
      · exact h
      · have := (c5 h).1; cases this
    have hl1 := List.eq_nil_of_length_eq_zero hl0
    subst hl1
    have hc := c4 rfl
    subst hc
    obtain ⟨ht, ⟨i, z, hi, hz, hsize, hby, hzs⟩, hp⟩ := E
    have hrun := run_append_owned_none (P := P) (w := w) 0 t o.type e i size ht hi v xs.length (cellsOf xs) (h.ok _ (.head _))
    unfold Oper.wp
    simp [execOp, ho, resolve, invoke, builtin, hs, hx, hrun, Result.andThen]
    exact hK v w (by simpa using h)
  | some ad =>
    have hcells : ∀ i (hi : i < l.length), (∀ j, j < size → w.cell? ⟨b, off + i * size + j, none⟩ = ((f l[i]).cells.toList)[j]?) ∧ (f l[i]).cells.toList.length = size := by
      intro i hi
      obtain ⟨cs, g1, g2, g3⟩ := c6 i hi
      have := hf _ _ _ g3
      subst this
      rw [hes] at g1 g2
      exact ⟨g2, g1⟩
    have hsz : ∀ u ∈ l.map f, u.cells.size = size := by
      intro u hu
      obtain ⟨y, hy, rfl⟩ := List.mem_map.1 hu
      obtain ⟨i, hi, rfl⟩ := List.getElem_of_mem hy
      rw [← Array.length_toList]
      exact (hcells i hi).2
    have hcl := cellsOf_len hsz
    rw [List.length_map] at hcl
    have hpos := E.pos
    have hread : ∀ j q, (cellsOf (l.map f))[j]? = some q → w.cell? (ad.add j) = some q := by
      intro j q hq
      have hj : j < l.length * size := by
        rw [← hcl]
        exact (List.getElem?_eq_some_iff.1 hq).1
      have hl0 : 0 < l.length := by
        rcases Nat.eq_zero_or_pos l.length with h | h
        · rw [h] at hj; omega
        · exact h
      obtain ⟨e1, _, _⟩ := c5 hl0
      cases e1
      have e2 : (⟨b, off, none⟩ : Addr).add j = ⟨b, off + j, none⟩ := by unfold Addr.add; split <;> simp_all
      rw [e2]
      have hi : j / size < l.length := (Nat.div_lt_iff_lt_mul hpos).2 hj
      have hm : j % size < size := Nat.mod_lt _ hpos
      have h3 := (hcells _ hi).1 _ hm
      rw [show off + j / size * size + j % size = off + j by rw [Nat.add_assoc, Nat.div_add_mod']] at h3
      rw [h3, ← hq]
      clear h3 hq
      symm
      have := cellsOf_get hsz (j / size) (by rw [List.length_map]; exact hi) (j % size) hm
      rw [Nat.div_add_mod'] at this
      rw [this]
      simp
    obtain ⟨v', w', hr, h2, h3, h4, h5⟩ := run_append_where (ty := o.type) E (v := v) (xs := xs) (h.ok _ (.head _)) ad l.length cap (cellsOf (l.map f)) hcl hread (by
        intro q hq
        obtain ⟨u, hu, hq2⟩ := List.mem_flatMap.1 hq
        obtain ⟨y, hy, rfl⟩ := List.mem_map.1 hu
        exact h1 y q hq2) (by unfold maxLen; omega) (by rw [← Int.natCast_mul] at hroom; omega)
    unfold Oper.wp execOp
    simp only [ho, resolve, invoke, builtin, Sem.run_bind, Sem.run_pure, Result.andThen_ok, List.map_toArray, List.map_cons, List.map_nil, hs, hx, hr]
    refine hK v' w' ?_
    have ho2 : Own w' 0 e size v' (xs ++ l.map f) := by
      unfold Own
      rw [cellsOf_append, List.length_append, List.length_map]
      exact h2
    refine h.upd h3.os h3.tape h3.output h3.size (fun b hb hm => ?_) ho2 (fun b hb => ?_) (nodup_ob _)
    · exact h3.block b hb fun e => hm (by simp [aOwn, ← e])
    · have hb' : v'.ownBlock = some b := by simpa [aOwn] using hb
      rcases h4 b hb' with h6 | h6
      · exact .inl (by simpa [aOwn] using h6)
      · exact .inr ⟨h6, (ho2.lt b hb').2⟩

end Go.Proofs.YtfelikfppjlcmaaDoor

/-
  One of many assertions taken out, and laid back. (A helper text; it claims nothing of the program.)
-/
namespace Go.Proofs.YtfelikfppjlcmaaDoor
set_option linter.unusedVariables false
open Go.ChangeShapes Go.WideShapes Go.ChangeAt Go.RowKit

theorem St.re {w0 w : World} {μ ν : List Asrt} (h : St w0 w μ) (hok : ∀ A ∈ ν, A.ok w) (hp : (μ.flatMap (·.fp)).Perm (ν.flatMap (·.fp))) : St w0 w ν := by
  refine ⟨h.bel, hok, fun A hA b hb => ?_, (hp.nodup_iff).1 h.sep⟩
  have h1 : b ∈ μ.flatMap (·.fp) := hp.mem_iff.2 (List.mem_flatMap.2 ⟨A, hA, hb⟩)
  obtain ⟨B, hB, hb2⟩ := List.mem_flatMap.1 h1
  exact h.lo B hB b hb2
section
variable {w0 w : World} {μ : List Asrt} {A : Asrt} {l1 l2 : List Asrt}
theorem St.allTake (h : St w0 w (aAll (l1 ++ A :: l2) :: μ)) : St w0 w (A :: aAll (l1 ++ l2) :: μ) := by
  refine h.re (fun B hB => ?_) ?_
  · rcases List.mem_cons.1 hB with rfl | hB
    · exact h.allAt B (by simp)
    · rcases List.mem_cons.1 hB with rfl | hB
      · intro C hC
        exact h.allAt C (by simp only [List.mem_append, List.mem_cons] at hC ⊢; rcases hC with h | h <;> simp [h])
      · exact h.ok B (.tail _ hB)
  · simp only [List.flatMap_cons, aAll, List.flatMap_append, ← List.append_assoc]
    exact ((List.perm_append_comm).append_right _).append_right _
theorem St.allPut (h : St w0 w (A :: aAll (l1 ++ l2) :: μ)) : St w0 w (aAll (l1 ++ A :: l2) :: μ) := by
  refine h.re (fun B hB => ?_) ?_
  · rcases List.mem_cons.1 hB with rfl | hB
    · intro C hC
      have h2 : ∀ D ∈ l1 ++ l2, D.ok w := h.ok _ (.tail _ (.head _))
      simp only [List.mem_append, List.mem_cons] at hC
      rcases hC with h1 | rfl | h1
      · exact h2 C (by simp [h1])
      · exact h.ok _ (.head _)
      · exact h2 C (by simp [h1])
    · exact h.ok B (.tail _ (.tail _ hB))
  · simp only [List.flatMap_cons, aAll, List.flatMap_append, ← List.append_assoc]
    exact ((List.perm_append_comm).append_right _).append_right _
theorem St.allTakeAt {β : Type} {f : β → Asrt} {q : List β} (h : St w0 w (aAll (q.map f) :: μ)) (k : Nat) (hk : k < q.length) (d : β) : St w0 w (f (q.getD k d) :: aAll ((q.eraseIdx k).map f) :: μ) := by
  have e : q.map f = (q.take k).map f ++ f (q.getD k d) :: (q.drop (k + 1)).map f := by
    have e2 : q = q.take k ++ q.getD k d :: q.drop (k + 1) := by
      rw [show q.getD k d = q[k] by simp [List.getD, List.getElem?_eq_getElem hk], ← List.drop_eq_getElem_cons hk, List.take_append_drop]
    have e3 := congrArg (List.map f) e2
    rw [List.map_append, List.map_cons] at e3
    exact e3
  rw [e] at h
  have h2 := h.allTake
  rw [← List.map_append, ← List.eraseIdx_eq_take_drop_succ] at h2
  exact h2
theorem St.allPutAt {β : Type} {f : β → Asrt} {q : List β} {x : β} {k : Nat} (h : St w0 w (f x :: aAll ((q.eraseIdx k).map f) :: μ)) (hk : k < q.length) : St w0 w (aAll ((q.set k x).map f) :: μ) := by
  rw [List.eraseIdx_eq_take_drop_succ, List.map_append] at h
  have h2 := h.allPut
  rw [← List.map_cons, ← List.map_append] at h2
  rw [List.set_eq_take_append_cons_drop, if_pos hk]
  exact h2
end
end Go.Proofs.YtfelikfppjlcmaaDoor
