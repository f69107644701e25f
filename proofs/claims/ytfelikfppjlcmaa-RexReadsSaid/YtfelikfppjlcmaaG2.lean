/-
  Parts of the proof of RexReads, put together: Cp Rm Rp RpOne RpChr RpTurn RpChar ClsOp ClsNot ArrEq ArrNe RcChk. (Helper texts.)
-/
import Derived.Test.YtfelikfppjlcmaaG1
import Derived.Deep.LoopGhost
import Derived.Deep.QuietTactic
import Derived.BigQuiet
import Derived.Deep.RegionHeld
import Derived.WalkLawsBesides
import Derived.Laws.CopyOwn

/-
  The parts that classes cut the bytes into, in plain Lean: cutting class by class and sorting by the least byte gives the parts in the order of their least bytes.
-/
namespace Go.Proofs.Ytfelikfppjlcmaa
set_option linter.unusedVariables false

namespace Cp
def alike (L : List (List Nat)) (b x : Nat) : Bool := L.all fun l => Dm.mem l b == Dm.mem l x
def blk (L : List (List Nat)) (b : Nat) : List Nat := Cs.of (alike L b)
def ins (p c : List Nat) : List Nat := Cs.of fun x => Dm.mem p x && Dm.mem c x
def outs (p c : List Nat) : List Nat := Cs.of fun x => Dm.mem p x && !Dm.mem c x
def one (p : List Nat) : List (List Nat) := if p = Dm.zero then [] else [p]
def cut (c p : List Nat) : List (List Nat) := one (ins p c) ++ one (outs p c)
def lo (p : List Nat) : Nat := ((List.range 256).find? (Dm.mem p)).getD 256
def first (L : List (List Nat)) (b : Nat) : Bool := (List.range b).all fun c => !alike L b c
def ref (L : List (List Nat)) : List (List Nat) := ((List.range 256).filter (first L)).map (blk L)

theorem alike_iff {L : List (List Nat)} {b x : Nat} : alike L b x = true ↔ ∀ l ∈ L, Dm.mem l b = Dm.mem l x := by
  unfold alike
  rw [List.all_eq_true]
  exact ⟨fun h l hl => by simpa using h l hl, fun h l hl => by simpa using h l hl⟩
theorem alike_self (L : List (List Nat)) (b : Nat) : alike L b b = true := alike_iff.2 fun _ _ => rfl
theorem alike_symm {L : List (List Nat)} {b x : Nat} (h : alike L b x = true) : alike L x b = true := alike_iff.2 fun l hl => (alike_iff.1 h l hl).symm
theorem alike_trans {L : List (List Nat)} {a b c : Nat} (h : alike L a b = true) (g : alike L b c = true) : alike L a c = true := alike_iff.2 fun l hl => (alike_iff.1 h l hl).trans (alike_iff.1 g l hl)
theorem mem_blk {L : List (List Nat)} {b x : Nat} (hx : x < 256) : Dm.mem (blk L b) x = alike L b x := Cs.mem_of hx
theorem blk_eq {L : List (List Nat)} {a b : Nat} (h : alike L a b = true) : blk L a = blk L b := Cs.of_congr fun x _ => by
  rw [Bool.eq_iff_iff]
  exact ⟨fun g => alike_trans (alike_symm h) g, fun g => alike_trans h g⟩
theorem blk_ok (L : List (List Nat)) (b : Nat) : Dm.Ok4 (blk L b) := Cs.ok_of _
theorem alike_app {L : List (List Nat)} {c : List Nat} {b x : Nat} : alike (L ++ [c]) b x = (alike L b x && (Dm.mem c b == Dm.mem c x)) := by simp [alike]
theorem ne_zero {p : List Nat} {x : Nat} (h : Dm.mem p x = true) : p ≠ Dm.zero := fun e => by rw [e, Dm.mem_zero] at h; cases h
theorem some_of_ne {p : Nat → Bool} (h : Cs.of p ≠ Dm.zero) : ∃ x, x < 256 ∧ p x = true := by
  by_cases g : ∃ x, x < 256 ∧ p x = true
  · exact g
  · refine absurd ?_ h
    rw [← Cs.of_false]
    exact Cs.of_congr fun x hx => by
      cases e : p x
      · rfl
      · exact absurd ⟨x, hx, e⟩ g

structure Inv (L all : List (List Nat)) : Prop where
  of : ∀ p ∈ all, ∃ b, b < 256 ∧ p = blk L b
  got : ∀ b, b < 256 → blk L b ∈ all
  apart : all.Pairwise fun p q => ∀ x, x < 256 → ¬(Dm.mem p x = true ∧ Dm.mem q x = true)

theorem mem_one {p q : List Nat} (h : q ∈ one p) : q = p ∧ p ≠ Dm.zero := by
  unfold one at h
  split at h
  · simp at h
  · rename_i hne; exact ⟨by simpa using h, hne⟩
theorem one_mem {p : List Nat} (h : p ≠ Dm.zero) : p ∈ one p := by unfold one; rw [if_neg h]; simp
theorem sub_ins {p c : List Nat} {x : Nat} (hx : x < 256) (h : Dm.mem (ins p c) x = true) : Dm.mem p x = true ∧ Dm.mem c x = true := by
  unfold ins at h
  rw [Cs.mem_of hx] at h
  simpa using h
theorem sub_outs {p c : List Nat} {x : Nat} (hx : x < 256) (h : Dm.mem (outs p c) x = true) : Dm.mem p x = true ∧ Dm.mem c x = false := by
  unfold outs at h
  rw [Cs.mem_of hx] at h
  simpa using h
theorem cut_sub {c p q : List Nat} (h : q ∈ cut c p) {x : Nat} (hx : x < 256) (hm : Dm.mem q x = true) : Dm.mem p x = true := by
  rcases List.mem_append.1 h with h | h
  · rw [(mem_one h).1] at hm; exact (sub_ins hx hm).1
  · rw [(mem_one h).1] at hm; exact (sub_outs hx hm).1
theorem ins_blk {L : List (List Nat)} {c : List Nat} {x : Nat} (h : Dm.mem c x = true) : ins (blk L x) c = blk (L ++ [c]) x := Cs.of_congr fun y hy => by
  rw [mem_blk hy, alike_app, h]
  cases Dm.mem c y <;> rfl
theorem outs_blk {L : List (List Nat)} {c : List Nat} {x : Nat} (h : Dm.mem c x = false) : outs (blk L x) c = blk (L ++ [c]) x := Cs.of_congr fun y hy => by
  rw [mem_blk hy, alike_app, h]
  cases Dm.mem c y <;> rfl

/-- A class cuts each part. -/
theorem inv_cut {L all : List (List Nat)} (c : List Nat) (h : Inv L all) : Inv (L ++ [c]) (all.flatMap (cut c)) := by
  refine ⟨fun p hp => ?_, fun b hb => ?_, ?_⟩
  · obtain ⟨q, hq, hpq⟩ := List.mem_flatMap.1 hp
    obtain ⟨b, hb, rfl⟩ := h.of q hq
    rcases List.mem_append.1 hpq with g | g
    · obtain ⟨rfl, hne⟩ := mem_one g
      obtain ⟨x, hx, hm⟩ := some_of_ne hne
      simp only [Bool.and_eq_true] at hm
      rw [mem_blk hx] at hm
      exact ⟨x, hx, by rw [blk_eq hm.1, ins_blk hm.2]⟩
    · obtain ⟨rfl, hne⟩ := mem_one g
      obtain ⟨x, hx, hm⟩ := some_of_ne hne
      simp only [Bool.and_eq_true, Bool.not_eq_true'] at hm
      rw [mem_blk hx] at hm
      exact ⟨x, hx, by rw [blk_eq hm.1, outs_blk hm.2]⟩
  · refine List.mem_flatMap.2 ⟨blk L b, h.got b hb, ?_⟩
    have hself : Dm.mem (blk (L ++ [c]) b) b = true := by rw [mem_blk hb]; exact alike_self _ _
    cases e : Dm.mem c b
    · refine List.mem_append.2 (Or.inr ?_)
      rw [outs_blk e]
      exact one_mem (ne_zero hself)
    · refine List.mem_append.2 (Or.inl ?_)
      rw [ins_blk e]
      exact one_mem (ne_zero hself)
  · refine List.pairwise_flatMap.2 ⟨fun p hp => ?_, h.apart.imp fun {p q} hpq x hx y hy z hz hb => ?_⟩
    · unfold cut one
      split <;> split <;> simp
      intro x hx g1 
      cases g2 : Dm.mem (outs p c) x
      · rfl
      · have := (sub_ins hx g1).2
        rw [(sub_outs hx g2).2] at this
        cases this
    · exact hpq z hz ⟨cut_sub hx hz hb.1, cut_sub hy hz hb.2⟩
/-- A class that was met before cuts nothing. -/
theorem inv_seen {L all : List (List Nat)} {c : List Nat} (hc : c ∈ L) (h : Inv L all) : Inv (L ++ [c]) all := by
  have e : ∀ b, blk (L ++ [c]) b = blk L b := fun b => Cs.of_congr fun x hx => by
    rw [alike_app]
    cases g : alike L b x
    · rfl
    · rw [alike_iff.1 g c hc]; simp
  exact ⟨fun p hp => by obtain ⟨b, hb, r⟩ := h.of p hp; exact ⟨b, hb, by rw [e, r]⟩, fun b hb => by rw [e]; exact h.got b hb, h.apart⟩
theorem inv_start : Inv [] [Cs.of fun _ => true] :=
  ⟨fun p hp => ⟨0, by omega, by rw [List.mem_singleton.1 hp]; rfl⟩, fun b hb => List.mem_singleton.2 rfl, List.pairwise_singleton _ _⟩
theorem Inv.perm {L a b : List (List Nat)} (h : Inv L a) (hp : a.Perm b) : Inv L b :=
  ⟨fun p hm => h.of p (hp.mem_iff.2 hm), fun x hx => hp.mem_iff.1 (h.got x hx), hp.pairwise h.apart fun {x y} g z hz hb => g z hz ⟨hb.2, hb.1⟩⟩

theorem lo_is {p : List Nat} {b : Nat} (hb : b < 256) (hm : Dm.mem p b = true) (hl : ∀ c, c < b → Dm.mem p c = false) : lo p = b := by
  have : (List.range 256).find? (Dm.mem p) = some b := by
    rw [List.find?_range_eq_some]
    exact ⟨hm, List.mem_range.2 hb, fun j hj => by simp [hl j hj]⟩
  unfold lo
  rw [this]; rfl
theorem lo_some {p : List Nat} {x : Nat} (hx : x < 256) (hm : Dm.mem p x = true) : lo p < 256 ∧ Dm.mem p (lo p) = true ∧ ∀ c, c < lo p → Dm.mem p c = false := by
  cases e : (List.range 256).find? (Dm.mem p) with
  | none => exact absurd hm (by have := List.find?_eq_none.1 e x (List.mem_range.2 hx); simpa using this)
  | some b =>
    have h := List.find?_range_eq_some.1 e
    have hb : lo p = b := by unfold lo; rw [e]; rfl
    rw [hb]
    exact ⟨List.mem_range.1 h.2.1, h.1, fun c hc => by have := h.2.2 c hc; simpa using this⟩
theorem first_iff {L : List (List Nat)} {b : Nat} : first L b = true ↔ ∀ c, c < b → alike L b c = false := by
  unfold first
  rw [List.all_eq_true]
  exact ⟨fun h c hc => by simpa using h c (List.mem_range.2 hc), fun h c hc => by simpa using h c (List.mem_range.1 hc)⟩
theorem lo_first {L : List (List Nat)} {b : Nat} (hb : b < 256) (h : first L b = true) : lo (blk L b) = b :=
  lo_is hb (by rw [mem_blk hb]; exact alike_self _ _) fun c hc => by rw [mem_blk (by omega)]; exact first_iff.1 h c hc
theorem sorted_eq {α : Type} {f : α → Nat} : ∀ {a b : List α}, a.Pairwise (fun x y => f x < f y) → b.Pairwise (fun x y => f x < f y) → (∀ x, x ∈ a ↔ x ∈ b) → a = b
  | [], [], _, _, _ => rfl
  | [], y :: b, _, _, h => absurd ((h y).2 (.head _)) (by simp)
  | x :: a, [], _, _, h => absurd ((h x).1 (.head _)) (by simp)
  | x :: a, y :: b, ha, hb, h => by
    rw [List.pairwise_cons] at ha hb
    have hxy : x = y := by
      rcases List.mem_cons.1 ((h x).1 (.head _)) with e | e
      · exact e
      · rcases List.mem_cons.1 ((h y).2 (.head _)) with g | g
        · exact g.symm
        · have := ha.1 _ g
          have := hb.1 _ e
          omega
    subst hxy
    rw [sorted_eq ha.2 hb.2 fun z => ⟨fun hz => ?_, fun hz => ?_⟩]
    · rcases List.mem_cons.1 ((h z).1 (.tail _ hz)) with e | e
      · subst e; exact absurd (ha.1 _ hz) (by omega)
      · exact e
    · rcases List.mem_cons.1 ((h z).2 (.tail _ hz)) with e | e
      · subst e; exact absurd (hb.1 _ hz) (by omega)
      · exact e
/-- What is cut and sorted is what the reference lists. -/
theorem ref_eq {L S : List (List Nat)} (h : Inv L S) (hs : S.Pairwise fun x y => lo x ≤ lo y) : S = ref L := by
  refine sorted_eq (f := lo) ?_ ?_ fun p => ⟨fun hp => ?_, fun hp => ?_⟩
  · refine (hs.and h.apart).imp_of_mem fun {x y} hx hy hxy => ?_
    obtain ⟨b, hb, rfl⟩ := h.of x hx
    obtain ⟨c, hc, rfl⟩ := h.of y hy
    have h1 := lo_some hb (p := blk L b) (by rw [mem_blk hb]; exact alike_self _ _)
    have h2 := lo_some hc (p := blk L c) (by rw [mem_blk hc]; exact alike_self _ _)
    refine Nat.lt_of_le_of_ne hxy.1 fun e => ?_
    exact hxy.2 _ h1.1 ⟨h1.2.1, by rw [e]; exact h2.2.1⟩
  · unfold ref
    rw [List.pairwise_map]
    refine (List.pairwise_lt_range.filter _).imp_of_mem fun {x y} hx hy hxy => ?_
    obtain ⟨x1, x2⟩ := List.mem_filter.1 hx
    obtain ⟨y1, y2⟩ := List.mem_filter.1 hy
    rw [lo_first (List.mem_range.1 x1) x2, lo_first (List.mem_range.1 y1) y2]
    exact hxy
  · obtain ⟨b, hb, rfl⟩ := h.of p hp
    have h1 := lo_some hb (p := blk L b) (by rw [mem_blk hb]; exact alike_self _ _)
    obtain ⟨g1, g2, g3⟩ := h1
    rw [mem_blk g1] at g2
    refine List.mem_map.2 ⟨lo (blk L b), List.mem_filter.2 ⟨List.mem_range.2 g1, first_iff.2 fun c hc => ?_⟩, (blk_eq g2).symm⟩
    have := g3 c hc
    rw [mem_blk (by omega)] at this
    cases e : alike L (lo (blk L b)) c
    · rfl
    · rw [alike_trans g2 e] at this; cases this
  · obtain ⟨b, hb, rfl⟩ := List.mem_map.1 hp
    exact h.got b (List.mem_range.1 (List.mem_filter.1 hb).1)
theorem ref_len (L : List (List Nat)) : (ref L).length ≤ 256 := by
  unfold ref
  rw [List.length_map]
  exact Nat.le_trans (List.length_filter_le _ _) (by simp)

theorem inv_len {L S : List (List Nat)} (h : Inv L S) : S.length ≤ 256 := by
  have hn : (S.map lo).Nodup := by
    unfold List.Nodup
    rw [List.pairwise_map]
    refine h.apart.imp_of_mem fun {x y} hx hy hxy e => ?_
    obtain ⟨b, hb, rfl⟩ := h.of x hx
    obtain ⟨c, hc, rfl⟩ := h.of y hy
    have h1 := lo_some hb (p := blk L b) (by rw [mem_blk hb]; exact alike_self _ _)
    have h2 := lo_some hc (p := blk L c) (by rw [mem_blk hc]; exact alike_self _ _)
    exact hxy _ h1.1 ⟨h1.2.1, by rw [e]; exact h2.2.1⟩
  have hs : ∀ x ∈ S.map lo, x ∈ List.range 256 := fun x hx => by
    obtain ⟨p, hp, rfl⟩ := List.mem_map.1 hx
    obtain ⟨b, hb, rfl⟩ := h.of p hp
    exact List.mem_range.2 (lo_some hb (p := blk L b) (by rw [mem_blk hb]; exact alike_self _ _)).1
  have := List.Nodup.length_le_of_subset hn hs
  simpa using this
theorem ok_of {L S : List (List Nat)} (h : Inv L S) : ∀ p ∈ S, Dm.Ok4 p := fun p hp => by
  obtain ⟨b, hb, rfl⟩ := h.of p hp
  exact blk_ok L b

/-- One step of the sorting: the pairs up to i are in order, but for those that end at k. -/
def near (M : List (List Nat)) (i k : Nat) : Prop := ∀ a b, a < b → b ≤ i → b ≠ k → lo (M.getD a []) ≤ lo (M.getD b [])
def swp (M : List (List Nat)) (k : Nat) : List (List Nat) := (M.set k (M.getD (k - 1) [])).set (k - 1) (M.getD k [])
theorem swp_perm {M : List (List Nat)} {k : Nat} (hk : k < M.length) : (swp M k).Perm M := by
  unfold swp
  have h1 : k - 1 < M.length := by omega
  have e1 : M.getD (k - 1) [] = M[k - 1] := by simp [List.getD, List.getElem?_eq_getElem h1]
  have e2 : M.getD k [] = M[k] := by simp [List.getD, List.getElem?_eq_getElem hk]
  rw [e1, e2]
  exact List.set_set_perm hk h1
theorem swp_get {M : List (List Nat)} {k : Nat} (h0 : 0 < k) (hk : k < M.length) (a : Nat) : (swp M k).getD a [] = if a = k then M.getD (k - 1) [] else if a = k - 1 then M.getD k [] else M.getD a [] := by
  unfold swp
  simp only [List.getD_eq_getElem?_getD, List.getElem?_set, List.length_set]
  by_cases h1 : a = k
  · subst h1
    rw [if_neg (by omega), if_pos rfl, if_pos hk, if_pos rfl]; rfl
  · by_cases h2 : a = k - 1
    · subst h2
      rw [if_pos rfl, if_pos (by omega), if_neg h1, if_pos rfl]; rfl
    · rw [if_neg (by omega), if_neg (by omega), if_neg h1, if_neg h2]
theorem near_swp {M : List (List Nat)} {i k : Nat} (h0 : 0 < k) (hk : k ≤ i) (hi : i < M.length) (h : near M i k) (hlt : lo (M.getD k []) < lo (M.getD (k - 1) [])) : near (swp M k) i (k - 1) := by
  intro a b hab hb hne
  rw [swp_get h0 (by omega), swp_get h0 (by omega), if_neg hne]
  by_cases b1 : b = k
  · subst b1
    rw [if_neg (by omega), if_pos rfl]
    by_cases a1 : a = b - 1
    · rw [if_pos a1]; omega
    · rw [if_neg a1]; exact h a (b - 1) (by omega) (by omega) (by omega)
  · rw [if_neg b1]
    by_cases a1 : a = k
    · rw [if_pos a1]; exact h (k - 1) b (by omega) hb b1
    · rw [if_neg a1]
      by_cases a2 : a = k - 1
      · rw [if_pos a2]; exact h k b (by omega) hb b1
      · rw [if_neg a2]; exact h a b hab hb b1
theorem near_end {M : List (List Nat)} {i k : Nat} (hk : k ≤ i) (h : near M i k) (he : k = 0 ∨ ¬ lo (M.getD k []) < lo (M.getD (k - 1) [])) : near M (i + 1) (i + 1) := by
  intro a b hab hb hne
  by_cases b1 : b = k
  · subst b1
    rcases he with he | he
    · omega
    · by_cases a1 : a = b - 1
      · subst a1; omega
      · have := h a (b - 1) (by omega) (by omega) (by omega)
        omega
  · exact h a b hab (by omega) b1
theorem near_start (M : List (List Nat)) : near M 1 1 := fun a b hab hb hne => by omega
theorem sorted_of {M : List (List Nat)} {i : Nat} (hi : M.length ≤ i) (h : near M i i) : M.Pairwise fun x y => lo x ≤ lo y := by
  rw [List.pairwise_iff_getElem]
  intro a b ha hb hab
  have := h a b hab (by omega) (by omega)
  simpa [List.getD, List.getElem?_eq_getElem ha, List.getElem?_eq_getElem hb] using this
end Cp
end Go.Proofs.Ytfelikfppjlcmaa

/-
  What a regular expression matches in a text: by spans. (Plain functions; nothing of the program is claimed.)
-/
namespace Go.Proofs.Ytfelikfppjlcmaa
set_option linter.unusedVariables false

namespace Rm
/-- Steps by a, one behind the other, none of them empty: at most f of them. -/
def st (a : Nat → Nat → Bool) (n : Nat) : Nat → Nat → Nat → Bool
  | 0, i, j => decide (i = j)
  | f + 1, i, j => decide (i = j) || (List.range (n + 1)).any fun m => decide (i < m) && a i m && st a n f m j
def mt (n : Nat) (B : Nat → Nat) : Nat → Rx → Nat → Nat → Bool
  | 0, _, _, _ => false
  | f + 1, t, i, j =>
    if t.kind = 2 then decide (i = j)
    else if t.kind = 3 then decide (j = i + 1) && (decide (i < n) && Dm.mem (Rx.ws t) (B i))
    else if t.kind = 5 then mt n B f (t.kids.getD 0 Rx.nil) i j || mt n B f (t.kids.getD 1 Rx.nil) i j
    else if t.kind = 4 then (List.range (n + 1)).any fun m => mt n B f (t.kids.getD 0 Rx.nil) i m && mt n B f (t.kids.getD 1 Rx.nil) m j
    else if t.kind = 6 then st (mt n B f (t.kids.getD 0 Rx.nil)) n n i j
    else false
/-- Goes forward, and stays. -/
def Fwd (n : Nat) (a : Nat → Nat → Bool) : Prop := ∀ i j, i ≤ n → a i j = true → i ≤ j ∧ j ≤ n
variable {n : Nat} {B : Nat → Nat} {a : Nat → Nat → Bool}
theorem st_fwd (ha : Fwd n a) : ∀ f, Fwd n (st a n f) := by
  intro f
  induction f with
  | zero => intro i j hi h; simp only [st, decide_eq_true_eq] at h; omega
  | succ f ih =>
    intro i j hi h
    simp only [st, Bool.or_eq_true, decide_eq_true_eq, List.any_eq_true, List.mem_range, Bool.and_eq_true] at h
    rcases h with h | ⟨m, hm, ⟨h1, h2⟩, h3⟩
    · omega
    · have := ih m j (by omega) h3
      omega
theorem mt_fwd : ∀ f t, Fwd n (mt n B f t) := by
  intro f
  induction f with
  | zero => intro t i j _ h; cases h
  | succ f ih =>
    intro t i j hi h
    rw [mt] at h
    split at h
    · simp only [decide_eq_true_eq] at h; omega
    · split at h
      · simp only [Bool.and_eq_true, decide_eq_true_eq] at h; omega
      · split at h
        · rcases Bool.or_eq_true_iff.1 h with h | h
          · exact ih _ i j hi h
          · exact ih _ i j hi h
        · split at h
          · simp only [List.any_eq_true, List.mem_range, Bool.and_eq_true] at h
            obtain ⟨m, hm, h1, h2⟩ := h
            have a1 := ih _ i m hi h1
            have a2 := ih _ m j a1.2 h2
            omega
          · split at h
            · exact st_fwd (ih _) n i j hi h
            · cases h
/-- Step by step. -/
inductive RT (a : Nat → Nat → Bool) : Nat → Nat → Prop where
  | refl (i : Nat) : RT a i i
  | head {i m j : Nat} : a i m = true → RT a m j → RT a i j
theorem RT.tail {i m j : Nat} (h : RT a i m) (g : a m j = true) : RT a i j := by
  induction h with
  | refl i => exact .head g (.refl _)
  | head h1 _ ih => exact .head h1 (ih g)
theorem RT.le (ha : Fwd n a) {i j : Nat} (h : RT a i j) : i ≤ n → i ≤ j ∧ j ≤ n := by
  induction h with
  | refl i => intro hi; exact ⟨Nat.le_refl _, hi⟩
  | head h1 _ ih =>
    intro hi
    have := ha _ _ hi h1
    have := ih this.2
    omega
theorem st_refl (f i : Nat) : st a n f i i = true := by cases f <;> simp [st]
theorem st_of_rt (ha : Fwd n a) {i j : Nat} (h : RT a i j) : ∀ f, n - i ≤ f → i ≤ n → st a n f i j = true := by
  induction h with
  | refl i => intro f _ _; exact st_refl f i
  | @head i m j h1 h2 ih =>
    intro f hf hi
    have hm := ha _ _ hi h1
    by_cases e : m = i
    · subst e; exact ih f hf hi
    · cases f with
      | zero => omega
      | succ f =>
        simp only [st, Bool.or_eq_true, List.any_eq_true, List.mem_range, Bool.and_eq_true, decide_eq_true_eq]
        exact .inr ⟨m, by omega, ⟨by omega, h1⟩, ih f (by omega) hm.2⟩
theorem rt_of_st : ∀ f i j, st a n f i j = true → RT a i j := by
  intro f
  induction f with
  | zero => intro i j h; simp only [st, decide_eq_true_eq] at h; subst h; exact .refl _
  | succ f ih =>
    intro i j h
    simp only [st, Bool.or_eq_true, decide_eq_true_eq, List.any_eq_true, List.mem_range, Bool.and_eq_true] at h
    rcases h with h | ⟨m, _, ⟨_, h2⟩, h3⟩
    · subst h; exact .refl _
    · exact .head h2 (ih m j h3)
theorem st_eq (ha : Fwd n a) {i : Nat} (hi : i ≤ n) {f j : Nat} (hf : n - i ≤ f) : st a n f i j = st a n n i j := by
  rw [Bool.eq_iff_iff]
  exact ⟨fun h => st_of_rt ha (rt_of_st _ _ _ h) n (by omega) hi, fun h => st_of_rt ha (rt_of_st _ _ _ h) f hf hi⟩

/-! The program's sets. -/
/-- Where what a node matches from i on may end. -/
def en (n : Nat) (B : Nat → Nat) (f : Nat) (t : Rx) (i : Nat) : List Nat := Cs.of (mt n B f t i)
/-- The ends from any place of a set on. -/
def each (n : Nat) (a : Nat → Nat → Bool) (S : List Nat) : List Nat := Cs.of fun j => (List.range (n + 1)).any fun m => Dm.mem S m && a m j
def join (S T : List Nat) : List Nat := Cs.of fun x => Dm.mem S x || Dm.mem T x
def less (S T : List Nat) : List Nat := Cs.of fun x => Dm.mem S x && !Dm.mem T x
structure Star (n : Nat) (a : Nat → Nat → Bool) (i : Nat) (out now : List Nat) : Prop where
  ok : Dm.Ok4 out
  ok2 : Dm.Ok4 now
  has : Dm.mem out i = true
  sub : ∀ x, x < 256 → Dm.mem now x = true → Dm.mem out x = true
  rt : ∀ x, x < 256 → Dm.mem out x = true → RT a i x
  closed : ∀ b x, b < 256 → x < 256 → Dm.mem out b = true → Dm.mem now b = false → a b x = true → Dm.mem out x = true
theorem star_start (hn : n ≤ 200) {i : Nat} (hi : i ≤ n) : Star n a i (Cs.of fun x => decide (i = x)) (Cs.of fun x => decide (i = x)) := by
  refine ⟨Cs.ok_of _, Cs.ok_of _, by rw [Cs.mem_of (by omega)]; simp, fun x _ h => h, fun x hx h => ?_, fun b x hb hx h1 h2 _ => ?_⟩
  · rw [Cs.mem_of hx] at h
    simp only [decide_eq_true_eq] at h
    subst h; exact .refl _
  · rw [h1] at h2; cases h2
theorem star_step (hn : n ≤ 200) (ha : Fwd n a) {i : Nat} (hi : i ≤ n) {out now : List Nat} (h : Star n a i out now) : Star n a i (join out (less (each n a now) out)) (less (each n a now) out) := by
  have hle : ∀ x, x < 256 → Dm.mem out x = true → x ≤ n := fun x hx hm => (RT.le ha (h.rt x hx hm) hi).2
  have hnx : ∀ x, x < 256 → (Dm.mem (less (each n a now) out) x = true ↔ (∃ m, m ≤ n ∧ Dm.mem now m = true ∧ a m x = true) ∧ Dm.mem out x = false) := fun x hx => by
    unfold less each
    rw [Cs.mem_of hx, Cs.mem_of hx]
    simp only [Bool.and_eq_true, List.any_eq_true, List.mem_range, Bool.not_eq_true', and_congr_left_iff]
    intro _
    exact ⟨fun ⟨m, h1, h2⟩ => ⟨m, by omega, h2⟩, fun ⟨m, h1, h2⟩ => ⟨m, by omega, h2⟩⟩
  have hjn : ∀ x, x < 256 → (Dm.mem (join out (less (each n a now) out)) x = true ↔ (Dm.mem out x = true ∨ Dm.mem (less (each n a now) out) x = true)) := fun x hx => by
    unfold join
    rw [Cs.mem_of hx, Bool.or_eq_true]
  refine ⟨Cs.ok_of _, Cs.ok_of _, (hjn i (by omega)).2 (.inl h.has), fun x hx hm => (hjn x hx).2 (.inr hm), fun x hx hm => ?_, fun b x hb hx h1 h2 h3 => ?_⟩
  · rcases (hjn x hx).1 hm with h1 | h1
    · exact h.rt x hx h1
    · obtain ⟨⟨m, hm1, hm2, hm3⟩, _⟩ := (hnx x hx).1 h1
      exact (h.rt m (by omega) (h.sub m (by omega) hm2)).tail hm3
  · rw [hjn x hx]
    have hb2 : Dm.mem out b = true := by
      rcases (hjn b hb).1 h1 with h4 | h4
      · exact h4
      · rw [h4] at h2; cases h2
    cases e : Dm.mem out x
    · refine .inr ((hnx x hx).2 ⟨⟨b, hle b hb hb2, ?_, h3⟩, e⟩)
      cases e2 : Dm.mem now b
      · rw [h.closed b x hb hx hb2 e2 h3] at e; cases e
      · rfl
    · exact .inl rfl
theorem star_end (hn : n ≤ 200) (ha : Fwd n a) {i : Nat} (hi : i ≤ n) {out : List Nat} (h : Star n a i out Dm.zero) : out = Cs.of (st a n n i) := by
  refine Cs.eq_of h.ok fun x hx => ?_
  rw [Bool.eq_iff_iff]
  refine ⟨fun hm => st_of_rt ha (h.rt x hx hm) n (by omega) hi, fun hs => ?_⟩
  have key : ∀ {m j : Nat}, RT a m j → m ≤ n → Dm.mem out m = true → Dm.mem out j = true := by
    intro m j hr
    induction hr with
    | refl m => intro _ hm; exact hm
    | @head m q j h1 h2 ih =>
      intro hmn hm
      have hq := ha _ _ hmn h1
      exact ih hq.2 (h.closed m q (by omega) (by omega) hm (Dm.mem_zero _) h1)
  exact key (rt_of_st _ _ _ hs) hi h.has
def card (S : List Nat) : Nat := ((List.range 256).filter (Dm.mem S)).length
def ms (out now : List Nat) : Nat := 2 * (256 - card out) + (if now = Dm.zero then 0 else 1)
theorem filter_lt {α : Type} {p q : α → Bool} : ∀ {l : List α}, (∀ x ∈ l, p x = true → q x = true) → (∃ x ∈ l, p x = false ∧ q x = true) → (l.filter p).length < (l.filter q).length
  | [], _, ⟨x, hx, _⟩ => by cases hx
  | y :: l, h, ⟨x, hx, h1, h2⟩ => by
    have hle : ∀ {l : List α}, (∀ x ∈ l, p x = true → q x = true) → (l.filter p).length ≤ (l.filter q).length := by
      intro l
      induction l with
      | nil => intro _; exact Nat.le_refl _
      | cons z l ih =>
        intro h
        have := ih fun x hx => h x (.tail _ hx)
        by_cases hp : p z = true
        · rw [List.filter_cons_of_pos hp, List.filter_cons_of_pos (h z (.head _) hp), List.length_cons, List.length_cons]; omega
        · by_cases hq : q z = true
          · rw [List.filter_cons_of_neg hp, List.filter_cons_of_pos hq, List.length_cons]; omega
          · rw [List.filter_cons_of_neg hp, List.filter_cons_of_neg hq]; exact this
    rcases List.mem_cons.1 hx with rfl | hx
    · have := hle (l := l) fun z hz => h z (.tail _ hz)
      rw [List.filter_cons_of_neg (by rw [h1]; decide), List.filter_cons_of_pos h2, List.length_cons]; omega
    · have ih := filter_lt (l := l) (fun z hz => h z (.tail _ hz)) ⟨x, hx, h1, h2⟩
      by_cases hp : p y = true
      · rw [List.filter_cons_of_pos hp, List.filter_cons_of_pos (h y (.head _) hp), List.length_cons, List.length_cons]; omega
      · by_cases hq : q y = true
        · rw [List.filter_cons_of_neg hp, List.filter_cons_of_pos hq, List.length_cons]; omega
        · rw [List.filter_cons_of_neg hp, List.filter_cons_of_neg hq]; exact ih
theorem card_le (S : List Nat) : card S ≤ 256 := Nat.le_trans (List.length_filter_le _ _) (by simp)
theorem ms_step {out now nx : List Nat} (hnow : now ≠ Dm.zero) (hnx : nx = less nx out) (ho : Dm.Ok4 out) : ms (join out nx) nx < ms out now := by
  have hc := card_le (join out nx)
  unfold ms
  rw [if_neg hnow]
  by_cases h : nx = Dm.zero
  · rw [if_pos h]
    have e : join out nx = out := by
      refine (Cs.eq_of ho fun x hx => ?_).symm
      rw [h, Dm.mem_zero, Bool.or_false]
    rw [e]; omega
  · rw [if_neg h]
    obtain ⟨x, hx, hm⟩ := Cp.some_of_ne (p := fun x => Dm.mem nx x && !Dm.mem out x) (by rw [show Cs.of (fun x => Dm.mem nx x && !Dm.mem out x) = less nx out from rfl, ← hnx]; exact h)
    simp only [Bool.and_eq_true, Bool.not_eq_true'] at hm
    have : card out < card (join out nx) := by
      unfold card
      refine filter_lt (fun y hy hm' => ?_) ⟨x, List.mem_range.2 hx, hm.2, ?_⟩
      · unfold join; rw [Cs.mem_of (List.mem_range.1 hy), hm']; rfl
      · unfold join; rw [Cs.mem_of hx, hm.1, Bool.or_true]
    omega
theorem less_less {S T : List Nat} : less (less S T) T = less S T := Cs.of_congr fun x hx => by
  unfold less
  rw [Cs.mem_of hx]
  cases Dm.mem S x <;> cases Dm.mem T x <;> rfl
theorem en_alt {f : Nat} {t : Rx} {i : Nat} (h : t.kind = 5) : join (en n B f (t.kids.getD 0 Rx.nil) i) (en n B f (t.kids.getD 1 Rx.nil) i) = en n B (f + 1) t i := Cs.of_congr fun x hx => by
  unfold en
  rw [Cs.mem_of hx, Cs.mem_of hx, mt, if_neg (by omega), if_neg (by omega), if_pos h]
theorem en_cat (hn : n ≤ 200) {f : Nat} {t : Rx} {i : Nat} (h : t.kind = 4) : each n (mt n B f (t.kids.getD 1 Rx.nil)) (en n B f (t.kids.getD 0 Rx.nil) i) = en n B (f + 1) t i := Cs.of_congr fun x hx => by
  rw [mt, if_neg (by omega), if_neg (by omega), if_neg (by omega), if_pos h, Bool.eq_iff_iff, List.any_eq_true, List.any_eq_true]
  constructor
  · rintro ⟨m, hm, h2⟩
    refine ⟨m, hm, ?_⟩
    unfold en at h2
    rw [Cs.mem_of (by have := List.mem_range.1 hm; omega)] at h2
    exact h2
  · rintro ⟨m, hm, h2⟩
    refine ⟨m, hm, ?_⟩
    unfold en
    rw [Cs.mem_of (by have := List.mem_range.1 hm; omega)]
    exact h2
theorem en_star {f : Nat} {t : Rx} {i : Nat} (h : t.kind = 6) : Cs.of (st (mt n B f (t.kids.getD 0 Rx.nil)) n n i) = en n B (f + 1) t i := Cs.of_congr fun x hx => by
  rw [mt, if_neg (by omega), if_neg (by omega), if_neg (by omega), if_neg (by omega), if_pos h]
theorem en_empty {f : Nat} {t : Rx} {i : Nat} (h : t.kind = 2) : (Cs.of fun x => decide ((i : Int) ≤ (x : Int)) && decide ((x : Int) ≤ (i : Int))) = en n B (f + 1) t i := Cs.of_congr fun x hx => by
  rw [mt, if_pos h, Bool.eq_iff_iff, Bool.and_eq_true, decide_eq_true_eq, decide_eq_true_eq, decide_eq_true_eq]
  omega
theorem en_byte {f : Nat} {t : Rx} {i : Nat} (h : t.kind = 3) : (if i < n ∧ Dm.mem (Rx.ws t) (B i) = true then (Cs.of fun x => decide ((i : Int) + 1 ≤ (x : Int)) && decide ((x : Int) ≤ (i : Int) + 1)) else Dm.zero) = en n B (f + 1) t i := by
  split
  · rename_i hc
    refine Cs.of_congr fun x hx => ?_
    rw [mt, if_neg (by omega), if_pos h, Bool.eq_iff_iff, Bool.and_eq_true, Bool.and_eq_true, Bool.and_eq_true, decide_eq_true_eq, decide_eq_true_eq, decide_eq_true_eq, decide_eq_true_eq]
    exact ⟨fun hh => ⟨by omega, hc⟩, fun hh => ⟨by omega, by omega⟩⟩
  · rename_i hc
    rw [← Cs.of_false]
    refine Cs.of_congr fun x hx => ?_
    rw [mt, if_neg (by omega), if_pos h]
    symm
    rw [Bool.and_eq_false_iff]
    refine .inr ?_
    cases e : decide (i < n) && Dm.mem (Rx.ws t) (B i)
    · rfl
    · rw [Bool.and_eq_true, decide_eq_true_eq] at e
      exact absurd e hc
theorem en_none {f : Nat} {t : Rx} {i : Nat} (h : t.kind = 1) : Dm.zero = en n B (f + 1) t i := by
  rw [← Cs.of_false]
  refine Cs.of_congr fun x hx => ?_
  rw [mt, if_neg (by omega), if_neg (by omega), if_neg (by omega), if_neg (by omega), if_neg (by omega)]
theorem en_mem {f : Nat} {t : Rx} {i x : Nat} (hx : x < 256) : Dm.mem (en n B f t i) x = mt n B f t i x := Cs.mem_of hx
theorem en_ok (f : Nat) (t : Rx) (i : Nat) : Dm.Ok4 (en n B f t i) := Cs.ok_of _
end Rm
end Go.Proofs.Ytfelikfppjlcmaa

/-
  How the text of a regular expression is read. (Plain functions; nothing of the program is claimed.)
-/
namespace Go.Proofs.Ytfelikfppjlcmaa
set_option linter.unusedVariables false
open Go.ChangeShapes Go.WideShapes Go.ChangeAt Go.RowKit

namespace Rp
/-- What is read and where it ends, or what is wrong and where. -/
abbrev Re (α : Type) := Except (Int × Nat) (α × Nat)
def byt (s : ByteArray) (i : Nat) : Nat := (s.data.toList.getD i 0).toNat
theorem byt_get (s : ByteArray) (i : Nat) (h : i < s.size) : (s[i]'h).toNat = byt s i := by
  have hjd : i < s.data.size := h
  unfold byt
  congr 1
  simp [List.getD, ByteArray.getElem_eq_getElem_data, Array.getElem?_eq_getElem hjd]
theorem byt_lt (s : ByteArray) (i : Nat) : byt s i < 256 := UInt8.toNat_lt _
/-- The byte at a place, or -1. -/
def pk (s : ByteArray) (i : Nat) : Int := if i < s.size then (byt s i : Int) else -1
theorem pk_in {s : ByteArray} {i : Nat} (h : i < s.size) : pk s i = (byt s i : Int) := if_pos h
theorem pk_out {s : ByteArray} {i : Nat} (h : ¬ i < s.size) : pk s i = -1 := if_neg h
theorem pk_lt {s : ByteArray} {i : Nat} (b : Int) (hb : 0 ≤ b) (h : pk s i = b) : i < s.size := by
  by_cases h1 : i < s.size
  · exact h1
  · rw [pk_out h1] at h; omega
theorem pk_bound (s : ByteArray) (i : Nat) : -1 ≤ pk s i ∧ pk s i < 256 := by
  unfold pk
  have := byt_lt s i
  split <;> omega
def hx (b : Nat) : Option Nat := if 48 ≤ b ∧ b ≤ 57 then some (b - 48) else if 97 ≤ b ∧ b ≤ 102 then some (b - 87) else none
def dig (s : ByteArray) (a : Nat) : Option Nat := if a < s.size then hx (byt s a) else none
def hex (s : ByteArray) (a : Nat) : Re Nat :=
  match dig s a with
  | none => .error (6, a)
  | some h => match dig s (a + 1) with
    | none => .error (6, a + 1)
    | some l => .ok (16 * h + l, a + 2)
def turned (s : ByteArray) (a : Nat) : Re Nat :=
  if a < s.size then
    if byt s a = 110 then .ok (10, a + 1) else if byt s a = 116 then .ok (9, a + 1) else if byt s a = 115 then .ok (32, a + 1)
    else if byt s a = 120 then hex s (a + 1) else if Rct.isSign (byt s a) = true then .ok (byt s a, a + 1) else .error (6, a)
  else .error (6, a)
def chr (s : ByteArray) (a : Nat) : Re Nat :=
  if a < s.size then
    if byt s a = 92 then turned s (a + 1) else if byt s a < 33 ∨ 126 < byt s a ∨ Rct.isSign (byt s a) = true then .error (6, a) else .ok (byt s a, a + 1)
  else .error (6, a)
/-- What goes on behind a thing that is read. -/
def on {α β : Type} (r : Re α) (f : α → Nat → Re β) : Re β := match r with | .error e => .error e | .ok (x, b) => f x b
abbrev Set := Nat → Bool
def joinTo (p : Set) (lo hi : Nat) : Set := fun x => p x || decide (lo ≤ x ∧ x ≤ hi)
/-- One item of a class: from where to where. -/
def item (s : ByteArray) (a : Nat) : Re (Nat × Nat) :=
  on (chr s a) fun lo a1 => if pk s a1 = 45 then on (chr s (a1 + 1)) fun hi a2 => if hi < lo then .error (6, a1 + 1) else .ok ((lo, hi), a2) else .ok ((lo, lo), a1)
def cls (s : ByteArray) (not : Bool) : Nat → Nat → Set → Nat → Re Set
  | 0, _, _, a => .error (6, a)
  | f + 1, n, p, a => if pk s a = 93 ∧ (0 < n ∨ not = true) then .ok (p, a) else on (item s a) fun i b => cls s not f (n + 1) (joinTo p i.1 i.2) b
def clsW (not : Bool) (p : Set) : List Nat := Cs.of fun b => p b != not
def clsEnd (not : Bool) (p : Set) (a : Nat) : Re (List Nat) := if clsW not p = Dm.zero then .error (6, a) else .ok (clsW not p, a + 1)
def clsAt (s : ByteArray) (a : Nat) : Re (List Nat) :=
  if pk s a = 94 then on (cls s true (s.size + 1 - (a + 1)) 0 (fun _ => false) (a + 1)) (clsEnd true) else on (cls s false (s.size + 1 - a) 0 (fun _ => false) a) (clsEnd false)
def ints (ws : List Nat) : List Int := ws.map fun n : Nat => (n : Int)
def none_ : Rx := .mk 1 (ints Dm.zero) []
def empty : Rx := .mk 2 (ints Dm.zero) []
def byte (ws : List Nat) : Rx := .mk 3 (ints ws) []
def two (k : Int) (a b : Rx) : Rx := .mk k (ints Dm.zero) [a, b]
def star (a : Rx) : Rx := .mk 6 (ints Dm.zero) [a]
noncomputable def siz (t : Rx) : Nat := Rx.rec (motive_1 := fun _ => Nat) (motive_2 := fun _ => Nat) (fun _ _ _ n => n + 1) 0 (fun _ _ a b => a + b) t
noncomputable def sizs (l : List Rx) : Nat := Rx.rec_1 (motive_1 := fun _ => Nat) (motive_2 := fun _ => Nat) (fun _ _ _ n => n + 1) 0 (fun _ _ a b => a + b) l
theorem siz_mk (k : Int) (c : List Int) (l : List Rx) : siz (.mk k c l) = sizs l + 1 := rfl
theorem sizs_cons (t : Rx) (l : List Rx) : sizs (t :: l) = siz t + sizs l := rfl
theorem sizs_nil : sizs [] = 0 := rfl
noncomputable def plus (t : Rx) : Rx := two 4 t (star (if siz t ≤ 100 then t else empty))
def quest (t : Rx) : Rx := two 5 t empty
noncomputable def repL (s : ByteArray) : Nat → Rx → Nat → Re Rx
  | 0, _, a => .error (6, a)
  | f + 1, t, a => if pk s a = 42 then repL s f (star t) (a + 1) else if pk s a = 43 then repL s f (plus t) (a + 1) else if pk s a = 63 then repL s f (quest t) (a + 1) else .ok (t, a)
noncomputable def rep (s : ByteArray) (atom : Nat → Re Rx) (a : Nat) : Re Rx := on (atom a) fun t b => repL s (s.size + 1 - b) t b
def catL (s : ByteArray) (r : Nat → Re Rx) : Nat → Rx → Nat → Re Rx
  | 0, _, a => .error (6, a)
  | f + 1, t, a => if pk s a = 124 ∨ pk s a = 41 ∨ pk s a = -1 then .ok (t, a) else on (r a) fun u b => catL s r f (two 4 t u) b
def cat (s : ByteArray) (r : Nat → Re Rx) (a : Nat) : Re Rx := on (r a) fun t b => catL s r (s.size + 1 - b) t b
def altL (s : ByteArray) (c : Nat → Re Rx) : Nat → Rx → Nat → Re Rx
  | 0, _, a => .error (6, a)
  | f + 1, t, a => if pk s a = 124 then on (c (a + 1)) fun u b => altL s c f (two 5 t u) b else .ok (t, a)
def alter (s : ByteArray) (c : Nat → Re Rx) (a : Nat) : Re Rx := on (c a) fun t b => altL s c (s.size + 1 - b) t b
def brk (s : ByteArray) (inner : Nat → Re Rx) (a : Nat) : Re Rx :=
  if pk s (a + 1) = 41 then .ok (empty, a + 2) else on (inner (a + 1)) fun t b => if pk s b = 41 then .ok (t, b + 1) else .error (6, b)
def atom (s : ByteArray) (br : Nat → Re Rx) (a : Nat) : Re Rx :=
  if pk s a = 40 then br a
  else if pk s a = 91 then if pk s (a + 1) = 93 then .ok (none_, a + 2) else on (clsAt s (a + 1)) fun c b => .ok (byte c, b)
  else if pk s a = 46 then .ok (byte (Cs.of fun b => decide (b ≠ 10)), a + 1)
  else on (chr s a) fun b c => .ok (byte (Cs.of fun x => decide (x = b)), c)
noncomputable def altOf (s : ByteArray) (br : Nat → Re Rx) : Nat → Re Rx := alter s (cat s (rep s (atom s br)))
def deep (a : Nat) : Re Rx := .error (7, a)
/-- d brackets more may be opened. -/
noncomputable def brkD (s : ByteArray) : Nat → Nat → Re Rx
  | 0 => deep
  | d + 1 => brk s (altOf s (brkD s d))
noncomputable def altD (s : ByteArray) (d : Nat) : Nat → Re Rx := altOf s (brkD s d)
theorem brkD_succ (s : ByteArray) (d : Nat) : brkD s (d + 1) = brk s (altD s d) := rfl

/-! What is read goes on; what is wrong is a small number; how large a tree is. -/
/-- Where things may end. -/
def Fit (s : ByteArray) {α : Type} (G : Nat → α → Nat → Prop) (a : Nat) (r : Re α) : Prop := match r with | .ok (x, b) => a < b ∧ b ≤ s.size ∧ G a x b | .error (e, p) => (e = 6 ∨ e = 7) ∧ p ≤ s.size
theorem Fit.on {s : ByteArray} {α β : Type} {G : Nat → α → Nat → Prop} {H : Nat → β → Nat → Prop} {a : Nat} {r : Re α} {f : α → Nat → Re β} (h : Fit s G a r) (hf : ∀ x b, a < b → b ≤ s.size → G a x b → Fit s H a (f x b)) : Fit s H a (Rp.on r f) := by
  unfold Rp.on
  match r, h with
  | .error (e, p), h => exact h
  | .ok (x, b), h => exact hf x b h.1 h.2.1 h.2.2
theorem dig_lt {s : ByteArray} {a h : Nat} (hd : dig s a = some h) : a < s.size ∧ h < 16 := by
  unfold dig at hd
  split at hd
  · rename_i ha
    refine ⟨ha, ?_⟩
    unfold hx at hd
    split at hd
    · have := Option.some.inj hd; omega
    · split at hd
      · have := Option.some.inj hd; omega
      · cases hd
  · cases hd
def Small (_ : Nat) (x : Nat) (_ : Nat) : Prop := x < 256
theorem hex_fit {s : ByteArray} {a : Nat} (ha : a ≤ s.size) : Fit s Small a (hex s a) := by
  unfold hex
  match hd : dig s a with
  | none => exact ⟨.inl rfl, ha⟩
  | some h =>
    have h1 := dig_lt hd
    dsimp only
    match hd2 : dig s (a + 1) with
    | none => exact ⟨.inl rfl, h1.1⟩
    | some l =>
      have h2 := dig_lt hd2
      refine ⟨by omega, by omega, ?_⟩
      show 16 * h + l < 256
      omega
theorem turned_fit {s : ByteArray} {a : Nat} (ha : a ≤ s.size) : Fit s Small a (turned s a) := by
  unfold turned
  split
  · rename_i h
    have hb := byt_lt s a
    split
    · exact ⟨by omega, by omega, by show 10 < 256; decide⟩
    · split
      · exact ⟨by omega, by omega, by show 9 < 256; decide⟩
      · split
        · exact ⟨by omega, by omega, by show 32 < 256; decide⟩
        · split
          · have := hex_fit (s := s) (a := a + 1) h
            match hex s (a + 1), this with
            | .error (e, p), h => exact h
            | .ok (x, b), h => exact ⟨by have := h.1; omega, h.2.1, h.2.2⟩
          · split
            · exact ⟨by omega, by omega, hb⟩
            · exact ⟨.inl rfl, ha⟩
  · exact ⟨.inl rfl, ha⟩
theorem chr_fit {s : ByteArray} {a : Nat} (ha : a ≤ s.size) : Fit s Small a (chr s a) := by
  unfold chr
  split
  · rename_i h
    have hb := byt_lt s a
    split
    · have := turned_fit (s := s) (a := a + 1) h
      match turned s (a + 1), this with
      | .error (e, p), h => exact h
      | .ok (x, b), h => exact ⟨by have := h.1; omega, h.2.1, h.2.2⟩
    · split
      · exact ⟨.inl rfl, ha⟩
      · exact ⟨by omega, by omega, hb⟩
  · exact ⟨.inl rfl, ha⟩
theorem chr_ok {s : ByteArray} {a x b : Nat} (ha : a ≤ s.size) (h : chr s a = .ok (x, b)) : a < b ∧ b ≤ s.size ∧ x < 256 := by
  have := chr_fit ha; rw [h] at this; exact this
theorem chr_err {s : ByteArray} {a p : Nat} {e : Int} (ha : a ≤ s.size) (h : chr s a = .error (e, p)) : (e = 6 ∨ e = 7) ∧ p ≤ s.size := by
  have := chr_fit ha; rw [h] at this; exact this
def Span (_ : Nat) (x : Nat × Nat) (_ : Nat) : Prop := x.1 ≤ x.2 ∧ x.2 < 256
theorem item_fit {s : ByteArray} {a : Nat} (ha : a ≤ s.size) : Fit s Span a (item s a) := by
  refine (chr_fit ha).on fun lo a1 h1 h2 h3 => ?_
  split
  · rename_i hp
    have hlt := pk_lt 45 (by decide) hp
    have := chr_fit (s := s) (a := a1 + 1) hlt
    unfold Rp.on
    match chr s (a1 + 1), this with
    | .error (e, p), h => exact h
    | .ok (hi, a2), h =>
      have h4 := h.1; have h5 := h.2.2
      dsimp only
      split
      · exact ⟨.inl rfl, hlt⟩
      · refine ⟨by omega, h.2.1, ?_, h5⟩
        show lo ≤ hi
        omega
  · exact ⟨h1, h2, Nat.le_refl _, h3⟩
theorem item_ok {s : ByteArray} {a b : Nat} {x : Nat × Nat} (ha : a ≤ s.size) (h : item s a = .ok (x, b)) : a < b ∧ b ≤ s.size ∧ x.1 ≤ x.2 ∧ x.2 < 256 := by
  have := item_fit ha; rw [h] at this; exact this
/-- As Fit, but it may end where it began. -/
def Fit' (s : ByteArray) {α : Type} (a : Nat) (r : Re α) : Prop := match r with | .ok (_, b) => a ≤ b ∧ b ≤ s.size | .error (e, p) => (e = 6 ∨ e = 7) ∧ p ≤ s.size
theorem cls_fit {s : ByteArray} {not : Bool} : ∀ {f n : Nat} {p : Set} {a : Nat}, a ≤ s.size → Fit' s a (cls s not f n p a) := by
  intro f
  induction f with
  | zero => intro n p a ha; exact ⟨.inl rfl, ha⟩
  | succ f ih =>
    intro n p a ha
    rw [cls]
    split
    · exact ⟨Nat.le_refl _, ha⟩
    · have := item_fit ha
      unfold Rp.on
      match item s a, this with
      | .error (e, p), h => exact h
      | .ok (x, b), h =>
        have h1 := h.1
        have h2 := ih (n := n + 1) (p := joinTo p x.1 x.2) (a := b) h.2.1
        dsimp only
        match cls s not f (n + 1) (joinTo p x.1 x.2) b, h2 with
        | .error (e, p), h => exact h
        | .ok (x, b), h => exact ⟨by have := h.1; omega, h.2⟩
def Ok4 (_ : Nat) (x : List Nat) (_ : Nat) : Prop := Dm.Ok4 x ∧ x ≠ Dm.zero
theorem cls_at {s : ByteArray} {not : Bool} : ∀ {f n : Nat} {p : Set} {a : Nat} {q : Set} {b : Nat}, cls s not f n p a = .ok (q, b) → pk s b = 93 := by
  intro f
  induction f with
  | zero => intro n p a q b h; cases h
  | succ f ih =>
    intro n p a q b h
    rw [cls] at h
    split at h
    · rename_i h0
      cases h
      exact h0.1
    · unfold Rp.on at h
      split at h
      · cases h
      · exact ih h
theorem clsAt_fit {s : ByteArray} {a : Nat} (ha : a ≤ s.size) : Fit s Ok4 a (clsAt s a) := by
  unfold clsAt
  have key : ∀ (not : Bool) (f c : Nat), a ≤ c → c ≤ s.size → Fit s Ok4 a (Rp.on (cls s not f 0 (fun _ => false) c) (clsEnd not)) := by
    intro not f c hc hcs
    have h1 := cls_fit (s := s) (not := not) (f := f) (n := 0) (p := fun _ => false) (a := c) hcs
    unfold Rp.on
    match hr : cls s not f 0 (fun _ => false) c, h1 with
    | .error (e, p), h => exact h
    | .ok (q, b), h =>
      have h2 := pk_lt 93 (by decide) (cls_at hr)
      have h3 := h.1
      dsimp only
      unfold clsEnd
      split
      · exact ⟨.inl rfl, h.2⟩
      · rename_i hz
        exact ⟨by omega, by omega, Cs.ok_of _, hz⟩
  split
  · rename_i hp
    exact key _ _ _ (by omega) (pk_lt 94 (by decide) hp)
  · exact key _ _ _ (Nat.le_refl _) ha
/-- How large a tree may be. -/
def Big (a : Nat) (t : Rx) (b : Nat) : Prop := siz t + 1 ≤ 103 * (b - a)
theorem siz_pos (t : Rx) : 0 < siz t := by cases t; rw [siz_mk]; omega
theorem siz_two (k : Int) (a b : Rx) : siz (two k a b) = siz a + siz b + 1 := by unfold two; rw [siz_mk, sizs_cons, sizs_cons, sizs_nil]; omega
theorem siz_star (a : Rx) : siz (star a) = siz a + 1 := by unfold star; rw [siz_mk, sizs_cons, sizs_nil]
theorem siz_empty : siz empty = 1 := rfl
theorem siz_none : siz none_ = 1 := rfl
theorem siz_byte (c : List Nat) : siz (byte c) = 1 := rfl
theorem siz_plus (t : Rx) : siz (plus t) ≤ siz t + 102 := by
  unfold plus
  rw [siz_two, siz_star]
  split
  · omega
  · rw [siz_empty]; omega
theorem siz_quest (t : Rx) : siz (quest t) = siz t + 2 := by unfold quest; rw [siz_two, siz_empty]
theorem repL_fit {s : ByteArray} {a : Nat} : ∀ {f : Nat} {t : Rx} {b : Nat}, a < b → b ≤ s.size → Big a t b → Fit s Big a (repL s f t b) := by
  intro f
  induction f with
  | zero => intro t b _ hb _; exact ⟨.inl rfl, hb⟩
  | succ f ih =>
    intro t b h1 h2 h3
    unfold Big at h3
    rw [repL]
    split
    · rename_i hp
      have := pk_lt 42 (by decide) hp
      refine ih (by omega) (by omega) ?_
      unfold Big
      rw [siz_star]
      omega
    · split
      · rename_i hp
        have := pk_lt 43 (by decide) hp
        refine ih (by omega) (by omega) ?_
        unfold Big
        have := siz_plus t
        omega
      · split
        · rename_i hp
          have := pk_lt 63 (by decide) hp
          refine ih (by omega) (by omega) ?_
          unfold Big
          rw [siz_quest]
          omega
        · exact ⟨h1, h2, h3⟩
def Fits (s : ByteArray) (r : Nat → Re Rx) : Prop := ∀ a, a ≤ s.size → Fit s Big a (r a)
theorem rep_fit {s : ByteArray} {r : Nat → Re Rx} (h : Fits s r) : Fits s (rep s r) := fun a ha => (h a ha).on fun t b h1 h2 h3 => repL_fit h1 h2 h3
theorem catL_fit {s : ByteArray} {r : Nat → Re Rx} (h : Fits s r) {a : Nat} : ∀ {f : Nat} {t : Rx} {b : Nat}, a < b → b ≤ s.size → Big a t b → Fit s Big a (catL s r f t b) := by
  intro f
  induction f with
  | zero => intro t b _ hb _; exact ⟨.inl rfl, hb⟩
  | succ f ih =>
    intro t b h1 h2 h3
    rw [catL]
    split
    · exact ⟨h1, h2, h3⟩
    · have h4 := h b h2
      unfold Rp.on
      match r b, h4 with
      | .error (e, p), h => exact h
      | .ok (u, c), h =>
        have h5 := h.1
        refine ih (by omega) h.2.1 ?_
        have h6 := h.2.2
        unfold Big at h3 h6 ⊢
        rw [siz_two]
        omega
theorem cat_fit {s : ByteArray} {r : Nat → Re Rx} (h : Fits s r) : Fits s (cat s r) := fun a ha => (h a ha).on fun t b h1 h2 h3 => catL_fit h h1 h2 h3
theorem altL_fit {s : ByteArray} {r : Nat → Re Rx} (h : Fits s r) {a : Nat} : ∀ {f : Nat} {t : Rx} {b : Nat}, a < b → b ≤ s.size → Big a t b → Fit s Big a (altL s r f t b) := by
  intro f
  induction f with
  | zero => intro t b _ hb _; exact ⟨.inl rfl, hb⟩
  | succ f ih =>
    intro t b h1 h2 h3
    rw [altL]
    split
    · rename_i hp
      have h4 := h (b + 1) (pk_lt 124 (by decide) hp)
      unfold Rp.on
      match r (b + 1), h4 with
      | .error (e, p), h => exact h
      | .ok (u, c), h =>
        have h5 := h.1
        refine ih (by omega) h.2.1 ?_
        have h6 := h.2.2
        unfold Big at h3 h6 ⊢
        rw [siz_two]
        omega
    · exact ⟨h1, h2, h3⟩
theorem alter_fit {s : ByteArray} {r : Nat → Re Rx} (h : Fits s r) : Fits s (alter s r) := fun a ha => (h a ha).on fun t b h1 h2 h3 => altL_fit h h1 h2 h3
theorem brk_fit {s : ByteArray} {r : Nat → Re Rx} (h : Fits s r) {a : Nat} (ha : a < s.size) : Fit s Big a (brk s r a) := by
  unfold brk
  split
  · rename_i hp
    have := pk_lt 41 (by decide) hp
    refine ⟨by omega, by omega, ?_⟩
    unfold Big
    rw [siz_empty]
    omega
  · have h4 := h (a + 1) ha
    unfold Rp.on
    match r (a + 1), h4 with
    | .error (e, p), h => exact h
    | .ok (u, c), h =>
      have h5 := h.1
      have h6 := h.2.2
      have h7 := h.2.1
      dsimp only
      unfold Big at h6
      split
      · rename_i hp
        have := pk_lt 41 (by decide) hp
        refine ⟨by omega, by omega, ?_⟩
        unfold Big
        omega
      · exact ⟨.inl rfl, h7⟩
theorem atom_fit {s : ByteArray} {br : Nat → Re Rx} (h : ∀ a, a < s.size → Fit s Big a (br a)) : Fits s (atom s br) := by
  intro a ha
  unfold atom
  split
  · rename_i hp
    exact h a (pk_lt 40 (by decide) hp)
  · split
    · rename_i hp
      have hlt := pk_lt 91 (by decide) hp
      split
      · rename_i hp
        have := pk_lt 93 (by decide) hp
        refine ⟨by omega, by omega, ?_⟩
        unfold Big
        rw [siz_none]
        omega
      · have h4 := clsAt_fit (s := s) (a := a + 1) hlt
        unfold Rp.on
        match clsAt s (a + 1), h4 with
        | .error (e, p), h => exact h
        | .ok (u, c), h =>
          have h5 := h.1
          refine ⟨by omega, h.2.1, ?_⟩
          unfold Big
          rw [siz_byte]
          omega
    · split
      · rename_i hp
        have := pk_lt 46 (by decide) hp
        refine ⟨by omega, by omega, ?_⟩
        unfold Big
        rw [siz_byte]
        omega
      · refine (chr_fit ha).on fun x b h1 h2 h3 => ⟨h1, h2, ?_⟩
        unfold Big
        rw [siz_byte]
        omega
theorem altOf_fit {s : ByteArray} {br : Nat → Re Rx} (h : ∀ a, a < s.size → Fit s Big a (br a)) : Fits s (altOf s br) := alter_fit (cat_fit (rep_fit (atom_fit h)))
theorem brkD_fit {s : ByteArray} : ∀ d a, a < s.size → Fit s Big a (brkD s d a) := by
  intro d
  induction d with
  | zero => intro a ha; exact ⟨.inr rfl, by omega⟩
  | succ d ih => intro a ha; exact brk_fit (altOf_fit ih) ha
theorem altD_fit {s : ByteArray} (d : Nat) : Fits s (altD s d) := altOf_fit (brkD_fit d)
attribute [irreducible] siz sizs
end Rp
end Go.Proofs.Ytfelikfppjlcmaa

/-
  Small methods of package rex's reader: fail, is, take, digit, turned, char.
-/
namespace Go.Proofs.Ytfelikfppjlcmaa
set_option linter.unusedVariables false
set_option linter.unusedSimpArgs false
open Go.ChangeShapes Go.WideShapes Go.ChangeAt Go.RowKit

namespace Rp
/-- The reader: the text, where it is, how many brackets are open, what went wrong. -/
def rd (R : Nat) (s : ByteArray) (a op e : Int) : Asrt := aCel R 124 #[.string s, .int .i64 a, .int .i64 op, .int .i64 e]
def errOf (e x : Int) : Int := if e = 0 then x else e
theorem rdAt {w0 w : World} {R : Nat} {s : ByteArray} {a op e : Int} {μ : List Asrt} (h : St w0 w (rd R s a op e :: μ)) :
    w.cell? ⟨R, 0, none⟩ = some (.string s) ∧ w.cell? ⟨R, 1, none⟩ = some (.int .i64 a) ∧ w.cell? ⟨R, 2, none⟩ = some (.int .i64 op) ∧ w.cell? ⟨R, 3, none⟩ = some (.int .i64 e) ∧ w.frozen? ⟨R, 1, none⟩ = false ∧ w.frozen? ⟨R, 2, none⟩ = false ∧ w.frozen? ⟨R, 3, none⟩ = false := by
  have := h.cel4
  exact ⟨this.1, this.2.1, this.2.2.1, this.2.2.2.1, this.2.2.2.2.2.1, this.2.2.2.2.2.2.1, this.2.2.2.2.2.2.2⟩
theorem setAtR {w0 w : World} {R : Nat} {s : ByteArray} {a op e : Int} {μ : List Asrt} (h : St w0 w (rd R s a op e :: μ)) (x : Int) : St w0 (w.setCell ⟨R, 1, none⟩ (.int .i64 x)) (rd R s x op e :: μ) := h.setCel 1 _
theorem setOp {w0 w : World} {R : Nat} {s : ByteArray} {a op e : Int} {μ : List Asrt} (h : St w0 w (rd R s a op e :: μ)) (x : Int) : St w0 (w.setCell ⟨R, 2, none⟩ (.int .i64 x)) (rd R s a x e :: μ) := h.setCel 2 _
theorem setE {w0 w : World} {R : Nat} {s : ByteArray} {a op e : Int} {μ : List Asrt} (h : St w0 w (rd R s a op e :: μ)) (x : Int) : St w0 (w.setCell ⟨R, 3, none⟩ (.int .i64 x)) (rd R s a op x :: μ) := h.setCel 3 _
def isB (s : ByteArray) (a : Nat) (e b : Int) : Bool := decide (e = 0) && decide (pk s a = b)
theorem isB_bad {s : ByteArray} {a : Nat} {e b : Int} (h : e ≠ 0) : isB s a e b = false := by unfold isB; rw [decide_eq_false h]; rfl
theorem isB_ok {s : ByteArray} {a : Nat} {b : Int} : isB s a 0 b = decide (pk s a = b) := by unfold isB; rw [decide_eq_true rfl]; rfl
end Rp

set_option maxRecDepth 100000 in
theorem rpFail_any (s : ByteArray) (a op e x : Int) (R : Nat) (w0 w : World) (μ : List Asrt) (h : St w0 w (Rp.rd R s a op e :: μ)) :
    Calls Try.prog 53 #[.pointer (some ⟨R, 0, none⟩), .int .i64 x] w fun ex w' => ex = .returned (.tuple #[]) ∧ St w0 w' (Rp.rd R s a op (Rp.errOf e x) :: μ) := by
  obtain ⟨c0, c1, c2, c3, f1, f2, f3⟩ := Rp.rdAt h
  have HST := Lib.hid h
  unfold Rp.errOf
  by_cases he : e = 0
  · have HS2 := Lib.hid (Rp.setE h x)
    rw [if_pos he]
    subst he
    clear h HST
    go_enter Try.func53, Try.ntmps53
    go_wp2
    go_end0
    exact ⟨rfl, HS2.out⟩
  · rw [if_neg he]
    have hb : (e == 0) = false := by rw [beq_eq_false_iff_ne]; exact he
    clear h he
    go_enter Try.func53, Try.ntmps53
    go_wp2
    go_end0
    exact ⟨rfl, HST.out⟩

set_option maxRecDepth 100000 in
theorem rpIs_any (s : ByteArray) (a : Nat) (op e b : Int) (R : Nat) (w0 w : World) (μ : List Asrt) (h : St w0 w (Rp.rd R s a op e :: μ)) (hb : 0 ≤ b) (ha : a ≤ s.size) (hs : s.size ≤ 300) :
    Calls Try.prog 157 #[.pointer (some ⟨R, 0, none⟩), .int .u8 b] w fun ex w' => ex = .returned (.bool (Rp.isB s a e b)) ∧ St w0 w' (Rp.rd R s a op e :: μ) := by
  obtain ⟨c0, c1, c2, c3, f1, f2, f3⟩ := Rp.rdAt h
  have HST := Lib.hid (fun n => h.drewN n)
  clear h
  by_cases he : e = 0
  · subst he
    rw [Rp.isB_ok]
    by_cases hl : a < s.size
    · rw [Rp.pk_in hl]
      have hlt : (a : Int) < s.size := by omega
      have hlt2 : decide ((a : Int) < s.size) = true := decide_eq_true hlt
      have ha0 : (0 : Int) ≤ a := by omega
      have hg := Rp.byt_get s a hl
      obtain ⟨z, hz⟩ : ∃ z, (Rp.byt s a : Int) = z := ⟨_, rfl⟩
      have hg2 : ((s[a]'hl).toNat : Int) = z := by rw [hg]; exact hz
      rw [hz]
      have hzb : decide (z = b) = (z == b) := by rw [Bool.eq_iff_iff]; simp
      rw [hzb]
      clear hg hz hzb
      go_enter Try.func157, Try.ntmps157
      go_wp2
      go_quiet (fail)
      have HS := HST.out nq
      go_wp2
      go_ret
      exact ⟨rfl, HS⟩
    · rw [Rp.pk_out hl]
      have hlt2 : decide ((a : Int) < s.size) = false := decide_eq_false (by omega)
      rw [show decide ((-1 : Int) = b) = false from decide_eq_false (by omega)]
      go_enter Try.func157, Try.ntmps157
      go_wp2
      go_quiet (fail)
      have HS := HST.out nq
      go_wp2
      go_ret
      exact ⟨rfl, HS⟩
  · rw [Rp.isB_bad he]
    have hb : (e == 0) = false := by rw [beq_eq_false_iff_ne]; exact he
    go_enter Try.func157, Try.ntmps157
    go_wp2
    go_quiet (fail)
    have HS := HST.out nq
    go_wp2
    go_ret
    exact ⟨rfl, HS⟩

namespace Rp
def tk (s : ByteArray) (a : Nat) (e b : Int) : Nat := if isB s a e b = true then a + 1 else a
theorem tk_le {s : ByteArray} {a : Nat} {e b : Int} (ha : a ≤ s.size) (hb : 0 ≤ b) : tk s a e b ≤ s.size := by
  unfold tk
  split
  · rename_i h
    unfold isB at h
    rw [Bool.and_eq_true, decide_eq_true_iff, decide_eq_true_iff] at h
    exact pk_lt b hb h.2
  · exact ha
theorem tk_yes {s : ByteArray} {a : Nat} {e b : Int} (h : isB s a e b = true) : tk s a e b = a + 1 := if_pos h
theorem tk_no {s : ByteArray} {a : Nat} {e b : Int} (h : isB s a e b = false) : tk s a e b = a := if_neg (by rw [h]; decide)
theorem hexs_index : ∀ b, b < 256 → Lib.indexByte Rct.hexs.data.toList ((b : Nat) : Int).toNat.toUInt8 = match hx b with | some n => (n : Int) | none => -1 := by decide +kernel
theorem nts_index : ∀ b, b < 256 → Lib.indexByte [110, 116, 115] ((b : Nat) : Int).toNat.toUInt8 = if b = 110 then 0 else if b = 116 then 1 else if b = 115 then 2 else (-1 : Int) := by decide +kernel
theorem bar_index : ∀ b, b < 256 → Lib.indexByte [124, 41] ((b : Nat) : Int).toNat.toUInt8 = if b = 124 then 0 else if b = 41 then 1 else (-1 : Int) := by decide +kernel
end Rp

set_option maxRecDepth 100000 in
theorem rpTake_any (s : ByteArray) (a : Nat) (op e b : Int) (R : Nat) (w0 w : World) (μ : List Asrt) (h : St w0 w (Rp.rd R s a op e :: μ)) (hb : 0 ≤ b) (ha : a ≤ s.size) (hs : s.size ≤ 300) :
    Calls Try.prog 116 #[.pointer (some ⟨R, 0, none⟩), .int .u8 b] w fun ex w' => ex = .returned (.bool (Rp.isB s a e b)) ∧ St w0 w' (Rp.rd R s (Rp.tk s a e b : Nat) op e :: μ) := by
  have HC := Lib.hid (rpIs_any s a op e b R w0 w μ h hb ha hs)
  unfold Rp.tk
  have haw : IntKind.i64.wrap ((a : Int) + 1) = (a : Int) + 1 := IntWalk.i64_in _ (by omega)
  clear h
  obtain ⟨B, hB⟩ : ∃ B, Rp.isB s a e b = B := ⟨_, rfl⟩
  rw [hB] at HC ⊢
  clear hB
  cases B
  · rw [if_neg (by decide)]
    go_enter Try.func116, Try.ntmps116
    go_wp2_with (fail)
    go_at_call 157
    refine HC.out.mono ?_
    rintro ex w1 ⟨rfl, hst⟩
    go_wp2
    go_ret
    exact ⟨rfl, hst⟩
  · rw [if_pos rfl]
    go_enter Try.func116, Try.ntmps116
    go_wp2_with (fail)
    go_at_call 157
    refine HC.out.mono ?_
    rintro ex w1 ⟨rfl, hst⟩
    obtain ⟨c0, c1, c2, c3, f1, f2, f3⟩ := Rp.rdAt hst
    have HS := Lib.hid (Rp.setAtR hst ((a : Int) + 1))
    clear hst
    go_wp2
    go_ret
    exact ⟨rfl, by rw [Int.natCast_add]; exact HS.out⟩
end Go.Proofs.Ytfelikfppjlcmaa

/-
  digit, turned, char of package rex's reader.
-/
namespace Go.Proofs.Ytfelikfppjlcmaa
set_option linter.unusedVariables false
set_option linter.unusedSimpArgs false
open Go.ChangeShapes Go.WideShapes Go.ChangeAt Go.RowKit

namespace Rp
/-- What a method that reads a byte leaves. -/
def Left (R : Nat) (s : ByteArray) (op : Int) (w0 : World) (μ : List Asrt) (r : Re Nat) (ex : Ending) (w' : World) : Prop :=
  match r with
  | .ok (x, b) => ex = .returned (.int .u8 (x : Int)) ∧ St w0 w' (rd R s b op 0 :: μ)
  | .error (e, p) => (∃ v : Nat, v < 256 ∧ ex = .returned (.int .u8 (v : Int))) ∧ St w0 w' (rd R s p op e :: μ)
end Rp

set_option maxRecDepth 100000 in
theorem rpDigit_over (s : ByteArray) (a : Nat) (op e : Int) (he : e ≠ 0) (R : Nat) (w0 w : World) (μ : List Asrt) (h : St w0 w (Rp.rd R s a op e :: μ)) :
    Calls Try.prog 230 #[.pointer (some ⟨R, 0, none⟩)] w fun ex w' => ex = .returned (.int .u8 0) ∧ St w0 w' (Rp.rd R s a op e :: μ) := by
  obtain ⟨c0, c1, c2, c3, f1, f2, f3⟩ := Rp.rdAt h
  have HST := Lib.hid (fun n => h.drewN n)
  have HF := Lib.hid (fun w' h' => rpFail_any s a op e 6 R w0 w' μ h')
  rw [show Rp.errOf e 6 = e from if_neg he] at HF
  have hb : (e == 0) = false := by rw [beq_eq_false_iff_ne]; exact he
  clear h he
  go_enter Try.func230, Try.ntmps230
  go_wp2
  go_quiet (fail)
  have HS := Lib.hid (HST.out nq)
  go_wp2_with (fail)
  go_at_call 53
  refine (HF.out _ HS.out).mono ?_
  rintro ex w1 ⟨rfl, hst⟩
  go_wp2
  go_ret
  exact ⟨rfl, hst⟩

set_option maxRecDepth 100000 in
set_option maxHeartbeats 1600000 in
theorem rpDigit_ok (s : ByteArray) (a n : Nat) (op : Int) (hd : Rp.dig s a = some n) (hs : s.size ≤ 300) (R : Nat) (w0 w : World) (μ : List Asrt) (h : St w0 w (Rp.rd R s a op 0 :: μ)) :
    Calls Try.prog 230 #[.pointer (some ⟨R, 0, none⟩)] w fun ex w' => ex = .returned (.int .u8 (n : Int)) ∧ St w0 w' (Rp.rd R s (a + 1 : Nat) op 0 :: μ) := by
  obtain ⟨hl, hn⟩ := Rp.dig_lt hd
  rw [Rp.dig, if_pos hl] at hd
  have hix := Rp.hexs_index _ (Rp.byt_lt s a)
  rw [hd] at hix
  obtain ⟨c0, c1, c2, c3, f1, f2, f3⟩ := Rp.rdAt h
  have HST := Lib.hid (fun n => h.drewN n)
  have hlt : (a : Int) < s.size := by omega
  have hlt2 : decide ((a : Int) < s.size) = true := decide_eq_true hlt
  have ha0 : (0 : Int) ≤ a := by omega
  have hg : ((s[a]'hl).toNat : Int) = (Rp.byt s a : Int) := by rw [Rp.byt_get]
  have HX := Lib.hid (fun w' => strIndex_any Rct.hexs (Rp.byt s a : Int) w')
  rw [show Lib.indexByte Rct.hexs.data.toList (Rp.byt s a : Int).toNat.toUInt8 = (n : Int) from hix] at HX
  have haw : IntKind.i64.wrap ((a : Int) + 1) = (a : Int) + 1 := IntWalk.i64_in _ (by omega)
  have hnw : IntKind.u8.wrap (n : Int) = (n : Int) := by rw [IntKind.wrap_u8]; omega
  have hn0 : (0 : Int) ≤ (n : Int) := by omega
  generalize (Rp.byt s a : Int) = z at *
  clear h hd hix hn
  go_enter Try.func230, Try.ntmps230
  go_wp2
  go_quiet (fail)
  have HS := Lib.hid (HST.out nq)
  clear HST c0 c1 c2 c3 f1 f2 f3
  generalize World.drewN _ _ = w1 at *
  obtain ⟨c0, c1, c2, c3, f1, f2, f3⟩ := Rp.rdAt HS.out
  go_wp2
  go_quiet ((go_at_call 180; exact Calls.quiet_of_same (HX.out _)))
  have HS := Lib.hid (HS.out.drewN nq)
  generalize World.drewN _ _ = w2 at *
  clear c0 c1 c2 c3 f1 f2 f3
  obtain ⟨c0, c1, c2, c3, f1, f2, f3⟩ := Rp.rdAt HS.out
  have HE := Lib.hid (Rp.setAtR HS.out ((a : Int) + 1))
  go_wp2
  go_ret
  exact ⟨rfl, by rw [Int.natCast_add]; exact HE.out⟩

set_option maxRecDepth 100000 in
set_option maxHeartbeats 1600000 in
theorem rpDigit_bad (s : ByteArray) (a : Nat) (op : Int) (hd : Rp.dig s a = none) (ha : a ≤ s.size) (hs : s.size ≤ 300) (R : Nat) (w0 w : World) (μ : List Asrt) (h : St w0 w (Rp.rd R s a op 0 :: μ)) :
    Calls Try.prog 230 #[.pointer (some ⟨R, 0, none⟩)] w fun ex w' => ex = .returned (.int .u8 0) ∧ St w0 w' (Rp.rd R s a op 6 :: μ) := by
  obtain ⟨c0, c1, c2, c3, f1, f2, f3⟩ := Rp.rdAt h
  have HST := Lib.hid (fun n => h.drewN n)
  have HF := Lib.hid (fun w' h' => rpFail_any s a op 0 6 R w0 w' μ h')
  rw [show Rp.errOf 0 6 = 6 from rfl] at HF
  by_cases hl : a < s.size
  · rw [Rp.dig, if_pos hl] at hd
    have hix := Rp.hexs_index _ (Rp.byt_lt s a)
    rw [hd] at hix
    have hlt : (a : Int) < s.size := by omega
    have hlt2 : decide ((a : Int) < s.size) = true := decide_eq_true hlt
    have ha0 : (0 : Int) ≤ a := by omega
    have hg : ((s[a]'hl).toNat : Int) = (Rp.byt s a : Int) := by rw [Rp.byt_get]
    have HX := Lib.hid (fun w' => strIndex_any Rct.hexs (Rp.byt s a : Int) w')
    rw [show Lib.indexByte Rct.hexs.data.toList (Rp.byt s a : Int).toNat.toUInt8 = -1 from hix] at HX
    generalize (Rp.byt s a : Int) = z at *
    clear h hd hix
    go_enter Try.func230, Try.ntmps230
    go_wp2
    go_quiet (fail)
    have HS := Lib.hid (HST.out nq)
    clear HST c0 c1 c2 c3 f1 f2 f3
    generalize World.drewN _ _ = w1 at *
    obtain ⟨c0, c1, c2, c3, f1, f2, f3⟩ := Rp.rdAt HS.out
    go_wp2
    go_quiet ((go_at_call 180; exact Calls.quiet_of_same (HX.out _)))
    have HS := Lib.hid (HS.out.drewN nq)
    generalize World.drewN _ _ = w2 at *
    clear c0 c1 c2 c3 f1 f2 f3
    go_wp2_with (fail)
    go_at_call 53
    refine (HF.out _ HS.out).mono ?_
    rintro ex w1 ⟨rfl, hst⟩
    go_wp2
    go_ret
    exact ⟨rfl, hst⟩
  · have hlt2 : decide ((a : Int) < s.size) = false := decide_eq_false (by omega)
    clear h hd
    go_enter Try.func230, Try.ntmps230
    go_wp2
    go_quiet (fail)
    have HS := Lib.hid (HST.out nq)
    go_wp2_with (fail)
    go_at_call 53
    refine (HF.out _ HS.out).mono ?_
    rintro ex w1 ⟨rfl, hst⟩
    go_wp2
    go_ret
    exact ⟨rfl, hst⟩

namespace Rp
theorem or_hex : ∀ h : Nat, h < 16 → ∀ l : Nat, l < 16 → bits .or .u8 ((h : Int) * 16) (l : Int) = ((16 * h + l : Nat) : Int) := by decide +kernel
theorem or_zero : ∀ h : Nat, h < 16 → bits .or .u8 ((h : Int) * 16) 0 = ((16 * h : Nat) : Int) := by decide +kernel
theorem turned_end {s : ByteArray} {a : Nat} (h : ¬ a < s.size) : turned s a = .error (6, a) := by unfold turned; rw [if_neg h]
theorem turned_in {s : ByteArray} {a : Nat} (h : a < s.size) : turned s a = if byt s a = 110 then .ok (10, a + 1) else if byt s a = 116 then .ok (9, a + 1) else if byt s a = 115 then .ok (32, a + 1)
    else if byt s a = 120 then hex s (a + 1) else if Rct.isSign (byt s a) = true then .ok (byt s a, a + 1) else .error (6, a) := by unfold turned; rw [if_pos h]
theorem sign_index {b : Nat} (hb : b < 256) {B : Bool} (h : Rct.isSign b = B) : ∃ v : Int, Lib.indexByte Rct.signs.data.toList ((b : Nat) : Int).toNat.toUInt8 = v ∧ decide (0 ≤ v) = B := ⟨_, rfl, (Rct.isSign_of hb).trans h⟩
end Rp
end Go.Proofs.Ytfelikfppjlcmaa

/-
  turned, char of package rex's reader.
-/
namespace Go.Proofs.Ytfelikfppjlcmaa
set_option linter.unusedVariables false
set_option linter.unusedSimpArgs false
open Go.ChangeShapes Go.WideShapes Go.ChangeAt Go.RowKit

theorem Rp.nc (a : Nat) : ((a + 1 : Nat) : Int) = (a : Int) + 1 := by omega

set_option maxRecDepth 100000 in
set_option maxHeartbeats 1600000 in
theorem rpTurned_any (s : ByteArray) (a : Nat) (op : Int) (ha : a ≤ s.size) (hs : s.size ≤ 300) (R : Nat) (w0 w : World) (μ : List Asrt) (h : St w0 w (Rp.rd R s a op 0 :: μ)) :
    Calls Try.prog 223 #[.pointer (some ⟨R, 0, none⟩)] w (Rp.Left R s op w0 μ (Rp.turned s a)) := by
  obtain ⟨c0, c1, c2, c3, f1, f2, f3⟩ := Rp.rdAt h
  have HST := Lib.hid (fun n => h.drewN n)
  have haw : IntKind.i64.wrap ((a : Int) + 1) = (a : Int) + 1 := IntWalk.i64_in _ (by omega)
  by_cases hl : a < s.size
  · rw [Rp.turned_in hl]
    have hlt : (a : Int) < s.size := by omega
    have hne : ((a : Int) == (s.size : Int)) = false := by rw [beq_eq_false_iff_ne]; omega
    have ha0 : (0 : Int) ≤ a := by omega
    have hg : ((s[a]'hl).toNat : Int) = (Rp.byt s a : Int) := by rw [Rp.byt_get]
    have hb := Rp.byt_lt s a
    obtain ⟨z, hz⟩ : ∃ z, Rp.byt s a = z := ⟨_, rfl⟩
    rw [hz] at hg hb ⊢
    have HX := Lib.hid (fun w' => strIndex_any ⟨#[110, 116, 115]⟩ (z : Int) w')
    have HNT := Lib.hid (Rp.nts_index z hb)
    have HF := Lib.hid (fun w' h' => rpFail_any s a op 0 6 R w0 w' μ h')
    rw [show Rp.errOf 0 6 = 6 from rfl] at HF
    clear hz
    obtain ⟨r, hr⟩ : ∃ r, (if z = 110 then .ok (10, a + 1) else if z = 116 then .ok (9, a + 1) else if z = 115 then .ok (32, a + 1)
      else if z = 120 then Rp.hex s (a + 1) else if Rct.isSign z = true then .ok (z, a + 1) else .error (6, a) : Rp.Re Nat) = r := ⟨_, rfl⟩
    rw [hr]
    by_cases k1 : z = 110 ∨ z = 116 ∨ z = 115
    · have hv : ∃ (j : Nat) (X : Int) (hj : j < (⟨#[10, 9, 32]⟩ : ByteArray).size), Lib.indexByte [110, 116, 115] ((z : Nat) : Int).toNat.toUInt8 = (j : Int) ∧ r = .ok (X.toNat, a + 1) ∧ ((((⟨#[10, 9, 32]⟩ : ByteArray)[j]'hj).toNat : Nat) : Int) = X := by
        rcases k1 with rfl | rfl | rfl
        · exact ⟨0, 10, by decide, HNT.out, hr.symm, rfl⟩
        · exact ⟨1, 9, by decide, HNT.out, hr.symm, rfl⟩
        · exact ⟨2, 32, by decide, HNT.out, hr.symm, rfl⟩
      obtain ⟨j, X, hjs, hj, rfl, hX⟩ := hv
      have HX : Hid _ := Lib.hid (fun w' => by have := HX.out w'; rw [hj] at this; exact this)
      have hj0 : (0 : Int) ≤ (j : Int) := by omega
      have hjI : (j : Int) < 3 := by have : j < 3 := hjs; omega
      have hXn : ((X.toNat : Nat) : Int) = X := by rw [← hX]; simp
      have HXN := Lib.hid hXn
      show Calls _ _ _ _ fun ex w' => ex = .returned (.int .u8 (X.toNat : Int)) ∧ St w0 w' (Rp.rd R s (a + 1 : Nat) op 0 :: μ)
      rw [hXn]
      clear h k1 hj hr hXn HNT
      generalize (z : Int) = zi at *
      go_enter Try.func223, Try.ntmps223
      go_wp2
      go_quiet (fail)
      have HS := Lib.hid (HST.out nq)
      clear HST c0 c1 c2 c3 f1 f2 f3
      generalize World.drewN _ _ = w1 at *
      obtain ⟨c0, c1, c2, c3, f1, f2, f3⟩ := Rp.rdAt HS.out
      go_wp2
      go_quiet (fail)
      have HS := Lib.hid (HS.out.drewN nq)
      generalize World.drewN _ _ = w2 at *
      clear c0 c1 c2 c3 f1 f2 f3
      obtain ⟨c0, c1, c2, c3, f1, f2, f3⟩ := Rp.rdAt HS.out
      have HE := Lib.hid (Rp.setAtR HS.out ((a : Int) + 1))
      go_wp2_with (fail)
      go_at_call 180
      refine (HX.out _).mono ?_
      rintro ex w3 ⟨rfl, rfl⟩
      go_wp2
      go_ret
      exact ⟨rfl, by rw [Rp.nc]; exact HE.out⟩
    have HX : Hid _ := Lib.hid (fun w' => by have := HX.out w'; rw [show Lib.indexByte [110, 116, 115] ((z : Nat) : Int).toNat.toUInt8 = -1 from by rw [HNT.out, if_neg (fun e => k1 (.inl e)), if_neg (fun e => k1 (.inr (.inl e))), if_neg (fun e => k1 (.inr (.inr e)))]] at this; exact this)
    rw [if_neg (fun e => k1 (.inl e)), if_neg (fun e => k1 (.inr (.inl e))), if_neg (fun e => k1 (.inr (.inr e)))] at hr
    by_cases k2 : z = 120
    · rw [if_pos k2] at hr
      have hzb : ((z : Int) == 120) = true := by rw [beq_iff_eq]; omega
      have HE1 := Lib.hid (fun w' h' => Rp.setAtR (w0 := w0) (w := w') (R := R) (s := s) (a := a) (op := op) (e := 0) (μ := μ) h' ((a : Int) + 1))
      have HRR := Lib.hid hr
      have HHEX := Lib.hid (show Rp.hex s (a + 1) = _ from rfl)
      unfold Rp.hex at hr
      cases hd : Rp.dig s (a + 1) with
      | none =>
        rw [hd] at hr
        simp only at hr
        subst hr
        have HD1 := Lib.hid (fun w' h' => rpDigit_bad s (a + 1) op hd (by omega) hs R w0 w' μ h')
        have HD2 := Lib.hid (fun w' h' => rpDigit_over s (a + 1) op 6 (by decide) R w0 w' μ h')
        show Calls _ _ _ _ fun ex w' => (∃ v : Nat, v < 256 ∧ ex = .returned (.int .u8 (v : Int))) ∧ St w0 w' (Rp.rd R s (a + 1 : Nat) op 6 :: μ)
        rw [Rp.nc] at HD1 HD2 ⊢
        clear h k1 k2 hd HNT HRR HHEX
        generalize (z : Int) = zi at *
        go_enter Try.func223, Try.ntmps223
        go_wp2
        go_quiet (fail)
        have HS := Lib.hid (HST.out nq)
        clear HST c0 c1 c2 c3 f1 f2 f3
        generalize World.drewN _ _ = w1 at *
        obtain ⟨c0, c1, c2, c3, f1, f2, f3⟩ := Rp.rdAt HS.out
        go_wp2
        go_quiet (fail)
        have HS := Lib.hid (HS.out.drewN nq)
        generalize World.drewN _ _ = w2 at *
        clear c0 c1 c2 c3 f1 f2 f3
        obtain ⟨c0, c1, c2, c3, f1, f2, f3⟩ := Rp.rdAt HS.out
        go_wp2_with (fail)
        go_at_call 180
        refine (HX.out _).mono ?_
        rintro ex w3 ⟨rfl, rfl⟩
        have HS := Lib.hid (HE1.out _ HS.out)
        go_wp2_with (fail)
        go_at_call 230
        refine (HD1.out _ HS.out).mono ?_
        rintro ex w4 ⟨rfl, hst⟩
        go_wp2_with (fail)
        go_at_call 230
        refine (HD2.out _ hst).mono ?_
        rintro ex w4 ⟨rfl, hst⟩
        go_wp2
        go_ret
        exact ⟨⟨0, by decide, rfl⟩, hst⟩
      | some h1 =>
        rw [hd] at hr
        simp only at hr
        have hh := Rp.dig_lt hd
        cases hd2 : Rp.dig s (a + 1 + 1) with
        | none =>
          rw [hd2] at hr
          simp only at hr
          subst hr
          have HD1 := Lib.hid (fun w' h' => rpDigit_ok s (a + 1) h1 op hd hs R w0 w' μ h')
          have HD2 := Lib.hid (fun w' h' => rpDigit_bad s (a + 1 + 1) op hd2 (by omega) hs R w0 w' μ h')
          show Calls _ _ _ _ fun ex w' => (∃ v : Nat, v < 256 ∧ ex = .returned (.int .u8 (v : Int))) ∧ St w0 w' (Rp.rd R s (a + 1 + 1 : Nat) op 6 :: μ)
          rw [Rp.nc, Rp.nc] at HD1 HD2 ⊢
          have HOR := Lib.hid (Rp.or_zero h1 hh.2)
          have hh16 : (h1 : Int) < 16 := by omega
          clear h k1 k2 hd hd2 HNT HRR HHEX hh
          generalize (z : Int) = zi at *
          go_enter Try.func223, Try.ntmps223
          go_wp2
          go_quiet (fail)
          have HS := Lib.hid (HST.out nq)
          clear HST c0 c1 c2 c3 f1 f2 f3
          generalize World.drewN _ _ = w1 at *
          obtain ⟨c0, c1, c2, c3, f1, f2, f3⟩ := Rp.rdAt HS.out
          go_wp2
          go_quiet (fail)
          have HS := Lib.hid (HS.out.drewN nq)
          generalize World.drewN _ _ = w2 at *
          clear c0 c1 c2 c3 f1 f2 f3
          obtain ⟨c0, c1, c2, c3, f1, f2, f3⟩ := Rp.rdAt HS.out
          go_wp2_with (fail)
          go_at_call 180
          refine (HX.out _).mono ?_
          rintro ex w3 ⟨rfl, rfl⟩
          have HS := Lib.hid (HE1.out _ HS.out)
          go_wp2_with (fail)
          go_at_call 230
          refine (HD1.out _ HS.out).mono ?_
          rintro ex w4 ⟨rfl, hst⟩
          go_wp2_with (fail)
          go_at_call 230
          refine (HD2.out _ hst).mono ?_
          rintro ex w4 ⟨rfl, hst⟩
          go_wp2
          go_ret
          exact ⟨⟨16 * h1, by omega, by rw [← HOR.out]; rfl⟩, hst⟩
        | some h2 =>
          have hh2 := Rp.dig_lt hd2
          rw [hd2] at hr
          simp only at hr
          subst hr
          have HD1 := Lib.hid (fun w' h' => rpDigit_ok s (a + 1) h1 op hd hs R w0 w' μ h')
          have HD2 := Lib.hid (fun w' h' => rpDigit_ok s (a + 1 + 1) h2 op hd2 hs R w0 w' μ h')
          show Calls _ _ _ _ fun ex w' => ex = .returned (.int .u8 ((16 * h1 + h2 : Nat) : Int)) ∧ St w0 w' (Rp.rd R s (a + 1 + 1 + 1 : Nat) op 0 :: μ)
          rw [Rp.nc, Rp.nc] at HD1 
          rw [Rp.nc, Rp.nc, Rp.nc] at HD2 
          rw [Rp.nc, Rp.nc, Rp.nc]
          have HOR := Lib.hid (Rp.or_hex h1 hh.2 h2 hh2.2)
          have hh16 : (h1 : Int) < 16 := by omega
          clear h k1 k2 hd hd2 HNT HRR HHEX hh hh2
          generalize (z : Int) = zi at *
          go_enter Try.func223, Try.ntmps223
          go_wp2
          go_quiet (fail)
          have HS := Lib.hid (HST.out nq)
          clear HST c0 c1 c2 c3 f1 f2 f3
          generalize World.drewN _ _ = w1 at *
          obtain ⟨c0, c1, c2, c3, f1, f2, f3⟩ := Rp.rdAt HS.out
          go_wp2
          go_quiet (fail)
          have HS := Lib.hid (HS.out.drewN nq)
          generalize World.drewN _ _ = w2 at *
          clear c0 c1 c2 c3 f1 f2 f3
          obtain ⟨c0, c1, c2, c3, f1, f2, f3⟩ := Rp.rdAt HS.out
          go_wp2_with (fail)
          go_at_call 180
          refine (HX.out _).mono ?_
          rintro ex w3 ⟨rfl, rfl⟩
          have HS := Lib.hid (HE1.out _ HS.out)
          go_wp2_with (fail)
          go_at_call 230
          refine (HD1.out _ HS.out).mono ?_
          rintro ex w4 ⟨rfl, hst⟩
          go_wp2_with (fail)
          go_at_call 230
          refine (HD2.out _ hst).mono ?_
          rintro ex w4 ⟨rfl, hst⟩
          go_wp2
          go_ret
          exact ⟨by rw [← HOR.out]; rfl, hst⟩
    · rw [if_neg k2] at hr
      have hzb : ((z : Int) == 120) = false := by rw [beq_eq_false_iff_ne]; omega
      cases hsg : Rct.isSign z with
      | true =>
        obtain ⟨V, hV, hVd⟩ := Rp.sign_index hb hsg
        rw [if_pos hsg] at hr
        subst hr
        have HY := Lib.hid (fun w' => strIndex_any Rct.signs (z : Int) w')
        rw [hV] at HY
        have hV0 : ¬ V < 0 := by simpa using hVd
        have HE1 := Lib.hid (fun w' h' => Rp.setAtR (w0 := w0) (w := w') (R := R) (s := s) (a := a) (op := op) (e := 0) (μ := μ) h' ((a : Int) + 1))
        show Calls _ _ _ _ fun ex w' => ex = .returned (.int .u8 (z : Int)) ∧ St w0 w' (Rp.rd R s (a + 1 : Nat) op 0 :: μ)
        rw [Rp.nc]
        clear h k1 k2 HNT hV hVd hsg hb
        generalize (z : Int) = zi at *
        go_enter Try.func223, Try.ntmps223
        go_wp2
        go_quiet (fail)
        have HS := Lib.hid (HST.out nq)
        clear HST c0 c1 c2 c3 f1 f2 f3
        generalize World.drewN _ _ = w1 at *
        obtain ⟨c0, c1, c2, c3, f1, f2, f3⟩ := Rp.rdAt HS.out
        go_wp2
        go_quiet (fail)
        have HS := Lib.hid (HS.out.drewN nq)
        generalize World.drewN _ _ = w2 at *
        clear c0 c1 c2 c3 f1 f2 f3
        obtain ⟨c0, c1, c2, c3, f1, f2, f3⟩ := Rp.rdAt HS.out
        go_wp2_with (fail)
        go_at_call 180
        refine (HX.out _).mono ?_
        rintro ex w3 ⟨rfl, rfl⟩
        go_wp2_with (fail)
        go_at_call 180
        refine (HY.out _).mono ?_
        rintro ex w4 ⟨rfl, rfl⟩
        have HS := Lib.hid (HE1.out _ HS.out)
        go_wp2
        go_ret
        exact ⟨rfl, HS.out⟩
      | false =>
        obtain ⟨V, hV, hVd⟩ := Rp.sign_index hb hsg
        rw [if_neg (by rw [hsg]; decide)] at hr
        subst hr
        have HY := Lib.hid (fun w' => strIndex_any Rct.signs (z : Int) w')
        rw [hV] at HY
        have hV0 : V < 0 := by simpa using hVd
        show Calls _ _ _ _ fun ex w' => (∃ v : Nat, v < 256 ∧ ex = .returned (.int .u8 (v : Int))) ∧ St w0 w' (Rp.rd R s a op 6 :: μ)
        clear h k1 k2 HNT hV hVd hsg hb
        generalize (z : Int) = zi at *
        go_enter Try.func223, Try.ntmps223
        go_wp2
        go_quiet (fail)
        have HS := Lib.hid (HST.out nq)
        clear HST c0 c1 c2 c3 f1 f2 f3
        generalize World.drewN _ _ = w1 at *
        obtain ⟨c0, c1, c2, c3, f1, f2, f3⟩ := Rp.rdAt HS.out
        go_wp2
        go_quiet (fail)
        have HS := Lib.hid (HS.out.drewN nq)
        generalize World.drewN _ _ = w2 at *
        clear c0 c1 c2 c3 f1 f2 f3
        obtain ⟨c0, c1, c2, c3, f1, f2, f3⟩ := Rp.rdAt HS.out
        go_wp2_with (fail)
        go_at_call 180
        refine (HX.out _).mono ?_
        rintro ex w3 ⟨rfl, rfl⟩
        go_wp2_with (fail)
        go_at_call 180
        refine (HY.out _).mono ?_
        rintro ex w4 ⟨rfl, rfl⟩
        go_wp2_with (fail)
        go_at_call 53
        refine (HF.out _ HS.out).mono ?_
        rintro ex w1 ⟨rfl, hst⟩
        go_wp2
        go_ret
        exact ⟨⟨0, by decide, rfl⟩, hst⟩
  · rw [Rp.turned_end hl]
    have he : ((a : Int) == (s.size : Int)) = true := by rw [beq_iff_eq]; omega
    have HF := Lib.hid (fun w' h' => rpFail_any s a op 0 6 R w0 w' μ h')
    rw [show Rp.errOf 0 6 = 6 from rfl] at HF
    clear h
    go_enter Try.func223, Try.ntmps223
    go_wp2
    go_quiet (fail)
    have HS := Lib.hid (HST.out nq)
    go_wp2_with (fail)
    go_at_call 53
    refine (HF.out _ HS.out).mono ?_
    rintro ex w1 ⟨rfl, hst⟩
    go_wp2
    go_ret
    exact ⟨⟨0, by decide, rfl⟩, hst⟩
end Go.Proofs.Ytfelikfppjlcmaa

/-
  char of package rex's reader.
-/
namespace Go.Proofs.Ytfelikfppjlcmaa
set_option linter.unusedVariables false
set_option linter.unusedSimpArgs false
open Go.ChangeShapes Go.WideShapes Go.ChangeAt Go.RowKit

set_option maxRecDepth 100000 in
set_option maxHeartbeats 1600000 in
theorem rpChar_any (s : ByteArray) (a : Nat) (op : Int) (ha : a ≤ s.size) (hs : s.size ≤ 300) (R : Nat) (w0 w : World) (μ : List Asrt) (h : St w0 w (Rp.rd R s a op 0 :: μ)) :
    Calls Try.prog 207 #[.pointer (some ⟨R, 0, none⟩)] w (Rp.Left R s op w0 μ (Rp.chr s a)) := by
  obtain ⟨c0, c1, c2, c3, f1, f2, f3⟩ := Rp.rdAt h
  have HST := Lib.hid (fun n => h.drewN n)
  have haw : IntKind.i64.wrap ((a : Int) + 1) = (a : Int) + 1 := IntWalk.i64_in _ (by omega)
  have HF := Lib.hid (fun w' h' => rpFail_any s a op 0 6 R w0 w' μ h')
  rw [show Rp.errOf 0 6 = 6 from rfl] at HF
  obtain ⟨r, hr⟩ : ∃ r, Rp.chr s a = r := ⟨_, rfl⟩
  rw [hr]
  unfold Rp.chr at hr
  by_cases hl : a < s.size
  · rw [if_pos hl] at hr
    have hlt : (a : Int) < s.size := by omega
    have hne : ((a : Int) == (s.size : Int)) = false := by rw [beq_eq_false_iff_ne]; omega
    have ha0 : (0 : Int) ≤ a := by omega
    have hg : ((s[a]'hl).toNat : Int) = (Rp.byt s a : Int) := by rw [Rp.byt_get]
    have hb := Rp.byt_lt s a
    obtain ⟨z, hz⟩ : ∃ z, Rp.byt s a = z := ⟨_, rfl⟩
    rw [hz] at hg hb hr
    clear hz
    by_cases k2 : z = 92
    · rw [if_pos k2] at hr
      subst hr
      have hzb : ((z : Int) == 92) = true := by rw [beq_iff_eq]; omega
      have HE1 := Lib.hid (fun w' h' => Rp.setAtR (w0 := w0) (w := w') (R := R) (s := s) (a := a) (op := op) (e := 0) (μ := μ) h' ((a : Int) + 1))
      have HT := Lib.hid (fun w' h' => rpTurned_any s (a + 1) op (by omega) hs R w0 w' μ h')
      rw [Rp.nc] at HT
      clear h k2 hb
      generalize (z : Int) = zi at *
      generalize Rp.turned s (a + 1) = r at *
      go_enter Try.func207, Try.ntmps207
      go_wp2
      go_quiet (fail)
      have HS := Lib.hid (HST.out nq)
      clear HST c0 c1 c2 c3 f1 f2 f3
      generalize World.drewN _ _ = w1 at *
      obtain ⟨c0, c1, c2, c3, f1, f2, f3⟩ := Rp.rdAt HS.out
      go_wp2
      go_quiet (fail)
      have HS := Lib.hid (HS.out.drewN nq)
      generalize World.drewN _ _ = w2 at *
      clear c0 c1 c2 c3 f1 f2 f3
      obtain ⟨c0, c1, c2, c3, f1, f2, f3⟩ := Rp.rdAt HS.out
      have HS := Lib.hid (HE1.out _ HS.out)
      go_wp2_with (fail)
      go_at_call 223
      refine (HT.out _ HS.out).mono ?_
      intro ex w4 hl
      match r, hl with
      | .ok (x, b), hl =>
        obtain ⟨rfl, hst⟩ := hl
        go_wp2
        go_ret
        exact ⟨rfl, hst⟩
      | .error (e, p), hl =>
        obtain ⟨⟨v, hv, rfl⟩, hst⟩ := hl
        have HV := Lib.hid hv
        clear hv
        go_wp2
        go_ret
        exact ⟨⟨v, HV.out, rfl⟩, hst⟩
    · rw [if_neg k2] at hr
      have hzb : ((z : Int) == 92) = false := by rw [beq_eq_false_iff_ne]; omega
      have HY := Lib.hid (fun w' => strIndex_any Rct.signs (z : Int) w')
      by_cases k3 : z < 33 ∨ 126 < z
      · rw [if_pos (by rcases k3 with h | h; exact .inl h; exact .inr (.inl h))] at hr
        subst hr
        show Calls _ _ _ _ fun ex w' => (∃ v : Nat, v < 256 ∧ ex = .returned (.int .u8 (v : Int))) ∧ St w0 w' (Rp.rd R s a op 6 :: μ)
        by_cases k4 : z < 33
        · have k4I : (z : Int) < 33 := by omega
          have k4J : decide ((z : Int) < 33) = true := decide_eq_true k4I
          clear h k2 k3 k4 hb
          generalize (z : Int) = zi at *
          go_enter Try.func207, Try.ntmps207
          go_wp2
          go_quiet (fail)
          have HS := Lib.hid (HST.out nq)
          clear HST c0 c1 c2 c3 f1 f2 f3
          generalize World.drewN _ _ = w1 at *
          obtain ⟨c0, c1, c2, c3, f1, f2, f3⟩ := Rp.rdAt HS.out
          go_wp2
          go_quiet (fail)
          have HS := Lib.hid (HS.out.drewN nq)
          generalize World.drewN _ _ = w2 at *
          clear c0 c1 c2 c3 f1 f2 f3
          obtain ⟨c0, c1, c2, c3, f1, f2, f3⟩ := Rp.rdAt HS.out
          go_wp2_with (fail)
          go_at_call 53
          refine (HF.out _ HS.out).mono ?_
          rintro ex w1 ⟨rfl, hst⟩
          go_wp2
          go_ret
          exact ⟨⟨0, by decide, rfl⟩, hst⟩
        · have k4I : ¬ (z : Int) < 33 := by omega
          have k4J : decide ((z : Int) < 33) = false := decide_eq_false k4I
          have k5I : 126 < (z : Int) := by omega
          have k5J : decide (126 < (z : Int)) = true := decide_eq_true k5I
          clear h k2 k3 k4 hb
          generalize (z : Int) = zi at *
          go_enter Try.func207, Try.ntmps207
          go_wp2
          go_quiet (fail)
          have HS := Lib.hid (HST.out nq)
          clear HST c0 c1 c2 c3 f1 f2 f3
          generalize World.drewN _ _ = w1 at *
          obtain ⟨c0, c1, c2, c3, f1, f2, f3⟩ := Rp.rdAt HS.out
          go_wp2
          go_quiet (fail)
          have HS := Lib.hid (HS.out.drewN nq)
          generalize World.drewN _ _ = w2 at *
          clear c0 c1 c2 c3 f1 f2 f3
          obtain ⟨c0, c1, c2, c3, f1, f2, f3⟩ := Rp.rdAt HS.out
          go_wp2_with (fail)
          go_at_call 53
          refine (HF.out _ HS.out).mono ?_
          rintro ex w1 ⟨rfl, hst⟩
          go_wp2
          go_ret
          exact ⟨⟨0, by decide, rfl⟩, hst⟩
      · have k4I : ¬ (z : Int) < 33 := by omega
        have k4J : decide ((z : Int) < 33) = false := decide_eq_false k4I
        have k5I : ¬ 126 < (z : Int) := by omega
        have k5J : decide (126 < (z : Int)) = false := decide_eq_false k5I
        cases hsg : Rct.isSign z with
        | true =>
          obtain ⟨V, hV, hVd⟩ := Rp.sign_index hb hsg
          rw [if_pos (Or.inr (Or.inr hsg))] at hr
          subst hr
          rw [hV] at HY
          have hV0 : 0 ≤ V := by simpa using hVd
          show Calls _ _ _ _ fun ex w' => (∃ v : Nat, v < 256 ∧ ex = .returned (.int .u8 (v : Int))) ∧ St w0 w' (Rp.rd R s a op 6 :: μ)
          clear h k2 k3 hV hsg hb
          generalize (z : Int) = zi at *
          go_enter Try.func207, Try.ntmps207
          go_wp2
          go_quiet (fail)
          have HS := Lib.hid (HST.out nq)
          clear HST c0 c1 c2 c3 f1 f2 f3
          generalize World.drewN _ _ = w1 at *
          obtain ⟨c0, c1, c2, c3, f1, f2, f3⟩ := Rp.rdAt HS.out
          go_wp2
          go_quiet (fail)
          have HS := Lib.hid (HS.out.drewN nq)
          generalize World.drewN _ _ = w2 at *
          clear c0 c1 c2 c3 f1 f2 f3
          obtain ⟨c0, c1, c2, c3, f1, f2, f3⟩ := Rp.rdAt HS.out
          go_wp2_with (fail)
          go_at_call 180
          refine (HY.out _).mono ?_
          rintro ex w3 ⟨rfl, rfl⟩
          go_wp2_with (fail)
          go_at_call 53
          refine (HF.out _ HS.out).mono ?_
          rintro ex w1 ⟨rfl, hst⟩
          go_wp2
          go_ret
          exact ⟨⟨0, by decide, rfl⟩, hst⟩
        | false =>
          obtain ⟨V, hV, hVd⟩ := Rp.sign_index hb hsg
          rw [if_neg (fun h => by rcases h with h | h | h; exact k3 (.inl h); exact k3 (.inr h); rw [hsg] at h; cases h)] at hr
          subst hr
          rw [hV] at HY
          have hV0 : ¬ 0 ≤ V := by simpa using hVd
          show Calls _ _ _ _ fun ex w' => ex = .returned (.int .u8 (z : Int)) ∧ St w0 w' (Rp.rd R s (a + 1 : Nat) op 0 :: μ)
          rw [Rp.nc]
          clear h k2 k3 hV hsg hb
          generalize (z : Int) = zi at *
          go_enter Try.func207, Try.ntmps207
          go_wp2
          go_quiet (fail)
          have HS := Lib.hid (HST.out nq)
          clear HST c0 c1 c2 c3 f1 f2 f3
          generalize World.drewN _ _ = w1 at *
          obtain ⟨c0, c1, c2, c3, f1, f2, f3⟩ := Rp.rdAt HS.out
          go_wp2
          go_quiet (fail)
          have HS := Lib.hid (HS.out.drewN nq)
          generalize World.drewN _ _ = w2 at *
          clear c0 c1 c2 c3 f1 f2 f3
          obtain ⟨c0, c1, c2, c3, f1, f2, f3⟩ := Rp.rdAt HS.out
          have HE := Lib.hid (Rp.setAtR HS.out ((a : Int) + 1))
          go_wp2_with (fail)
          go_at_call 180
          refine (HY.out _).mono ?_
          rintro ex w3 ⟨rfl, rfl⟩
          go_wp2
          go_ret
          exact ⟨rfl, HE.out⟩
  · rw [if_neg hl] at hr
    subst hr
    have he : ((a : Int) == (s.size : Int)) = true := by rw [beq_iff_eq]; omega
    show Calls _ _ _ _ fun ex w' => (∃ v : Nat, v < 256 ∧ ex = .returned (.int .u8 (v : Int))) ∧ St w0 w' (Rp.rd R s a op 6 :: μ)
    clear h
    go_enter Try.func207, Try.ntmps207
    go_wp2
    go_quiet (fail)
    have HS := Lib.hid (HST.out nq)
    go_wp2_with (fail)
    go_at_call 53
    refine (HF.out _ HS.out).mono ?_
    rintro ex w1 ⟨rfl, hst⟩
    go_wp2
    go_ret
    exact ⟨⟨0, by decide, rfl⟩, hst⟩
end Go.Proofs.Ytfelikfppjlcmaa

/-
  Range, Join, Meet, Not of package class; Where of the reference.
-/
namespace Go.Proofs.Ytfelikfppjlcmaa
set_option linter.unusedVariables false
set_option linter.unusedSimpArgs false
open Go.ChangeShapes Go.WideShapes Go.ChangeAt Go.RowKit

set_option maxRecDepth 100000 in
set_option maxHeartbeats 1600000 in
theorem clRange_any (lo hi : Int) (h1 : -9223372036854775808 ≤ lo) (h2 : lo ≤ 9223372036854775807) (h3 : -9223372036854775808 ≤ hi) (h4 : hi ≤ 9223372036854775807) (w : World) :
    Calls Try.prog 206 #[.int .i64 lo, .int .i64 hi] w fun e w' => e = .returned (Cs.clV (Cs.of fun x => decide (lo ≤ (x : Int) ∧ (x : Int) ≤ hi))) ∧ Below w.heap.size w w' := by
  have hst := ((St.init w).alloc (Cs.clA Dm.zero) 24).alloc (Cs.clA Dm.zero) 24
  simp only [World.size_alloc] at hst
  have HST := Lib.hid hst
  clear hst
  have hmx := fun (W : World) ts t => run_max_int2 (P := Try.prog) (w := W) ts t .i64 .i64 lo 0
  have hmn := fun (W : World) ts t => run_min_int2 (P := Try.prog) (w := W) ts t .i64 .i64 hi 255
  obtain ⟨m, hm, hm0, hm1, hm2⟩ : ∃ m, (if 0 > lo then 0 else lo) = m ∧ 0 ≤ m ∧ lo ≤ m ∧ m ≤ 9223372036854775807 ∧ (m = 0 ∨ m = lo) := by
    by_cases h : 0 > lo
    · exact ⟨0, by rw [if_pos h], by omega, by omega, by omega, .inl rfl⟩
    · exact ⟨lo, by rw [if_neg h], by omega, by omega, by omega, .inr rfl⟩
  obtain ⟨hm2, hm3⟩ := hm2
  obtain ⟨M, hM, hM0, hM1, hM2⟩ : ∃ M, (if 255 < hi then 255 else hi) = M ∧ M ≤ 255 ∧ M ≤ hi ∧ (M = 255 ∨ M = hi) := by
    by_cases h : 255 < hi
    · exact ⟨255, by rw [if_pos h], by omega, by omega, .inl rfl⟩
    · exact ⟨hi, by rw [if_neg h], by omega, by omega, .inr rfl⟩
  rw [hm] at hmx
  rw [hM] at hmn
  have HM3 := Lib.hid hm3; have HM2 := Lib.hid hM2
  clear hm hM hm3 hM2
  obtain ⟨Z, hZ⟩ : ∃ Z, (Cs.of fun x => decide (lo ≤ (x : Int) ∧ (x : Int) ≤ hi)) = Z := ⟨_, rfl⟩
  rw [hZ]
  have HZ := Lib.hid hZ
  clear hZ
  go_enter Try.func206, Try.ntmps206
  go_wp2_with (fail)
  go_loopg [6] (256 - m.toNat) (fun gz v6 wr => ∃ b : Nat, (b : Int) ≤ 9223372036854775807 ∧ gz = 256 - b ∧ m ≤ b ∧ v6 = .int .i64 b ∧ St w wr [aCel (w.heap.size + 1) 24 (Cs.clA (Cs.of fun x => decide (lo ≤ (x : Int) ∧ (x : Int) ≤ hi ∧ x < b))), aCel w.heap.size 24 (Cs.clA Dm.zero)])
  case atStart =>
    refine ⟨m.toNat, by omega, rfl, by omega, by rw [Int.toNat_of_nonneg hm0], ?_⟩
    rw [show (Cs.of fun x => decide (lo ≤ (x : Int) ∧ (x : Int) ≤ hi ∧ x < m.toNat)) = Dm.zero from by
      rw [← Cs.of_false]
      refine Cs.of_congr fun x hx => decide_eq_false ?_
      have := HM3.out
      omega]
    exact HST.out
  case round =>
    clear HST
    obtain ⟨b, hbb, hgz, hmb, rfl, hst⟩ := hrel
    have HGZ := Lib.hid hgz
    clear hgz
    by_cases hle : (b : Int) ≤ M
    · have hb : b < 256 := by omega
      have HP := Lib.hid (Cs.of_put (p := fun x => decide (lo ≤ (x : Int) ∧ (x : Int) ≤ hi ∧ x < b)) (q := fun x => decide (lo ≤ (x : Int) ∧ (x : Int) ≤ hi ∧ x < b + 1)) hb (fun x hx => by
        rw [Bool.eq_iff_iff, Bool.or_eq_true, decide_eq_true_iff, decide_eq_true_iff, decide_eq_true_iff]
        omega))
      have h4 := Cs.ok_of (fun x => decide (lo ≤ (x : Int) ∧ (x : Int) ≤ hi ∧ x < b))
      unfold Dm.put at HP
      generalize (Cs.of fun x => decide (lo ≤ (x : Int) ∧ (x : Int) ≤ hi ∧ x < b)) = ws at *
      have hlt := h4.lt (b / 64)
      have hget := Cs.clA_get (ws := ws) (j := b / 64) (by rw [h4.len]; omega)
      have hst2 := hst.drew.setCel (b / 64) (Cs.wV (ws.getD (b / 64) 0 ||| 2 ^ (b % 64)))
      rw [Cs.clA_set, HP.out] at hst2
      unfold Cs.wV at hget hst2
      have c0 := hst.drew.celAt hget
      have f0 := hst.drew.celFree (b / 64)
      have HST2 := Lib.hid hst2
      have hpow : 2 ^ (b % 64) < 18446744073709551616 := Nat.pow_lt_pow_right (a := 2) (m := b % 64) (n := 64) (by decide) (by omega)
      have hor : bits .or .u64 ((ws.getD (b / 64) 0 : Nat) : Int) ((2 ^ (b % 64) : Nat) : Int) = ((ws.getD (b / 64) 0 ||| 2 ^ (b % 64) : Nat) : Int) := bits_or_u64_nat _ _ hlt hpow
      have hsh : IntKind.u64.wrap ((2 : Int) ^ (b % 64)) = ((2 ^ (b % 64) : Nat) : Int) := by
        have e : ((2 : Int) ^ (b % 64)) = ((2 ^ (b % 64) : Nat) : Int) := by simp
        rw [e, IntKind.wrap_u64]
        exact Int.emod_eq_of_lt (Int.natCast_nonneg _) (Int.ofNat_lt.2 hpow)
      have h63 := Cs.and63 b
      have hq : ((b % 64 : Nat) : Int) < 64 := by omega
      have hii : (b : Int) < 256 := by omega
      generalize ((2 ^ (b % 64) : Nat) : Int) = z at *
      generalize (ws.getD (b / 64) 0 ||| 2 ^ (b % 64)) = u at *
      generalize ws.getD (b / 64) 0 = y at *
      generalize b % 64 = q at *
      have hd0 : (0 : Int) ≤ (b : Int) / 64 := by omega
      have hd1 : (b : Int) / 64 < 4 := by omega
      have hdn : ((b : Int) / 64).toNat = b / 64 := by omega
      clear hlt h4 hst hget hst2 hpow HP
      go_wp2_with (fail)
      refine wp_region_held_drew (S := (fun w' => True)) (by kernel_rfl) ?_ (fun hHeld => ?_)
      · (try dsimp only); (first | done | exact trivial)

      refine wpAnyH_take (i := 0) (v := ?_) rfl (by kernel_rfl) (by kernel_rfl) (by kernel_rfl) (fun _ _ _ h => h) (Or.inl ⟨by rfl, ?_⟩) (by assumption) ?_
      rotate_left; focus (intro w hSw; (try dsimp only at hSw); go_simp; try (with_reducible rfl); done)
      try simp only [List.getElem_toArray, List.getElem_cons_zero, List.getElem_cons_succ, Act.put, List.setIfInBounds_toArray, List.set_cons_zero, List.set_cons_succ]
      refine wpAnyH_take (i := 1) (v := ?_) rfl (by kernel_rfl) (by kernel_rfl) (by kernel_rfl) (fun _ _ _ h => h) (Or.inl ⟨by rfl, ?_⟩) (by assumption) ?_
      rotate_left; focus (intro w hSw; (try dsimp only at hSw); go_simp; try (with_reducible rfl); done)
      try simp only [List.getElem_toArray, List.getElem_cons_zero, List.getElem_cons_succ, Act.put, List.setIfInBounds_toArray, List.set_cons_zero, List.set_cons_succ]
      refine wpAnyH_take (i := 2) (v := ?_) rfl (by kernel_rfl) (by kernel_rfl) (by kernel_rfl) (fun _ _ _ h => h) (Or.inl ⟨by rfl, ?_⟩) (by assumption) ?_
      rotate_left; focus (intro w hSw; (try dsimp only at hSw); go_simp; try (with_reducible rfl); done)
      try simp only [List.getElem_toArray, List.getElem_cons_zero, List.getElem_cons_succ, Act.put, List.setIfInBounds_toArray, List.set_cons_zero, List.set_cons_succ]
      refine wpAnyH_take (i := 4) (v := ?_) rfl (by kernel_rfl) (by kernel_rfl) (by kernel_rfl) (fun _ _ _ h => h) (Or.inl ⟨by rfl, ?_⟩) (by assumption) ?_
      rotate_left; focus (intro w hSw; (try dsimp only at hSw); go_simp; try (with_reducible rfl); done)
      try simp only [List.getElem_toArray, List.getElem_cons_zero, List.getElem_cons_succ, Act.put, List.setIfInBounds_toArray, List.set_cons_zero, List.set_cons_succ]
      refine wpAnyH_take (i := 5) (v := ?_) rfl (by kernel_rfl) (by kernel_rfl) (by kernel_rfl) (fun _ _ _ h => h) (Or.inl ⟨by rfl, ?_⟩) (by assumption) ?_
      rotate_left; focus (intro w hSw; (try dsimp only at hSw); go_simp; try (with_reducible rfl); done)
      try simp only [List.getElem_toArray, List.getElem_cons_zero, List.getElem_cons_succ, Act.put, List.setIfInBounds_toArray, List.set_cons_zero, List.set_cons_succ]
      refine wpAnyH_take (i := 6) (v := ?_) rfl (by kernel_rfl) (by kernel_rfl) (by kernel_rfl) (fun _ _ _ h => h) (Or.inl ⟨by rfl, ?_⟩) (by assumption) ?_
      rotate_left; focus (intro w hSw; (try dsimp only at hSw); go_simp; try (with_reducible rfl); done)
      try simp only [List.getElem_toArray, List.getElem_cons_zero, List.getElem_cons_succ, Act.put, List.setIfInBounds_toArray, List.set_cons_zero, List.set_cons_succ]
      refine wpAnyH_ready (rs := [3]) (by kernel_rfl) (by simp) ?_
      refine AllReadyH.cons rfl (fun K hK => ?_) AllReadyH.nil
      go_simp
      refine hK.out _ _ ?_ (fun hHeld => ?_)
      · (try dsimp only); (first | done | exact trivial)
      clear hK K
      try simp only [List.getElem_toArray, List.getElem_cons_zero, List.getElem_cons_succ, Act.put, List.setIfInBounds_toArray, List.set_cons_zero, List.set_cons_succ]
      refine wpAnyH_take (i := 7) (v := ?_) rfl (by kernel_rfl) (by kernel_rfl) (by kernel_rfl) (fun _ _ _ h => h) (Or.inl ⟨by rfl, ?_⟩) (by assumption) ?_
      rotate_left; focus (intro w hSw; (try dsimp only at hSw); go_simp; try (with_reducible rfl); done)
      try simp only [List.getElem_toArray, List.getElem_cons_zero, List.getElem_cons_succ, Act.put, List.setIfInBounds_toArray, List.set_cons_zero, List.set_cons_succ]
      refine wpAnyH_take (i := 8) (v := ?_) rfl (by kernel_rfl) (by kernel_rfl) (by kernel_rfl) (fun _ _ _ h => h) (Or.inl ⟨by rfl, ?_⟩) (by assumption) ?_
      rotate_left; focus (intro w hSw; (try dsimp only at hSw); go_simp; try (with_reducible rfl); done)
      try simp only [List.getElem_toArray, List.getElem_cons_zero, List.getElem_cons_succ, Act.put, List.setIfInBounds_toArray, List.set_cons_zero, List.set_cons_succ]
      refine wpAnyH_ready (rs := [9]) (by kernel_rfl) (by simp) ?_
      refine AllReadyH.cons rfl (fun K hK => ?_) AllReadyH.nil
      go_simp
      refine hK.out _ _ ?_ (fun hHeld => ?_)
      · (try dsimp only); (first | done | exact trivial)
      clear hK K
      try simp only [List.getElem_toArray, List.getElem_cons_zero, List.getElem_cons_succ, Act.put, List.setIfInBounds_toArray, List.set_cons_zero, List.set_cons_succ]
      refine wpAnyH_done (by kernel_rfl) ?_ _
      go_wp2
      go_roundg (256 - (b + 1))
      case measure => have := HGZ.out; omega
      case rel => exact ⟨b + 1, by omega, rfl, by omega, by go_num, HST2.out⟩
    · have he : (Cs.of fun x => decide (lo ≤ (x : Int) ∧ (x : Int) ≤ hi ∧ x < b)) = Cs.of fun x => decide (lo ≤ (x : Int) ∧ (x : Int) ≤ hi) := by
        refine Cs.of_congr fun x hx => ?_
        rw [Bool.eq_iff_iff, decide_eq_true_iff, decide_eq_true_iff]
        have := HM2.out
        omega
      rw [he, HZ.out] at hst
      have hok := Cs.ok_of (fun x => decide (lo ≤ (x : Int) ∧ (x : Int) ≤ hi))
      rw [HZ.out] at hok
      have HST := Lib.hid (hst.pick (ρ := [aCel w.heap.size 24 (Cs.clA Dm.zero), aCel (w.heap.size + 1) 24 (Cs.clA Z)]) [1, 0] 2 rfl rfl)
      have HS4 := Lib.hid (Cs.clA_size hok)
      clear hst hok he
      go_wp2_with (first | (refine St.rowIn rfl 24 (.tmp 5) rfl (w.heap.size + 1) rfl _ HST.out 1 rfl Try.underlying24 rfl (by rw [HS4.out]; exact Cs.clInfo) ?_) | (refine St.rowOp rfl 24 (.tmp 4) (.tmp 24) rfl w.heap.size (Cs.clA Z) rfl rfl HST.out (by rw [HS4.out]; exact Cs.clInfo) (by rw [HS4.out]; rfl) (Cs.clA_one Z) ?_; intro w9 hst9; have HST9 := Lib.hid hst9; clear hst9 HST))
      refine bodyPost_ret (results_row rfl _ _ w.heap.size 24 _ _ rfl (HST9.out.heapAt 0 rfl) Try.underlying24 rfl (by rw [HS4.out]; exact Cs.clInfo)) rfl ?_
      exact ⟨rfl, HST9.out.bel⟩
set_option maxRecDepth 100000 in
set_option maxHeartbeats 1600000 in
theorem clJoin_any (a b : List Nat) (ha : Dm.Ok4 a) (hb : Dm.Ok4 b) (w : World) :
    Calls Try.prog 222 #[Cs.clV a, Cs.clV b] w fun e w' => e = .returned (Cs.clV (Cs.zip (· ||| ·) a b)) ∧ Below w.heap.size w w' := by
  have hst := (((St.init w).alloc (Cs.clA a) 24).alloc (Cs.clA b) 24).alloc (Cs.clA Dm.zero) 24
  simp only [World.size_alloc] at hst
  have HST := Lib.hid hst
  clear hst
  have HA := Lib.hid ha; have HB := Lib.hid hb
  obtain ⟨Z, hZ⟩ : ∃ Z, Cs.zip (· ||| ·) a b = Z := ⟨_, rfl⟩
  rw [hZ]
  have HZL := Lib.hid (show Z.length = 4 by rw [← hZ]; exact Cs.zip_len ha.len hb.len)
  have HZG := Lib.hid (fun (j : Nat) (hj : j < 4) => show Z.getD j 0 = (a.getD j 0 ||| b.getD j 0) by rw [← hZ]; exact Cs.zip_get ha.len hb.len hj)
  clear ha hb hZ
  unfold Cs.clV
  go_enter Try.func222, Try.ntmps222
  go_wp2_with (fail)
  go_loopg [6] 4 (fun gz v6 wr => ∃ i : Nat, i ≤ 4 ∧ gz = 4 - i ∧ v6 = .int .i64 i ∧ St w wr [aCel (w.heap.size + 1 + 1) 24 (Cs.clA Dm.zero), aCel (w.heap.size + 1) 24 (Cs.clA b), aCel w.heap.size 24 (Cs.clA (Cs.upto a Z i))])
  case atStart => exact ⟨0, by omega, by omega, rfl, by rw [Cs.upto_zero]; exact HST.out⟩
  case round =>
    clear HST
    obtain ⟨i, hi, hgz, rfl, hst⟩ := hrel
    have HGZ := Lib.hid hgz
    clear hgz
    by_cases hlt : i < 4
    · have hltI : (i : Int) < 4 := by omega
      have hga := Cs.clA_get (ws := Cs.upto a Z i) (j := i) (by rw [Cs.upto_len HA.out.len HZL.out (by omega)]; omega)
      rw [Cs.upto_get HA.out.len HZL.out hlt] at hga
      have hgb := Cs.clA_get (ws := b) (j := i) (by rw [HB.out.len]; omega)
      have hst2 := (hst.drew.pick (ρ := [aCel w.heap.size 24 (Cs.clA (Cs.upto a Z i)), aCel (w.heap.size + 1 + 1) 24 (Cs.clA Dm.zero), aCel (w.heap.size + 1) 24 (Cs.clA b)]) [2, 0, 1] 3 rfl rfl).setCel i (Cs.wV (Z.getD i 0))
      rw [Cs.clA_set, Cs.upto_set HA.out.len HZL.out hlt] at hst2
      have c0 := (hst.drew.nth 2 rfl).celAt hga
      have f0 := (hst.drew.nth 2 rfl).celFree i
      have d0 := (hst.drew.nth 1 rfl).celAt hgb
      have hzg := HZG.out i hlt
      have hla := HA.out.lt i
      have hlb := HB.out.lt i
      have hor : bits .or .u64 ((a.getD i 0 : Nat) : Int) ((b.getD i 0 : Nat) : Int) = ((a.getD i 0 ||| b.getD i 0 : Nat) : Int) := bits_or_u64_nat _ _ hla hlb
      rw [← hzg] at hor
      unfold Cs.wV at c0 d0 hst2
      have HST2 := Lib.hid hst2
      generalize a.getD i 0 = x at *
      generalize b.getD i 0 = y at *
      generalize Z.getD i 0 = z at *
      clear hst hga hgb hst2 hzg hla hlb
      go_wp2_with (fail)
      refine wp_region_held_drew (S := (fun w' => w'.cell? ⟨w.heap.size + 1, i, none⟩ = some (.int .u64 y))) (by kernel_rfl) ?_ (fun hHeld => ?_)
      · (try dsimp only); (first | exact d0 | exact d0b)

      refine wpAnyH_take (i := 0) (v := ?_) rfl (by kernel_rfl) (by kernel_rfl) (by kernel_rfl) (fun _ _ _ h => h) (Or.inl ⟨by rfl, ?_⟩) (by assumption) ?_
      rotate_left; focus (intro w hSw; (try dsimp only at hSw); go_simp; try (with_reducible rfl); done)
      try simp only [List.getElem_toArray, List.getElem_cons_zero, List.getElem_cons_succ, Act.put, List.setIfInBounds_toArray, List.set_cons_zero, List.set_cons_succ]
      refine wpAnyH_take (i := 1) (v := ?_) rfl (by kernel_rfl) (by kernel_rfl) (by kernel_rfl) (fun _ _ _ h => h) (Or.inl ⟨by rfl, ?_⟩) (by assumption) ?_
      rotate_left; focus (intro w hSw; (try dsimp only at hSw); go_simp; try (with_reducible rfl); done)
      try simp only [List.getElem_toArray, List.getElem_cons_zero, List.getElem_cons_succ, Act.put, List.setIfInBounds_toArray, List.set_cons_zero, List.set_cons_succ]
      refine wpAnyH_take (i := 3) (v := ?_) rfl (by kernel_rfl) (by kernel_rfl) (by kernel_rfl) (fun _ _ _ h => h) (Or.inl ⟨by rfl, ?_⟩) (by assumption) ?_
      rotate_left; focus (intro w hSw; (try dsimp only at hSw); go_simp; try (with_reducible rfl); done)
      try simp only [List.getElem_toArray, List.getElem_cons_zero, List.getElem_cons_succ, Act.put, List.setIfInBounds_toArray, List.set_cons_zero, List.set_cons_succ]
      refine wpAnyH_take (i := 4) (v := ?_) rfl (by kernel_rfl) (by kernel_rfl) (by kernel_rfl) (fun _ _ _ h => h) (Or.inl ⟨by rfl, ?_⟩) (by assumption) ?_
      rotate_left; focus (intro w hSw; (try dsimp only at hSw); go_simp; try (with_reducible rfl); done)
      try simp only [List.getElem_toArray, List.getElem_cons_zero, List.getElem_cons_succ, Act.put, List.setIfInBounds_toArray, List.set_cons_zero, List.set_cons_succ]
      refine wpAnyH_take (i := 5) (v := ?_) rfl (by kernel_rfl) (by kernel_rfl) (by kernel_rfl) (fun _ _ _ h => h) (Or.inl ⟨by rfl, ?_⟩) (by assumption) ?_
      rotate_left; focus (intro w hSw; (try dsimp only at hSw); go_simp; try (with_reducible rfl); done)
      try simp only [List.getElem_toArray, List.getElem_cons_zero, List.getElem_cons_succ, Act.put, List.setIfInBounds_toArray, List.set_cons_zero, List.set_cons_succ]
      refine wpAnyH_ready (rs := [2]) (by kernel_rfl) (by simp) ?_
      refine AllReadyH.cons rfl (fun K hK => ?_) AllReadyH.nil
      go_simp
      refine hK.out _ _ ?_ (fun hHeld => ?_)
      · (try dsimp only); (first | exact d0 | exact d0b)
      clear hK K
      try simp only [List.getElem_toArray, List.getElem_cons_zero, List.getElem_cons_succ, Act.put, List.setIfInBounds_toArray, List.set_cons_zero, List.set_cons_succ]
      refine wpAnyH_take (i := 6) (v := ?_) rfl (by kernel_rfl) (by kernel_rfl) (by kernel_rfl) (fun _ _ _ h => h) (Or.inl ⟨by rfl, ?_⟩) (by assumption) ?_
      rotate_left; focus (intro w hSw; (try dsimp only at hSw); go_simp; try (with_reducible rfl); done)
      try simp only [List.getElem_toArray, List.getElem_cons_zero, List.getElem_cons_succ, Act.put, List.setIfInBounds_toArray, List.set_cons_zero, List.set_cons_succ]
      refine wpAnyH_take (i := 7) (v := ?_) rfl (by kernel_rfl) (by kernel_rfl) (by kernel_rfl) (fun _ _ _ h => h) (Or.inl ⟨by rfl, ?_⟩) (by assumption) ?_
      rotate_left; focus (intro w hSw; (try dsimp only at hSw); go_simp; try (with_reducible rfl); done)
      try simp only [List.getElem_toArray, List.getElem_cons_zero, List.getElem_cons_succ, Act.put, List.setIfInBounds_toArray, List.set_cons_zero, List.set_cons_succ]
      refine wpAnyH_ready (rs := [8]) (by kernel_rfl) (by simp) ?_
      refine AllReadyH.cons rfl (fun K hK => ?_) AllReadyH.nil
      (go_simp; have d0b : (wr.drew.setCell ⟨w.heap.size, i, none⟩ (.int .u64 z)).cell? ⟨w.heap.size + 1, i, none⟩ = some (.int .u64 y) := (by rw [World.cell?_setCell_other _ _ _ _ (by simp)]; exact d0))
      refine hK.out _ _ ?_ (fun hHeld => ?_)
      · (try dsimp only); (first | exact d0 | exact d0b)
      clear hK K
      try simp only [List.getElem_toArray, List.getElem_cons_zero, List.getElem_cons_succ, Act.put, List.setIfInBounds_toArray, List.set_cons_zero, List.set_cons_succ]
      refine wpAnyH_done (by kernel_rfl) ?_ _
      go_wp2
      go_roundg (4 - (i + 1))
      case measure => have := HGZ.out; omega
      case rel => exact ⟨i + 1, by omega, rfl, by go_num, HST2.out.pick [1, 2, 0] 3 rfl rfl⟩
    · have hie : i = 4 := by omega
      rw [hie, Cs.upto_all HA.out.len HZL.out] at hst
      have hge : ¬ ((i : Int) < 4) := by omega
      have HST := Lib.hid (hst.pick (ρ := [aCel (w.heap.size + 1 + 1) 24 (Cs.clA Dm.zero), aCel w.heap.size 24 (Cs.clA Z)]) [0, 2] 3 rfl rfl)
      have HS4 := Lib.hid (show (Cs.clA Z).size = 4 by simp [Cs.clA, HZL.out])
      clear hst hie
      go_wp2_with (first | (refine St.rowIn rfl 24 (.tmp 2) rfl w.heap.size rfl _ HST.out 1 rfl Try.underlying24 rfl (by rw [HS4.out]; exact Cs.clInfo) ?_) | (refine St.rowOp rfl 24 (.tmp 4) (.tmp 18) rfl (w.heap.size + 1 + 1) (Cs.clA Z) rfl rfl HST.out (by rw [HS4.out]; exact Cs.clInfo) (by rw [HS4.out]; rfl) (Cs.clA_one Z) ?_; intro w9 hst9; have HST9 := Lib.hid hst9; clear hst9 HST))
      refine bodyPost_ret (results_row rfl _ _ (w.heap.size + 1 + 1) 24 _ _ rfl (HST9.out.heapAt 0 rfl) Try.underlying24 rfl (by rw [HS4.out]; exact Cs.clInfo)) rfl ?_
      exact ⟨rfl, HST9.out.bel⟩

end Go.Proofs.Ytfelikfppjlcmaa

/-
  Not of package class; Where of the reference.
-/
namespace Go.Proofs.Ytfelikfppjlcmaa
set_option linter.unusedVariables false
set_option linter.unusedSimpArgs false
open Go.ChangeShapes Go.WideShapes Go.ChangeAt Go.RowKit

theorem Cs.not_u64 (x : Nat) (hx : x < 18446744073709551616) : bits .xor .u64 IntKind.u64.max (x : Int) = ((18446744073709551615 - x : Nat) : Int) := by
  have h1 : BitVec.ofInt 64 IntKind.u64.max = BitVec.allOnes 64 := by decide
  have h2 : (BitVec.ofInt 64 (x : Int)).toNat = x := by
    rw [BitVec.ofInt_natCast, BitVec.toNat_ofNat]; exact Nat.mod_eq_of_lt hx
  show IntKind.u64.wrap ((BitVec.ofInt 64 IntKind.u64.max ^^^ BitVec.ofInt 64 (x : Int)).toNat : Nat) = _
  rw [h1, BitVec.allOnes_xor, BitVec.toNat_not, h2, IntKind.wrap_u64]
  omega

set_option maxRecDepth 100000 in
set_option maxHeartbeats 1600000 in
theorem clNot_any (a : List Nat) (ha : Dm.Ok4 a) (w : World) :
    Calls Try.prog 205 #[Cs.clV a] w fun e w' => e = .returned (Cs.clV (Cs.inv a)) ∧ Below w.heap.size w w' := by
  have hst := ((St.init w).alloc (Cs.clA a) 24).alloc (Cs.clA Dm.zero) 24
  simp only [World.size_alloc] at hst
  have HST := Lib.hid hst
  clear hst
  have HA := Lib.hid ha
  obtain ⟨Z, hZ⟩ : ∃ Z, Cs.inv a = Z := ⟨_, rfl⟩
  rw [hZ]
  have HZL := Lib.hid (show Z.length = 4 by rw [← hZ]; simp [Cs.inv, ha.len])
  have HZG := Lib.hid (fun (j : Nat) (hj : j < 4) => show Z.getD j 0 = (18446744073709551615 - a.getD j 0) by rw [← hZ]; exact Cs.inv_get ha.len hj)
  clear ha hZ
  unfold Cs.clV
  go_enter Try.func205, Try.ntmps205
  go_wp2_with (fail)
  go_loopg [4] 4 (fun gz v6 wr => ∃ i : Nat, i ≤ 4 ∧ gz = 4 - i ∧ v6 = .int .i64 i ∧ St w wr [aCel (w.heap.size + 1) 24 (Cs.clA Dm.zero), aCel w.heap.size 24 (Cs.clA (Cs.upto a Z i))])
  case atStart => exact ⟨0, by omega, by omega, rfl, by rw [Cs.upto_zero]; exact HST.out⟩
  case round =>
    clear HST
    obtain ⟨i, hi, hgz, rfl, hst⟩ := hrel
    have HGZ := Lib.hid hgz
    clear hgz
    by_cases hlt : i < 4
    · have hltI : (i : Int) < 4 := by omega
      have hga := Cs.clA_get (ws := Cs.upto a Z i) (j := i) (by rw [Cs.upto_len HA.out.len HZL.out (by omega)]; omega)
      rw [Cs.upto_get HA.out.len HZL.out hlt] at hga
      have hst2 := (hst.pick (ρ := [aCel w.heap.size 24 (Cs.clA (Cs.upto a Z i)), aCel (w.heap.size + 1) 24 (Cs.clA Dm.zero)]) [1, 0] 2 rfl rfl).setCel i (Cs.wV (Z.getD i 0))
      rw [Cs.clA_set, Cs.upto_set HA.out.len HZL.out hlt] at hst2
      have c0 := (hst.nth 1 rfl).celAt hga
      have f0 := (hst.nth 1 rfl).celFree i
      have hzg := HZG.out i hlt
      have hla : a.getD i 0 < 18446744073709551616 := HA.out.lt i
      unfold Cs.wV at c0 hst2
      have HST2 := Lib.hid hst2
      generalize a.getD i 0 = x at *
      generalize Z.getD i 0 = z at *
      have hxor : bits .xor .u64 IntKind.u64.max (x : Int) = (z : Int) := by rw [Cs.not_u64 x hla, hzg]
      clear hst hga hst2 hzg hla
      go_wp2
      go_roundg (4 - (i + 1))
      case measure => have := HGZ.out; omega
      case rel => exact ⟨i + 1, by omega, rfl, by go_num, HST2.out.get2⟩
    · have hie : i = 4 := by omega
      rw [hie, Cs.upto_all HA.out.len HZL.out] at hst
      have hge : ¬ ((i : Int) < 4) := by omega
      have HST := Lib.hid hst
      have HS4 := Lib.hid (show (Cs.clA Z).size = 4 by simp [Cs.clA, HZL.out])
      clear hst hie
      go_wp2_with (first | (refine St.rowIn rfl 24 (.tmp 1) rfl w.heap.size rfl _ HST.out 1 rfl Try.underlying24 rfl (by rw [HS4.out]; exact Cs.clInfo) ?_) | (refine St.rowOp rfl 24 (.tmp 2) (.tmp 14) rfl (w.heap.size + 1) (Cs.clA Z) rfl rfl HST.out (by rw [HS4.out]; exact Cs.clInfo) (by rw [HS4.out]; rfl) (Cs.clA_one Z) ?_; intro w9 hst9; have HST9 := Lib.hid hst9; clear hst9 HST))
      refine bodyPost_ret (results_row rfl _ _ (w.heap.size + 1) 24 _ _ rfl (HST9.out.heapAt 0 rfl) Try.underlying24 rfl (by rw [HS4.out]; exact Cs.clInfo)) rfl ?_
      exact ⟨rfl, HST9.out.bel⟩

/-- A closure over a class's bytes, whose number stands open. -/
def Cs.Tells (cl : Nat) (caps : Array Value) (p : Nat → Bool) (w0 : World) (μ : List Asrt) : Prop := ∀ (x : Nat), x < 256 → ∀ W ν, St w0 W (ν ++ μ) → Calls Try.prog cl (#[.int .i64 x] ++ caps) W fun e w' => e = .returned (.bool (p x)) ∧ Below W.heap.size W w'

set_option maxRecDepth 100000 in
set_option maxHeartbeats 1600000 in
theorem rWhere_any (cl : Nat) (caps : Array Value) (p : Nat → Bool) (w0 w : World) (μ : List Asrt) (hp : Cs.Tells cl caps p w0 μ) (hcf : ∀ args W, (callFunc cl args).run Try.prog W = .ok (.enter cl args) W) (h : St w0 w μ) :
    Calls Try.prog 209 #[.func (.func cl) #[] caps] w fun e w' => e = .returned (Cs.clV (Cs.of p)) ∧ Below w.heap.size w w' := by
  have hst := ((h.alloc (Cs.clA Dm.zero) 24).alloc (Cs.clA Dm.zero) 24)
  simp only [World.size_alloc] at hst
  have HST := Lib.hid hst
  have HB := Lib.hid (((Below.refl w.heap.size w).alloc (Nat.le_refl _) (.cells (Cs.clA Dm.zero) 24)).alloc (by simp) (.cells (Cs.clA Dm.zero) 24))
  have HP := Lib.hid hp
  obtain ⟨Z, hZ⟩ : ∃ Z, Cs.of p = Z := ⟨_, rfl⟩
  rw [hZ]
  have HZ := Lib.hid hZ
  clear hst hp hZ h
  go_enter Try.func209, Try.ntmps209
  go_wp2_with (fail)
  go_loopg [4] 256 (fun gz v4 wr => ∃ b : Nat, b ≤ 256 ∧ gz = 256 - b ∧ v4 = .int .i64 b ∧ Below w.heap.size w wr ∧ St w0 wr (aCel (w.heap.size + 1) 24 (Cs.clA (Cs.of fun x => p x && decide (x < b))) :: aCel w.heap.size 24 (Cs.clA Dm.zero) :: μ))
  case atStart =>
    refine ⟨0, by omega, by omega, rfl, HB.out, ?_⟩
    rw [show (Cs.of fun x => p x && decide (x < 0)) = Dm.zero from by
      rw [← Cs.of_false]
      exact Cs.of_congr fun x hx => by simp]
    exact HST.out
  case round =>
    clear HST HB
    obtain ⟨b, hb, hgz, rfl, hB, hst⟩ := hrel
    have HGZ := Lib.hid hgz
    clear hgz
    by_cases hlt : b < 256
    · have hltI : (b : Int) < 256 := by omega
      have HC := Lib.hid (HP.out b hlt wr [aCel (w.heap.size + 1) 24 (Cs.clA (Cs.of fun x => p x && decide (x < b))), aCel w.heap.size 24 (Cs.clA Dm.zero)] hst)
      have HST := Lib.hid hst
      have HB := Lib.hid hB
      obtain ⟨B, hBB⟩ : ∃ B, p b = B := ⟨_, rfl⟩
      rw [hBB] at HC
      have HBB := Lib.hid hBB
      clear hst hB hBB
      go_wp2_with (fail)
      refine (HC.out).mono ?_
      rintro e w5 ⟨rfl, hb5⟩
      have hst5 := HST.out.call hb5
      have HB5 := Lib.hid (HB.out.trans (hb5.mono HB.out.size))
      clear hb5 HST HB HC
      cases B
      · have HE := Lib.hid (show (Cs.of fun x => p x && decide (x < b)) = (Cs.of fun x => p x && decide (x < b + 1)) from Cs.of_congr fun x hx => by
          by_cases hxb : x = b
          · subst hxb; rw [HBB.out]; simp
          · congr 1; rw [Bool.eq_iff_iff, decide_eq_true_iff, decide_eq_true_iff]; omega)
        rw [HE.out] at hst5
        have HST5 := Lib.hid hst5
        clear hst5
        go_wp2
        go_roundg (256 - (b + 1))
        case measure => have := HGZ.out; omega
        case rel => exact ⟨b + 1, by omega, rfl, by go_num, HB5.out, HST5.out⟩
      · have HPT := Lib.hid (Cs.of_put (p := fun x => p x && decide (x < b)) (q := fun x => p x && decide (x < b + 1)) hlt (fun x hx => by
          by_cases hxb : b = x
          · subst hxb; rw [HBB.out]; simp
          · have : decide (x < b + 1) = decide (x < b) := by rw [Bool.eq_iff_iff, decide_eq_true_iff, decide_eq_true_iff]; omega
            rw [this]; simp [hxb]))
        have h4 := Cs.ok_of (fun x => p x && decide (x < b))
        unfold Dm.put at HPT
        generalize (Cs.of fun x => p x && decide (x < b)) = ws at *
        have hltw := h4.lt (b / 64)
        have hget := Cs.clA_get (ws := ws) (j := b / 64) (by rw [h4.len]; omega)
        have hst2 := hst5.drew.setCel (b / 64) (Cs.wV (ws.getD (b / 64) 0 ||| 2 ^ (b % 64)))
        rw [Cs.clA_set, HPT.out] at hst2
        unfold Cs.wV at hget hst2
        have c0 := hst5.drew.celAt hget
        have f0 := hst5.drew.celFree (b / 64)
        have HST2 := Lib.hid hst2
        have HB6 := Lib.hid (HB5.out.drew.setCell (p := ⟨w.heap.size + 1, b / 64, none⟩) (by simp) (.int .u64 ((ws.getD (b / 64) 0 ||| 2 ^ (b % 64) : Nat) : Int)))
        have hpow : 2 ^ (b % 64) < 18446744073709551616 := Nat.pow_lt_pow_right (a := 2) (m := b % 64) (n := 64) (by decide) (by omega)
        have hor : bits .or .u64 ((ws.getD (b / 64) 0 : Nat) : Int) ((2 ^ (b % 64) : Nat) : Int) = ((ws.getD (b / 64) 0 ||| 2 ^ (b % 64) : Nat) : Int) := bits_or_u64_nat _ _ hltw hpow
        have hsh : IntKind.u64.wrap ((2 : Int) ^ (b % 64)) = ((2 ^ (b % 64) : Nat) : Int) := by
          have e : ((2 : Int) ^ (b % 64)) = ((2 ^ (b % 64) : Nat) : Int) := by simp
          rw [e, IntKind.wrap_u64]
          exact Int.emod_eq_of_lt (Int.natCast_nonneg _) (Int.ofNat_lt.2 hpow)
        have hrem : (b : Int) % 64 = ((b % 64 : Nat) : Int) := by omega
        have hqt : (b : Int).tdiv 64 = (b : Int) / 64 := Int.tdiv_eq_ediv_of_nonneg (by omega)
        have hrt : (b : Int).tmod 64 = ((b % 64 : Nat) : Int) := by rw [Int.tmod_eq_emod_of_nonneg (by omega)]; omega
        have hq : ((b % 64 : Nat) : Int) < 64 := by omega
        generalize ((2 ^ (b % 64) : Nat) : Int) = z at *
        generalize (ws.getD (b / 64) 0 ||| 2 ^ (b % 64)) = u at *
        generalize ws.getD (b / 64) 0 = y at *
        generalize b % 64 = q at *
        have hd0 : (0 : Int) ≤ (b : Int) / 64 := by omega
        have hd1 : (b : Int) / 64 < 4 := by omega
        have hdn : ((b : Int) / 64).toNat = b / 64 := by omega
        have hwq : IntKind.i64.wrap ((b : Int) / 64) = (b : Int) / 64 := by rw [IntKind.wrap_i64]; omega
        clear hltw h4 hst5 hget hst2 hpow HPT
        go_wp2_with (fail)
        refine wp_region_held_drew (S := (fun w' => True)) (by kernel_rfl) ?_ (fun hHeld => ?_)
        · (try dsimp only); (first | done | exact trivial)

        refine wpAnyH_take (i := 0) (v := ?_) rfl (by kernel_rfl) (by kernel_rfl) (by kernel_rfl) (fun _ _ _ h => h) (Or.inl ⟨by rfl, ?_⟩) (by assumption) ?_
        rotate_left; focus (intro w hSw; (try dsimp only at hSw); go_simp; try (with_reducible rfl); done)
        try simp only [List.getElem_toArray, List.getElem_cons_zero, List.getElem_cons_succ, Act.put, List.setIfInBounds_toArray, List.set_cons_zero, List.set_cons_succ]
        refine wpAnyH_take (i := 4) (v := ?_) rfl (by kernel_rfl) (by kernel_rfl) (by kernel_rfl) (fun _ _ _ h => h) (Or.inl ⟨by rfl, ?_⟩) (by assumption) ?_
        rotate_left; focus (intro w hSw; (try dsimp only at hSw); go_simp; try (with_reducible rfl); done)
        try simp only [List.getElem_toArray, List.getElem_cons_zero, List.getElem_cons_succ, Act.put, List.setIfInBounds_toArray, List.set_cons_zero, List.set_cons_succ]
        refine wpAnyH_take (i := 5) (v := ?_) rfl (by kernel_rfl) (by kernel_rfl) (by kernel_rfl) (fun _ _ _ h => h) (Or.inl ⟨by rfl, ?_⟩) (by assumption) ?_
        rotate_left; focus (intro w hSw; (try dsimp only at hSw); go_simp; try (with_reducible rfl); done)
        try simp only [List.getElem_toArray, List.getElem_cons_zero, List.getElem_cons_succ, Act.put, List.setIfInBounds_toArray, List.set_cons_zero, List.set_cons_succ]
        refine wpAnyH_take (i := 6) (v := ?_) rfl (by kernel_rfl) (by kernel_rfl) (by kernel_rfl) (fun _ _ _ h => h) (Or.inl ⟨by rfl, ?_⟩) (by assumption) ?_
        rotate_left; focus (intro w hSw; (try dsimp only at hSw); go_simp; try (with_reducible rfl); done)
        try simp only [List.getElem_toArray, List.getElem_cons_zero, List.getElem_cons_succ, Act.put, List.setIfInBounds_toArray, List.set_cons_zero, List.set_cons_succ]
        refine wpAnyH_take (i := 1) (v := ?_) rfl (by kernel_rfl) (by kernel_rfl) (by kernel_rfl) (fun _ _ _ h => h) (Or.inl ⟨by rfl, ?_⟩) (by assumption) ?_
        rotate_left; focus (intro w hSw; (try dsimp only at hSw); go_simp; try (with_reducible rfl); done)
        try simp only [List.getElem_toArray, List.getElem_cons_zero, List.getElem_cons_succ, Act.put, List.setIfInBounds_toArray, List.set_cons_zero, List.set_cons_succ]
        refine wpAnyH_take (i := 2) (v := ?_) rfl (by kernel_rfl) (by kernel_rfl) (by kernel_rfl) (fun _ _ _ h => h) (Or.inl ⟨by rfl, ?_⟩) (by assumption) ?_
        rotate_left; focus (intro w hSw; (try dsimp only at hSw); go_simp; try (with_reducible rfl); done)
        try simp only [List.getElem_toArray, List.getElem_cons_zero, List.getElem_cons_succ, Act.put, List.setIfInBounds_toArray, List.set_cons_zero, List.set_cons_succ]
        refine wpAnyH_ready (rs := [3]) (by kernel_rfl) (by simp) ?_
        refine AllReadyH.cons rfl (fun K hK => ?_) AllReadyH.nil
        go_simp
        refine hK.out _ _ ?_ (fun hHeld => ?_)
        · (try dsimp only); (first | done | exact trivial)
        clear hK K
        try simp only [List.getElem_toArray, List.getElem_cons_zero, List.getElem_cons_succ, Act.put, List.setIfInBounds_toArray, List.set_cons_zero, List.set_cons_succ]
        refine wpAnyH_take (i := 7) (v := ?_) rfl (by kernel_rfl) (by kernel_rfl) (by kernel_rfl) (fun _ _ _ h => h) (Or.inl ⟨by rfl, ?_⟩) (by assumption) ?_
        rotate_left; focus (intro w hSw; (try dsimp only at hSw); go_simp; try (with_reducible rfl); done)
        try simp only [List.getElem_toArray, List.getElem_cons_zero, List.getElem_cons_succ, Act.put, List.setIfInBounds_toArray, List.set_cons_zero, List.set_cons_succ]
        refine wpAnyH_take (i := 8) (v := ?_) rfl (by kernel_rfl) (by kernel_rfl) (by kernel_rfl) (fun _ _ _ h => h) (Or.inl ⟨by rfl, ?_⟩) (by assumption) ?_
        rotate_left; focus (intro w hSw; (try dsimp only at hSw); go_simp; try (with_reducible rfl); done)
        try simp only [List.getElem_toArray, List.getElem_cons_zero, List.getElem_cons_succ, Act.put, List.setIfInBounds_toArray, List.set_cons_zero, List.set_cons_succ]
        refine wpAnyH_ready (rs := [9]) (by kernel_rfl) (by simp) ?_
        refine AllReadyH.cons rfl (fun K hK => ?_) AllReadyH.nil
        go_simp
        refine hK.out _ _ ?_ (fun hHeld => ?_)
        · (try dsimp only); (first | done | exact trivial)
        clear hK K
        try simp only [List.getElem_toArray, List.getElem_cons_zero, List.getElem_cons_succ, Act.put, List.setIfInBounds_toArray, List.set_cons_zero, List.set_cons_succ]
        refine wpAnyH_done (by kernel_rfl) ?_ _
        go_wp2
        go_roundg (256 - (b + 1))
        case measure => have := HGZ.out; omega
        case rel => exact ⟨b + 1, by omega, rfl, by go_num, HB6.out, HST2.out⟩
    · have hbe : b = 256 := by omega
      have hge : ¬ ((b : Int) < 256) := by omega
      have he : (Cs.of fun x => p x && decide (x < b)) = Cs.of p := Cs.of_congr fun x hx => by rw [decide_eq_true (by omega), Bool.and_true]
      have hok := Cs.ok_of p
      rw [he, HZ.out] at hst
      rw [HZ.out] at hok
      have HST := Lib.hid (hst.get2)
      have HS4 := Lib.hid (Cs.clA_size hok)
      have HB := Lib.hid hB
      clear hst hok he hbe hB
      go_wp2_with (first | (refine St.rowIn rfl 24 (.tmp 3) rfl (w.heap.size + 1) rfl _ HST.out 1 rfl Try.underlying24 rfl (by rw [HS4.out]; exact Cs.clInfo) ?_) | (refine wpList_store_row rfl 24 (.tmp 2) (.tmp 21) rfl w.heap.size (Cs.clA Z) rfl rfl 24 (Cs.clA Dm.zero) (HST.out.heapAt 0 rfl) (by rw [HS4.out]; exact Cs.clInfo) (by rw [HS4.out]; rfl) (Cs.clA_one Z) ?_; have HH := Lib.hid ((HST.out.setRow (Cs.clA Z)).heapAt 0 rfl); have HB9 := Lib.hid (below_setRow HB.out (Nat.le_refl w.heap.size) (Cs.clA Z))))
      refine bodyPost_ret (results_row rfl _ _ w.heap.size 24 _ _ rfl HH.out Try.underlying24 rfl (by rw [HS4.out]; exact Cs.clInfo)) rfl ?_
      exact ⟨rfl, HB9.out⟩
end Go.Proofs.Ytfelikfppjlcmaa

/-
  An array of numbers is equal to itself.
-/
namespace Go.Proofs.Ytfelikfppjlcmaa
open Go.ChangeShapes Go.WideShapes Go.ChangeAt Go.RowKit

theorem run_equalIn_arr {P : Program} {t e : TypeId} {n : Nat} {k : IntKind} (ht : P.underlying t = some (.array n e)) (he : P.underlying e = some (.int k)) (hs : (P.info? e).map (·.size) = some 1)
    (xs : List Int) (hl : xs.length = n) (d : Nat) (w : World) : (Op.equalIn (d + 2) t (.agg (xs.map (Value.int k)).toArray) (.agg (xs.map (Value.int k)).toArray)).run P w = .ok true w := by
  cases hq : P.info? e with
  | none => simp [hq] at hs
  | some inf =>
    have hs1 : inf.size = 1 := by simpa [hq] using hs
    have hpart : ∀ i, i < n → (part e (xs.map (Value.int k)).toArray (i * 1)).run P w = .ok (.int k (xs.getD i 0)) w := by
      intro i hi
      have hil : i < xs.length := by omega
      simp [part, isAgg, run_underlying he, hil]
    have hloop : ∀ (l : List Nat), (∀ i ∈ l, i < n) → (forIn l ((none : Option Bool), ()) (fun i (_ : Option Bool × Unit) => (do
        let a ← part e (xs.map (Value.int k)).toArray (i * 1)
        let b ← part e (xs.map (Value.int k)).toArray (i * 1)
        let c ← Op.equalIn (d + 1) e a b
        if (!c) = true then pure (ForInStep.done (some false, ())) else pure (ForInStep.yield (none, ())) : Sem (ForInStep (Option Bool × Unit))))).run P w = .ok (none, ()) w := by
      intro l
      induction l with
      | nil => intro _; simp
      | cons i l ih =>
        intro h
        have h1 := hpart i (h i (List.mem_cons_self ..))
        simp only [List.forIn_cons, Sem.run_bind, h1, Result.andThen_ok, run_equalIn_int w d e k k _ _ he, beq_self_eq_true, Bool.not_true, Bool.false_eq_true, if_false, Sem.run_pure]
        exact ih fun q hq => h q (List.mem_cons_of_mem _ hq)
    rw [Op.equalIn]
    simp only [Sem.run_bind, run_underlying ht, Result.andThen_ok, sizeOf, typeInfo, run_program, hq, Sem.run_pure, hs1]
    rw [Std.Legacy.Range.forIn_eq_forIn_range', hloop _ (by intro i hi; simp at hi; exact hi)]
    simp

theorem run_neq_arr {P : Program} {t e : TypeId} {n : Nat} {k : IntKind} (ht : P.underlying t = some (.array n e)) (he : P.underlying e = some (.int k)) (hs : (P.info? e).map (·.size) = some 1)
    (xs : List Int) (hl : xs.length = n) (w : World) : (binOp .neq t (.agg (xs.map (Value.int k)).toArray) (.agg (xs.map (Value.int k)).toArray)).run P w = .ok (.bool false) w := by
  rw [run_neq_struct, run_equalIn_arr ht he hs xs hl 9998 w]
  rfl
theorem run_eql_arr {P : Program} {t e : TypeId} {n : Nat} {k : IntKind} (ht : P.underlying t = some (.array n e)) (he : P.underlying e = some (.int k)) (hs : (P.info? e).map (·.size) = some 1)
    (xs : List Int) (hl : xs.length = n) (w : World) : (binOp .eql t (.agg (xs.map (Value.int k)).toArray) (.agg (xs.map (Value.int k)).toArray)).run P w = .ok (.bool true) w := by
  rw [run_eql_struct, run_equalIn_arr ht he hs xs hl 9998 w]
  rfl

/-- A whole array (or struct) read in a region that only reads. -/
theorem wpQuiet_load_mid {P : Program} {w : World} {ops : Array Oper} {rest : List Oper} {o : Oper} {a : Act} {Q : Act → Prop} (ty : TypeId) (x : Operand) (ho : o.op = .load ty x) (hw : Region.wanted o (yielded ops a.tmps) = true)
    (b off : Nat) (hx : a.eval x = .pointer (some ⟨b, off, none⟩)) (cs : List Value) (d : TypeDesc) (hc : w.rangeAt b off cs) (hu : P.underlying ty = some d) (hd : d.isRow = true) (hi : (P.info? ty).map (·.size) = some cs.length)
    (h : wpQuiet P ops (fun w' => ∃ n, w' = w.drewN n) Q rest (a.put o.dst (.agg cs.toArray))) : wpQuiet P ops (fun w' => ∃ n, w' = w.drewN n) Q (o :: rest) a := by
  unfold wpQuiet
  rw [if_pos hw]
  refine ⟨_, ?_, h⟩
  rintro _ ⟨n, rfl⟩
  unfold Oper.quietAt execOp
  simp only [ho, hx, Instr.loadAt, Instr.sureAddr, Sem.run_bind, Sem.run_pure, Result.andThen_ok, run_loadVar_mid (w.drewN n) b off ty cs d hc hu hd hi]
  exact ⟨rfl, rfl⟩
end Go.Proofs.Ytfelikfppjlcmaa

/-
  Two arrays of numbers compared. (A helper text; it claims nothing of the program.)
-/
namespace Go.Proofs.Ytfelikfppjlcmaa
open Go.ChangeShapes Go.WideShapes Go.ChangeAt Go.RowKit

theorem run_equalIn_arr2 {P : Program} {t e : TypeId} {n : Nat} {k : IntKind} (ht : P.underlying t = some (.array n e)) (he : P.underlying e = some (.int k)) (hs : (P.info? e).map (·.size) = some 1)
    (xs ys : List Int) (hl : xs.length = n) (hl2 : ys.length = n) (d : Nat) (w : World) : (Op.equalIn (d + 2) t (.agg (xs.map (Value.int k)).toArray) (.agg (ys.map (Value.int k)).toArray)).run P w = .ok (decide (xs = ys)) w := by
  cases hq : P.info? e with
  | none => simp [hq] at hs
  | some inf =>
    have hs1 : inf.size = 1 := by simpa [hq] using hs
    have hpart : ∀ (zs : List Int), zs.length = n → ∀ i, i < n → (part e (zs.map (Value.int k)).toArray (i * 1)).run P w = .ok (.int k (zs.getD i 0)) w := by
      intro zs hz i hi
      have hil : i < zs.length := by omega
      simp [part, isAgg, run_underlying he, hil]
    have hloop : ∀ (l : List Nat), (∀ i ∈ l, i < n) → ∃ r : Option Bool, (forIn l ((none : Option Bool), ()) (fun i (_ : Option Bool × Unit) => (do
        let a ← part e (xs.map (Value.int k)).toArray (i * 1)
        let b ← part e (ys.map (Value.int k)).toArray (i * 1)
        let c ← Op.equalIn (d + 1) e a b
        if (!c) = true then pure (ForInStep.done (some false, ())) else pure (ForInStep.yield (none, ())) : Sem (ForInStep (Option Bool × Unit))))).run P w = .ok (r, ()) w ∧ ((r = none ∧ ∀ i ∈ l, xs.getD i 0 = ys.getD i 0) ∨ (r = some false ∧ ∃ i ∈ l, xs.getD i 0 ≠ ys.getD i 0)) := by
      intro l
      induction l with
      | nil => intro _; exact ⟨none, by simp, .inl ⟨rfl, fun i hi => by cases hi⟩⟩
      | cons i l ih =>
        intro h
        have h1 := hpart xs hl i (h i (List.mem_cons_self ..))
        have h2 := hpart ys hl2 i (h i (List.mem_cons_self ..))
        simp only [List.forIn_cons, Sem.run_bind, h1, h2, Result.andThen_ok, run_equalIn_int w d e k k _ _ he]
        by_cases hxy : xs.getD i 0 = ys.getD i 0
        · obtain ⟨r, hr, hh⟩ := ih fun q hq => h q (List.mem_cons_of_mem _ hq)
          refine ⟨r, ?_, ?_⟩
          · simp only [hxy, beq_self_eq_true, Bool.not_true, Bool.false_eq_true, if_false, Sem.run_pure, Result.andThen_ok]
            exact hr
          · rcases hh with ⟨e1, e2⟩ | ⟨e1, j, hj, e2⟩
            · refine .inl ⟨e1, fun j hj => ?_⟩
              rcases List.mem_cons.1 hj with rfl | hj
              · exact hxy
              · exact e2 j hj
            · exact .inr ⟨e1, j, List.mem_cons_of_mem _ hj, e2⟩
        · refine ⟨some false, ?_, .inr ⟨rfl, i, List.mem_cons_self .., hxy⟩⟩
          have hb : (xs.getD i 0 == ys.getD i 0) = false := by rw [beq_eq_false_iff_ne]; exact hxy
          simp only [hb, Bool.not_false, if_true, Sem.run_pure, Result.andThen_ok]
    rw [Op.equalIn]
    simp only [Sem.run_bind, run_underlying ht, Result.andThen_ok, sizeOf, typeInfo, run_program, hq, Sem.run_pure, hs1]
    obtain ⟨r, hr, hh⟩ := hloop (List.range' 0 n 1) (by intro i hi; simp at hi; exact hi)
    rw [Std.Legacy.Range.forIn_eq_forIn_range']
    simp only [Std.Legacy.Range.size, Nat.sub_zero, Nat.add_sub_cancel, Nat.div_one]
    rw [hr]
    rcases hh with ⟨rfl, h2⟩ | ⟨rfl, j, hj, h2⟩
    · have : xs = ys := by
        apply List.ext_getElem (by omega)
        intro i h3 h4
        have := h2 i (by simp; omega)
        simpa [List.getD, h3, h4] using this
      simp [this]
    · have : xs ≠ ys := fun h => h2 (by rw [h])
      simp [this]
theorem run_neq_arr2 {P : Program} {t e : TypeId} {n : Nat} {k : IntKind} (ht : P.underlying t = some (.array n e)) (he : P.underlying e = some (.int k)) (hs : (P.info? e).map (·.size) = some 1)
    (xs ys : List Int) (hl : xs.length = n) (hl2 : ys.length = n) (w : World) : (binOp .neq t (.agg (xs.map (Value.int k)).toArray) (.agg (ys.map (Value.int k)).toArray)).run P w = .ok (.bool (!decide (xs = ys))) w := by
  rw [run_neq_struct, run_equalIn_arr2 ht he hs xs ys hl hl2 9998 w]
  rfl
theorem run_eql_arr2 {P : Program} {t e : TypeId} {n : Nat} {k : IntKind} (ht : P.underlying t = some (.array n e)) (he : P.underlying e = some (.int k)) (hs : (P.info? e).map (·.size) = some 1)
    (xs ys : List Int) (hl : xs.length = n) (hl2 : ys.length = n) (w : World) : (binOp .eql t (.agg (xs.map (Value.int k)).toArray) (.agg (ys.map (Value.int k)).toArray)).run P w = .ok (.bool (decide (xs = ys))) w := by
  rw [run_eql_struct, run_equalIn_arr2 ht he hs xs ys hl hl2 9998 w]
  rfl
end Go.Proofs.Ytfelikfppjlcmaa

/-
  Check of package rex, Rex of the reference: what is wrong with a regular expression.
-/
namespace Go.Proofs.Ytfelikfppjlcmaa
set_option linter.unusedVariables false
set_option linter.unusedSimpArgs false
open Go.ChangeShapes Go.WideShapes Go.ChangeAt Go.RowKit

namespace Rx
theorem eqz {a0 a1 a2 a3 : Nat} (W : World) : (Op.equalIn 10000 24 (.agg #[.int .u64 a0, .int .u64 a1, .int .u64 a2, .int .u64 a3]) (.agg #[.int .u64 0, .int .u64 0, .int .u64 0, .int .u64 0])).run Try.prog W = .ok (decide ([a0, a1, a2, a3] = Dm.zero)) W :=
  (run_equalIn_arr2 (P := Try.prog) (n := 4) (k := .u64) Try.underlying24 Try.underlying22 (by kernel_rfl) [(a0 : Int), a1, a2, a3] [0, 0, 0, 0] rfl rfl 9998 W).trans (by
    congr 1
    rw [decide_eq_decide]
    unfold Dm.zero
    simp)
theorem cel6 {w0 w : World} {μ : List Asrt} {g : Nat} {T : TypeId} {v0 v1 v2 v3 v4 v5 : Value} (h : St w0 w μ) (i : Nat) (hA : μ[i]? = some (aCel g T #[v0, v1, v2, v3, v4, v5])) :
    w.cell? ⟨g, 0, none⟩ = some v0 ∧ w.cell? ⟨g, 1, none⟩ = some v1 ∧ w.cell? ⟨g, 2, none⟩ = some v2 ∧ w.cell? ⟨g, 3, none⟩ = some v3 ∧ w.cell? ⟨g, 4, none⟩ = some v4 ∧ w.cell? ⟨g, 5, none⟩ = some v5 := by
  have h1 := h.nth i hA
  exact ⟨h1.celAt rfl, h1.celAt rfl, h1.celAt rfl, h1.celAt rfl, h1.celAt rfl, h1.celAt rfl⟩
end Rx

set_option maxRecDepth 100000 in
theorem kids_any (k : Int) (w : World) : Calls Try.prog 158 #[.int .i64 k] w fun e w' => e = .returned (.int .i64 (Rx.kidsOf k)) ∧ w' = w := by
  obtain ⟨R, hR⟩ : ∃ R, Rx.kidsOf k = R := ⟨_, rfl⟩
  have HR := Lib.hid hR
  rw [hR]
  clear hR
  have fin : ∀ r, Rx.kidsOf k = r → r = R := fun r h => by rw [← HR.out, h]
  have HF := Lib.hid fin
  clear fin
  by_cases h1 : k = 1
  · subst h1
    go_enter Try.func158, Try.ntmps158
    go_wp2
    go_ret
    exact ⟨by rw [← HF.out 0 rfl]; rfl, rfl⟩
  by_cases h2 : k = 2
  · subst h2
    go_enter Try.func158, Try.ntmps158
    go_wp2
    go_ret
    exact ⟨by rw [← HF.out 0 rfl]; rfl, rfl⟩
  by_cases h3 : k = 3
  · subst h3
    go_enter Try.func158, Try.ntmps158
    go_wp2
    go_ret
    exact ⟨by rw [← HF.out 0 rfl]; rfl, rfl⟩
  by_cases h6 : k = 6
  · subst h6
    go_enter Try.func158, Try.ntmps158
    go_wp2
    go_ret
    exact ⟨by rw [← HF.out 1 rfl]; rfl, rfl⟩
  by_cases h4 : k = 4
  · subst h4
    go_enter Try.func158, Try.ntmps158
    go_wp2
    go_ret
    exact ⟨by rw [← HF.out 2 rfl]; rfl, rfl⟩
  by_cases h5 : k = 5
  · subst h5
    go_enter Try.func158, Try.ntmps158
    go_wp2
    go_ret
    exact ⟨by rw [← HF.out 2 rfl]; rfl, rfl⟩
  have HV := Lib.hid (HF.out (-1) (by unfold Rx.kidsOf; rw [if_neg (by omega), if_neg (by omega), if_neg (by omega)]))
  have e1 : (k == 1) = false := by rw [beq_eq_false_iff_ne]; exact h1
  have e2 : (k == 2) = false := by rw [beq_eq_false_iff_ne]; exact h2
  have e3 : (k == 3) = false := by rw [beq_eq_false_iff_ne]; exact h3
  have e4 : (k == 4) = false := by rw [beq_eq_false_iff_ne]; exact h4
  have e5 : (k == 5) = false := by rw [beq_eq_false_iff_ne]; exact h5
  have e6 : (k == 6) = false := by rw [beq_eq_false_iff_ne]; exact h6
  clear h1 h2 h3 h4 h5 h6
  go_enter Try.func158, Try.ntmps158
  go_wp2
  go_ret
  exact ⟨by rw [← HV.out]; rfl, rfl⟩

set_option maxRecDepth 100000 in
set_option maxHeartbeats 8000000 in
theorem rxCheck_any (w0 : World) (F : Nat → Prop) :
    ∀ (n : Nat) (t : Rx) (cs : Array Value) (deep m : Int) (g : Nat) (μ : List Asrt) (w : World), (Rx.enc n).R F w0 cs.toList t → Rx.In m → 1 ≤ deep → deep ≤ 31 → St w0 w (aCel g 3 #[.int .i64 m] :: μ) →
      Calls Try.prog 118 #[.agg cs, .int .i64 deep, .pointer (some ⟨g, 0, none⟩)] w fun e w' => e = .returned (.int .i64 (Rx.chk n t deep m).1) ∧ St w0 w' (aCel g 3 #[.int .i64 (Rx.chk n t deep m).2] :: μ) := by
  intro n
  induction n with
  | zero => intro t cs deep m g μ w h; exact h.elim
  | succ n ih =>
    intro t cs deep m g μ w ht hin hd0 hd1 hst
    obtain ⟨n', hn, vk, hcs, ⟨hk0, hk1⟩, hok, hk⟩ := Rx.opened ht
    obtain rfl : n = n' := by omega
    obtain ⟨a0, a1, a2, a3, hws⟩ := Cs.okFour hok
    have hcs2 : cs = #[.int .i64 t.kind, .int .u64 a0, .int .u64 a1, .int .u64 a2, .int .u64 a3, vk] := by
      apply Array.toList_inj.1
      rw [hcs, Rx.cel, hws]; rfl
    subst hcs2
    obtain ⟨ak, bk, ok, ck, rfl, hkl, k3, k4⟩ := Rx.kidsAt hk
    obtain ⟨hi0, hi1⟩ := hin
    have hout := Rx.chk_out (f := n + 1) (t := t) (deep := deep) (n := m) ⟨hi0, hi1⟩
    obtain ⟨R, hR⟩ : ∃ R, Rx.chk (n + 1) t deep m = R := ⟨_, rfl⟩
    rw [hR] at hout ⊢
    rw [Rx.chk] at hR
    have hbad : Rx.bad t = ((Rx.kidsOf t.kind != (t.kids.length : Int)) || ((t.kind == 3) == decide ([a0, a1, a2, a3] = Dm.zero))) := by
      unfold Rx.bad
      rw [hws]
      congr 1
      · rw [Bool.eq_iff_iff]; simp
    rw [hbad] at hR
    have hs1 := ((hst.alloc #[.int .i64 t.kind, .int .u64 a0, .int .u64 a1, .int .u64 a2, .int .u64 a3, .slice ak t.kids.length ck] 27).get2).setCel 0 (.int .i64 (m + 1))
    have HS1 := Lib.hid (show St w0 _ (aCel g 3 #[.int .i64 (m + 1)] :: aCel w.heap.size 27 #[.int .i64 t.kind, .int .u64 a0, .int .u64 a1, .int .u64 a2, .int .u64 a3, .slice ak t.kids.length ck] :: μ) from hs1)
    have hbig := hst.alloc #[.int .i64 t.kind, .int .u64 a0, .int .u64 a1, .int .u64 a2, .int .u64 a3, .slice ak t.kids.length ck] 27
    have q0 := (hbig.nth 1 rfl).celAt (i := 0) rfl
    have q1 := (hbig.nth 1 rfl).celFree 0
    have HR := Lib.hid hR
    have HKI := Lib.hid (fun W => kids_any t.kind W)
    have K3 := Lib.hid k3; have K4 := Lib.hid k4; have IH := Lib.hid ih
    clear hs1 hbig hst hR k3 k4 ih hk ht hcs hok hws hbad hn
    generalize t.kind = kd at *
    generalize t.kids = ks at *
    by_cases h1 : 100 < m + 1
    · have he := HR.out
      rw [if_pos h1] at he
      subst he
      clear HR K3 K4 IH hkl
      go_enter Try.func118, Try.ntmps118
      go_wp2
      go_ret
      exact ⟨rfl, HS1.out.pick [0] 2 rfl rfl⟩
    by_cases h2 : 30 < deep
    · have he := HR.out
      rw [if_neg h1, if_pos h2] at he
      subst he
      clear HR K3 K4 IH hkl
      go_enter Try.func118, Try.ntmps118
      go_wp2
      go_ret
      exact ⟨rfl, HS1.out.pick [0] 2 rfl rfl⟩
    have hR2 := HR.out
    rw [if_neg h1, if_neg h2] at hR2
    clear HR
    have heq := fun W => Rx.eqz (a0 := a0) (a1 := a1) (a2 := a2) (a3 := a3) W
    generalize decide ([a0, a1, a2, a3] = Dm.zero) = bz at *
    generalize Rx.kidsOf kd = kk at *
    obtain ⟨b3, hb3⟩ : ∃ b, (kd == 3) = b := ⟨_, rfl⟩
    obtain ⟨bl, hbl⟩ : ∃ b, (kk != (ks.length : Int)) = b := ⟨_, rfl⟩
    rw [hb3, hbl] at hR2
    have HR := Lib.hid hR2
    clear hR2
    have HSN := Lib.hid fun n => HS1.out.drewN n
    go_enter Try.func118, Try.ntmps118
    go_wp2_with (fail)
    generalize hWW : World.setCell _ _ _ = W1 at *
    have HSN := Lib.hid fun n => HS1.out.drewN n
    obtain ⟨y0, y1, y2, y3, y4, y5⟩ := Rx.cel6 HS1.out 1 rfl
    go_quiet ((go_at_call 158; exact Calls.quiet_of_same (HKI.out _)))
    have HS := Lib.hid (HSN.out nq)
    clear HSN HS1 hWW q0 q1 y0 y1 y2 y3 y4 y5
    generalize World.drewN _ _ = W2 at *
    obtain ⟨y0, y1, y2, y3, y4, y5⟩ := Rx.cel6 HS.out 1 rfl
    have g0 := (HS.out.nth 0 rfl).celAt (i := 0) rfl
    cases bl
    · by_cases hbb : b3 = bz
      · subst hbb
        have he := HR.out
        rw [Bool.false_or, beq_self_eq_true, if_pos rfl] at he
        subst he
        have HSN := Lib.hid fun n => (HS.out.drewN n).pick [0] 2 rfl rfl
        go_wp2_with (fail)
        go_quiet (fail)
        have HS := Lib.hid (HSN.out nq)
        clear HSN
        go_wp2
        go_ret
        exact ⟨rfl, HS.out⟩
      · obtain rfl : bz = !b3 := by cases b3 <;> cases bz <;> simp_all
        have he := HR.out
        rw [Bool.false_or, show (b3 == !b3) = false by cases b3 <;> rfl, if_neg (by decide)] at he
        clear HR
        have HRL : Hid (Rx.chkK (fun k n' => Rx.chk n k (deep + 1) n') (ks.drop 0) (m + 1) = R) := Lib.hid he
        clear he
        have HSN := Lib.hid fun n => (HS.out.drewN n).pick [0, 1] 2 rfl rfl
        have hdw : IntKind.i64.wrap (deep + 1) = deep + 1 := IntWalk.i64_in _ (by omega)
        go_wp2_with (fail)
        go_quiet (fail)
        have HS := Lib.hid (HSN.out nq)
        clear HSN y0 y1 y2 y3 y4 y5 g0
        generalize World.drewN _ _ = W3 at *
        obtain ⟨y0, y1, y2, y3, y4, y5⟩ := Rx.cel6 HS.out 1 rfl
        go_wp2_with (fail)
        go_loopg [42] ks.length (fun gk v42 wr => ∃ (i : Nat) (m' : Int), i ≤ ks.length ∧ gk = ks.length - i ∧ v42 = .int .i64 i ∧ Rx.In m' ∧ Hid (Rx.chkK (fun k n' => Rx.chk n k (deep + 1) n') (ks.drop i) m' = R) ∧ St w0 wr (aCel g 3 #[.int .i64 m'] :: aCel w.heap.size 27 #[.int .i64 kd, .int .u64 a0, .int .u64 a1, .int .u64 a2, .int .u64 a3, .slice ak ks.length ck] :: μ))
        case atStart => exact ⟨0, m + 1, by omega, by omega, rfl, ⟨by omega, by omega⟩, HRL, HS.out⟩
        case round =>
          clear HS HRL y0 y1 y2 y3 y4 y5
          obtain ⟨i, m', hi, hgk, rfl, hin', HRL, hst⟩ := hrel
          have HGK := Lib.hid hgk
          have HIN := Lib.hid hin'
          clear hgk hin'
          by_cases hlt : i < ks.length
          · have hltI : (i : Int) < ks.length := by omega
            obtain ⟨rfl, -, -⟩ := K3.out (by omega)
            obtain ⟨b0, b1, b2, b3', ax, cx, -, e0, e1, e2, e3, e4, e5, hen⟩ := K4.out i hlt
            have he := HRL.out
            rw [Rx.chkK_at hlt] at he
            have hout2 := Rx.chk_out (f := n) (t := ks.getD i Rx.nil) (deep := deep + 1) (n := m') HIN.out
            have c0 := bkeep hst.bel e0; have c1 := bkeep hst.bel e1; have c2 := bkeep hst.bel e2; have c3 := bkeep hst.bel e3; have c4 := bkeep hst.bel e4; have c5 := bkeep hst.bel e5
            have HC := Lib.hid (fun W hW => IH.out (ks.getD i Rx.nil) #[.int .i64 (ks.getD i Rx.nil).kind, .int .u64 b0, .int .u64 b1, .int .u64 b2, .int .u64 b3', .slice ax (ks.getD i Rx.nil).kids.length cx] (deep + 1) m' g (aCel wr.heap.size 27 #[.int .i64 (ks.getD i Rx.nil).kind, .int .u64 b0, .int .u64 b1, .int .u64 b2, .int .u64 b3', .slice ax (ks.getD i Rx.nil).kids.length cx] :: aCel w.heap.size 27 #[.int .i64 kd, .int .u64 a0, .int .u64 a1, .int .u64 a2, .int .u64 a3, .slice (some ⟨bk, ok, none⟩) ks.length ck] :: μ) W hen HIN.out (by omega) (by omega) hW)
            have HST := Lib.hid (hst.alloc #[.int .i64 (ks.getD i Rx.nil).kind, .int .u64 b0, .int .u64 b1, .int .u64 b2, .int .u64 b3', .slice ax (ks.getD i Rx.nil).kids.length cx] 27).get2
            clear hst e0 e1 e2 e3 e4 e5 hen
            obtain ⟨Q, hQ⟩ : ∃ Q, Rx.chk n (ks.getD i Rx.nil) (deep + 1) m' = Q := ⟨_, rfl⟩
            rw [hQ] at HC he hout2
            have HE := Lib.hid he
            clear hQ he
            generalize (ks.getD i Rx.nil).kind = kd2 at *
            generalize (ks.getD i Rx.nil).kids.length = nx at *
            obtain ⟨e, m2⟩ := Q
            obtain ⟨o1, o2, o3, o4⟩ := hout2
            simp only at HC o1 o2 o3 o4
            go_wp2_with (fail)
            go_at_call 118
            refine (HC.out _ HST.out).mono ?_
            rintro ex w5 ⟨rfl, hst5⟩
            have HST5 := Lib.hid hst5
            clear hst5 HST HC c0 c1 c2 c3 c4 c5
            by_cases he0 : e = 0
            · subst he0
              have HRL := Lib.hid (show Rx.chkK (fun k n' => Rx.chk n k (deep + 1) n') (ks.drop (i + 1)) m2 = R by rw [← HE.out, if_pos rfl])
              have hm2 := o3 rfl
              go_wp2
              go_roundg (ks.length - (i + 1))
              case measure => have := HGK.out; omega
              case rel => exact ⟨i + 1, m2, by omega, rfl, by go_num, ⟨o1, hm2⟩, HRL, HST5.out.pick [0, 2] 3 rfl rfl⟩
            · have hne : (e != 0) = true := by simpa using he0
              have HRE := Lib.hid (show (e, m2) = R by rw [← HE.out, if_neg he0])
              go_wp2
              go_ret
              exact ⟨by rw [← HRE.out]; rfl, by rw [← HRE.out]; exact HST5.out.pick [0] 3 rfl rfl⟩
          · have hge : ¬ ((i : Int) < ks.length) := by omega
            have HRE := Lib.hid (show ((0 : Int), m') = R by rw [← HRL.out, Rx.chkK_end hlt])
            go_wp2
            go_ret
            exact ⟨by rw [← HRE.out]; rfl, by rw [← HRE.out]; exact hst.pick [0] 2 rfl rfl⟩
    · have he := HR.out
      rw [Bool.true_or, if_pos rfl] at he
      subst he
      go_wp2
      go_ret
      exact ⟨rfl, HS.out.pick [0] 2 rfl rfl⟩

set_option maxRecDepth 100000 in
theorem rexCheck_any (F : Nat → Prop) (n : Nat) (t : Rx) (cs : Array Value) (w : World) (ht : (Rx.enc n).R F w cs.toList t) :
    Calls Try.prog 54 #[.agg cs] w fun e w' => e = .returned (.int .i64 (Rx.err n t)) ∧ Below w.heap.size w w' := by
  obtain ⟨n', hn, vk, hcs, -, hok, hk⟩ := Rx.opened ht
  obtain ⟨a0, a1, a2, a3, hws⟩ := Cs.okFour hok
  have hcs2 : cs = #[.int .i64 t.kind, .int .u64 a0, .int .u64 a1, .int .u64 a2, .int .u64 a3, vk] := by
    apply Array.toList_inj.1
    rw [hcs, Rx.cel, hws]; rfl
  subst hcs2
  obtain ⟨ak, bk, ok, ck, rfl, -, -, -⟩ := Rx.kidsAt hk
  have hst := ((St.init w).alloc #[.int .i64 t.kind, .int .u64 a0, .int .u64 a1, .int .u64 a2, .int .u64 a3, .slice ak t.kids.length ck] 27).alloc #[.int .i64 0] 3
  simp only [World.size_alloc] at hst
  have HC := Lib.hid (rxCheck_any w F n t _ 1 0 (w.heap.size + 1) _ _ ht ⟨by decide, by decide⟩ (by decide) (by decide) hst)
  have HE := Lib.hid (show (Rx.chk n t 1 0).1 = Rx.err n t from rfl)
  generalize Rx.chk n t 1 0 = R at *
  clear hst ht hcs hok hws hk hn
  go_enter Try.func54, Try.ntmps54
  go_wp2_with (fail)
  go_at_call 118
  refine (HC.out).mono ?_
  rintro e w1 ⟨rfl, hst1⟩
  have HST := Lib.hid hst1
  clear hst1
  rw [HE.out]
  go_wp2
  go_ret
  exact ⟨rfl, HST.out.bel⟩
end Go.Proofs.Ytfelikfppjlcmaa
