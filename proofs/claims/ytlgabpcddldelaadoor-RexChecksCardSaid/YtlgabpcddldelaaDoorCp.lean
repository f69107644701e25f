/-
  The parts that classes cut the bytes into, in plain Lean: cutting class by class and sorting by the least byte gives the parts in the order of their least bytes.
-/
import Derived.Test.YtlgabpcddldelaaDoorCs
namespace Go.Proofs.YtlgabpcddldelaaDoor
set_option linter.unusedVariables false

namespace Cp
def alike (L : List (List Nat)) (b x : Nat) : Bool := L.all fun l => Dm.mem l b == Dm.mem l x
def blk (L : List (List Nat)) (b : Nat) : List Nat := Cs.of (alike L b)
def ins (p c : List Nat) : List Nat := Cs.of fun x => Dm.mem p x && Dm.mem c x
def outs (p c : List Nat) : List Nat := Cs.of fun x => Dm.mem p x && !Dm.mem c x
def one (p : List Nat) : List (List Nat) := if p = Dm.zero then [] else [p]
def cut (c p : List Nat) : List (List Nat) := one (ins p c) ++ one (outs p c)
def lo (p : List Nat) : Nat := ((List.range 256).find? (Dm.mem p)).getD 256
def first (L : List (List Nat)) (b : Nat) : Bool := (List.range b).all fun c => !alike L b c
def ref (L : List (List Nat)) : List (List Nat) := ((List.range 256).filter (first L)).map (blk L)

theorem alike_iff {L : List (List Nat)} {b x : Nat} : alike L b x = true ↔ ∀ l ∈ L, Dm.mem l b = Dm.mem l x := by
  unfold alike
  rw [List.all_eq_true]
  exact ⟨fun h l hl => by simpa using h l hl, fun h l hl => by simpa using h l hl⟩
theorem alike_self (L : List (List Nat)) (b : Nat) : alike L b b = true := alike_iff.2 fun _ _ => rfl
theorem alike_symm {L : List (List Nat)} {b x : Nat} (h : alike L b x = true) : alike L x b = true := alike_iff.2 fun l hl => (alike_iff.1 h l hl).symm
theorem alike_trans {L : List (List Nat)} {a b c : Nat} (h : alike L a b = true) (g : alike L b c = true) : alike L a c = true := alike_iff.2 fun l hl => (alike_iff.1 h l hl).trans (alike_iff.1 g l hl)
theorem mem_blk {L : List (List Nat)} {b x : Nat} (hx : x < 256) : Dm.mem (blk L b) x = alike L b x := Cs.mem_of hx
theorem blk_eq {L : List (List Nat)} {a b : Nat} (h : alike L a b = true) : blk L a = blk L b := Cs.of_congr fun x _ => by
  rw [Bool.eq_iff_iff]
  exact ⟨fun g => alike_trans (alike_symm h) g, fun g => alike_trans h g⟩
theorem blk_ok (L : List (List Nat)) (b : Nat) : Dm.Ok4 (blk L b) := Cs.ok_of _
theorem alike_app {L : List (List Nat)} {c : List Nat} {b x : Nat} : alike (L ++ [c]) b x = (alike L b x && (Dm.mem c b == Dm.mem c x)) := by simp [alike]
theorem ne_zero {p : List Nat} {x : Nat} (h : Dm.mem p x = true) : p ≠ Dm.zero := fun e => by rw [e, Dm.mem_zero] at h; cases h
theorem some_of_ne {p : Nat → Bool} (h : Cs.of p ≠ Dm.zero) : ∃ x, x < 256 ∧ p x = true := by
  by_cases g : ∃ x, x < 256 ∧ p x = true
  · exact g
  · refine absurd ?_ h
    rw [← Cs.of_false]
    exact Cs.of_congr fun x hx => by
      cases e : p x
      · rfl
      · exact absurd ⟨x, hx, e⟩ g

structure Inv (L all : List (List Nat)) : Prop where
  of : ∀ p ∈ all, ∃ b, b < 256 ∧ p = blk L b
  got : ∀ b, b < 256 → blk L b ∈ all
  apart : all.Pairwise fun p q => ∀ x, x < 256 → ¬(Dm.mem p x = true ∧ Dm.mem q x = true)

theorem mem_one {p q : List Nat} (h : q ∈ one p) : q = p ∧ p ≠ Dm.zero := by
  unfold one at h
  split at h
  · simp at h
  · rename_i hne; exact ⟨by simpa using h, hne⟩
theorem one_mem {p : List Nat} (h : p ≠ Dm.zero) : p ∈ one p := by unfold one; rw [if_neg h]; simp
theorem sub_ins {p c : List Nat} {x : Nat} (hx : x < 256) (h : Dm.mem (ins p c) x = true) : Dm.mem p x = true ∧ Dm.mem c x = true := by
  unfold ins at h
  rw [Cs.mem_of hx] at h
  simpa using h
theorem sub_outs {p c : List Nat} {x : Nat} (hx : x < 256) (h : Dm.mem (outs p c) x = true) : Dm.mem p x = true ∧ Dm.mem c x = false := by
  unfold outs at h
  rw [Cs.mem_of hx] at h
  simpa using h
theorem cut_sub {c p q : List Nat} (h : q ∈ cut c p) {x : Nat} (hx : x < 256) (hm : Dm.mem q x = true) : Dm.mem p x = true := by
  rcases List.mem_append.1 h with h | h
  · rw [(mem_one h).1] at hm; exact (sub_ins hx hm).1
  · rw [(mem_one h).1] at hm; exact (sub_outs hx hm).1
theorem ins_blk {L : List (List Nat)} {c : List Nat} {x : Nat} (h : Dm.mem c x = true) : ins (blk L x) c = blk (L ++ [c]) x := Cs.of_congr fun y hy => by
  rw [mem_blk hy, alike_app, h]
  cases Dm.mem c y <;> rfl
theorem outs_blk {L : List (List Nat)} {c : List Nat} {x : Nat} (h : Dm.mem c x = false) : outs (blk L x) c = blk (L ++ [c]) x := Cs.of_congr fun y hy => by
  rw [mem_blk hy, alike_app, h]
  cases Dm.mem c y <;> rfl

/-- A class cuts each part. -/
theorem inv_cut {L all : List (List Nat)} (c : List Nat) (h : Inv L all) : Inv (L ++ [c]) (all.flatMap (cut c)) := by
  refine ⟨fun p hp => ?_, fun b hb => ?_, ?_⟩
  · obtain ⟨q, hq, hpq⟩ := List.mem_flatMap.1 hp
    obtain ⟨b, hb, rfl⟩ := h.of q hq
    rcases List.mem_append.1 hpq with g | g
    · obtain ⟨rfl, hne⟩ := mem_one g
      obtain ⟨x, hx, hm⟩ := some_of_ne hne
      simp only [Bool.and_eq_true] at hm
      rw [mem_blk hx] at hm
      exact ⟨x, hx, by rw [blk_eq hm.1, ins_blk hm.2]⟩
    · obtain ⟨rfl, hne⟩ := mem_one g
      obtain ⟨x, hx, hm⟩ := some_of_ne hne
      simp only [Bool.and_eq_true, Bool.not_eq_true'] at hm
      rw [mem_blk hx] at hm
      exact ⟨x, hx, by rw [blk_eq hm.1, outs_blk hm.2]⟩
  · refine List.mem_flatMap.2 ⟨blk L b, h.got b hb, ?_⟩
    have hself : Dm.mem (blk (L ++ [c]) b) b = true := by rw [mem_blk hb]; exact alike_self _ _
    cases e : Dm.mem c b
    · refine List.mem_append.2 (Or.inr ?_)
      rw [outs_blk e]
      exact one_mem (ne_zero hself)
    · refine List.mem_append.2 (Or.inl ?_)
      rw [ins_blk e]
      exact one_mem (ne_zero hself)
  · refine List.pairwise_flatMap.2 ⟨fun p hp => ?_, h.apart.imp fun {p q} hpq x hx y hy z hz hb => ?_⟩
    · unfold cut one
      split <;> split <;> simp
      intro x hx g1 
      cases g2 : Dm.mem (outs p c) x
      · rfl
      · have := (sub_ins hx g1).2
        rw [(sub_outs hx g2).2] at this
        cases this
    · exact hpq z hz ⟨cut_sub hx hz hb.1, cut_sub hy hz hb.2⟩
/-- A class that was met before cuts nothing. -/
theorem inv_seen {L all : List (List Nat)} {c : List Nat} (hc : c ∈ L) (h : Inv L all) : Inv (L ++ [c]) all := by
  have e : ∀ b, blk (L ++ [c]) b = blk L b := fun b => Cs.of_congr fun x hx => by
    rw [alike_app]
    cases g : alike L b x
    · rfl
    · rw [alike_iff.1 g c hc]; simp
  exact ⟨fun p hp => by obtain ⟨b, hb, r⟩ := h.of p hp; exact ⟨b, hb, by rw [e, r]⟩, fun b hb => by rw [e]; exact h.got b hb, h.apart⟩
theorem inv_start : Inv [] [Cs.of fun _ => true] :=
  ⟨fun p hp => ⟨0, by omega, by rw [List.mem_singleton.1 hp]; rfl⟩, fun b hb => List.mem_singleton.2 rfl, List.pairwise_singleton _ _⟩
theorem Inv.perm {L a b : List (List Nat)} (h : Inv L a) (hp : a.Perm b) : Inv L b :=
  ⟨fun p hm => h.of p (hp.mem_iff.2 hm), fun x hx => hp.mem_iff.1 (h.got x hx), hp.pairwise h.apart fun {x y} g z hz hb => g z hz ⟨hb.2, hb.1⟩⟩

theorem lo_is {p : List Nat} {b : Nat} (hb : b < 256) (hm : Dm.mem p b = true) (hl : ∀ c, c < b → Dm.mem p c = false) : lo p = b := by
  have : (List.range 256).find? (Dm.mem p) = some b := by
    rw [List.find?_range_eq_some]
    exact ⟨hm, List.mem_range.2 hb, fun j hj => by simp [hl j hj]⟩
  unfold lo
  rw [this]; rfl
theorem lo_some {p : List Nat} {x : Nat} (hx : x < 256) (hm : Dm.mem p x = true) : lo p < 256 ∧ Dm.mem p (lo p) = true ∧ ∀ c, c < lo p → Dm.mem p c = false := by
  cases e : (List.range 256).find? (Dm.mem p) with
  | none => exact absurd hm (by have := List.find?_eq_none.1 e x (List.mem_range.2 hx); simpa using this)
  | some b =>
    have h := List.find?_range_eq_some.1 e
    have hb : lo p = b := by unfold lo; rw [e]; rfl
    rw [hb]
    exact ⟨List.mem_range.1 h.2.1, h.1, fun c hc => by have := h.2.2 c hc; simpa using this⟩
theorem first_iff {L : List (List Nat)} {b : Nat} : first L b = true ↔ ∀ c, c < b → alike L b c = false := by
  unfold first
  rw [List.all_eq_true]
  exact ⟨fun h c hc => by simpa using h c (List.mem_range.2 hc), fun h c hc => by simpa using h c (List.mem_range.1 hc)⟩
theorem lo_first {L : List (List Nat)} {b : Nat} (hb : b < 256) (h : first L b = true) : lo (blk L b) = b :=
  lo_is hb (by rw [mem_blk hb]; exact alike_self _ _) fun c hc => by rw [mem_blk (by omega)]; exact first_iff.1 h c hc
theorem sorted_eq {α : Type} {f : α → Nat} : ∀ {a b : List α}, a.Pairwise (fun x y => f x < f y) → b.Pairwise (fun x y => f x < f y) → (∀ x, x ∈ a ↔ x ∈ b) → a = b
  | [], [], _, _, _ => rfl
  | [], y :: b, _, _, h => absurd ((h y).2 (.head _)) (by simp)
  | x :: a, [], _, _, h => absurd ((h x).1 (.head _)) (by simp)
  | x :: a, y :: b, ha, hb, h => by
    rw [List.pairwise_cons] at ha hb
    have hxy : x = y := by
      rcases List.mem_cons.1 ((h x).1 (.head _)) with e | e
      · exact e
      · rcases List.mem_cons.1 ((h y).2 (.head _)) with g | g
        · exact g.symm
        · have := ha.1 _ g
          have := hb.1 _ e
          omega
    subst hxy
    rw [sorted_eq ha.2 hb.2 fun z => ⟨fun hz => ?_, fun hz => ?_⟩]
    · rcases List.mem_cons.1 ((h z).1 (.tail _ hz)) with e | e
      · subst e; exact absurd (ha.1 _ hz) (by omega)
      · exact e
    · rcases List.mem_cons.1 ((h z).2 (.tail _ hz)) with e | e
      · subst e; exact absurd (hb.1 _ hz) (by omega)
      · exact e
/-- What is cut and sorted is what the reference lists. -/
theorem ref_eq {L S : List (List Nat)} (h : Inv L S) (hs : S.Pairwise fun x y => lo x ≤ lo y) : S = ref L := by
  refine sorted_eq (f := lo) ?_ ?_ fun p => ⟨fun hp => ?_, fun hp => ?_⟩
  · refine (hs.and h.apart).imp_of_mem fun {x y} hx hy hxy => ?_
    obtain ⟨b, hb, rfl⟩ := h.of x hx
    obtain ⟨c, hc, rfl⟩ := h.of y hy
    have h1 := lo_some hb (p := blk L b) (by rw [mem_blk hb]; exact alike_self _ _)
    have h2 := lo_some hc (p := blk L c) (by rw [mem_blk hc]; exact alike_self _ _)
    refine Nat.lt_of_le_of_ne hxy.1 fun e => ?_
    exact hxy.2 _ h1.1 ⟨h1.2.1, by rw [e]; exact h2.2.1⟩
  · unfold ref
    rw [List.pairwise_map]
    refine (List.pairwise_lt_range.filter _).imp_of_mem fun {x y} hx hy hxy => ?_
    obtain ⟨x1, x2⟩ := List.mem_filter.1 hx
    obtain ⟨y1, y2⟩ := List.mem_filter.1 hy
    rw [lo_first (List.mem_range.1 x1) x2, lo_first (List.mem_range.1 y1) y2]
    exact hxy
  · obtain ⟨b, hb, rfl⟩ := h.of p hp
    have h1 := lo_some hb (p := blk L b) (by rw [mem_blk hb]; exact alike_self _ _)
    obtain ⟨g1, g2, g3⟩ := h1
    rw [mem_blk g1] at g2
    refine List.mem_map.2 ⟨lo (blk L b), List.mem_filter.2 ⟨List.mem_range.2 g1, first_iff.2 fun c hc => ?_⟩, (blk_eq g2).symm⟩
    have := g3 c hc
    rw [mem_blk (by omega)] at this
    cases e : alike L (lo (blk L b)) c
    · rfl
    · rw [alike_trans g2 e] at this; cases this
  · obtain ⟨b, hb, rfl⟩ := List.mem_map.1 hp
    exact h.got b (List.mem_range.1 (List.mem_filter.1 hb).1)
theorem ref_len (L : List (List Nat)) : (ref L).length ≤ 256 := by
  unfold ref
  rw [List.length_map]
  exact Nat.le_trans (List.length_filter_le _ _) (by simp)

theorem inv_len {L S : List (List Nat)} (h : Inv L S) : S.length ≤ 256 := by
  have hn : (S.map lo).Nodup := by
    unfold List.Nodup
    rw [List.pairwise_map]
    refine h.apart.imp_of_mem fun {x y} hx hy hxy e => ?_
    obtain ⟨b, hb, rfl⟩ := h.of x hx
    obtain ⟨c, hc, rfl⟩ := h.of y hy
    have h1 := lo_some hb (p := blk L b) (by rw [mem_blk hb]; exact alike_self _ _)
    have h2 := lo_some hc (p := blk L c) (by rw [mem_blk hc]; exact alike_self _ _)
    exact hxy _ h1.1 ⟨h1.2.1, by rw [e]; exact h2.2.1⟩
  have hs : ∀ x ∈ S.map lo, x ∈ List.range 256 := fun x hx => by
    obtain ⟨p, hp, rfl⟩ := List.mem_map.1 hx
    obtain ⟨b, hb, rfl⟩ := h.of p hp
    exact List.mem_range.2 (lo_some hb (p := blk L b) (by rw [mem_blk hb]; exact alike_self _ _)).1
  have := List.Nodup.length_le_of_subset hn hs
  simpa using this
theorem ok_of {L S : List (List Nat)} (h : Inv L S) : ∀ p ∈ S, Dm.Ok4 p := fun p hp => by
  obtain ⟨b, hb, rfl⟩ := h.of p hp
  exact blk_ok L b

/-- One step of the sorting: the pairs up to i are in order, but for those that end at k. -/
def near (M : List (List Nat)) (i k : Nat) : Prop := ∀ a b, a < b → b ≤ i → b ≠ k → lo (M.getD a []) ≤ lo (M.getD b [])
def swp (M : List (List Nat)) (k : Nat) : List (List Nat) := (M.set k (M.getD (k - 1) [])).set (k - 1) (M.getD k [])
theorem swp_perm {M : List (List Nat)} {k : Nat} (hk : k < M.length) : (swp M k).Perm M := by
  unfold swp
  have h1 : k - 1 < M.length := by omega
  have e1 : M.getD (k - 1) [] = M[k - 1] := by simp [List.getD, List.getElem?_eq_getElem h1]
  have e2 : M.getD k [] = M[k] := by simp [List.getD, List.getElem?_eq_getElem hk]
  rw [e1, e2]
  exact List.set_set_perm hk h1
theorem swp_get {M : List (List Nat)} {k : Nat} (h0 : 0 < k) (hk : k < M.length) (a : Nat) : (swp M k).getD a [] = if a = k then M.getD (k - 1) [] else if a = k - 1 then M.getD k [] else M.getD a [] := by
  unfold swp
  simp only [List.getD_eq_getElem?_getD, List.getElem?_set, List.length_set]
  by_cases h1 : a = k
  · subst h1
    rw [if_neg (by omega), if_pos rfl, if_pos hk, if_pos rfl]; rfl
  · by_cases h2 : a = k - 1
    · subst h2
      rw [if_pos rfl, if_pos (by omega), if_neg h1, if_pos rfl]; rfl
    · rw [if_neg (by omega), if_neg (by omega), if_neg h1, if_neg h2]
theorem near_swp {M : List (List Nat)} {i k : Nat} (h0 : 0 < k) (hk : k ≤ i) (hi : i < M.length) (h : near M i k) (hlt : lo (M.getD k []) < lo (M.getD (k - 1) [])) : near (swp M k) i (k - 1) := by
  intro a b hab hb hne
  rw [swp_get h0 (by omega), swp_get h0 (by omega), if_neg hne]
  by_cases b1 : b = k
  · subst b1
    rw [if_neg (by omega), if_pos rfl]
    by_cases a1 : a = b - 1
    · rw [if_pos a1]; omega
    · rw [if_neg a1]; exact h a (b - 1) (by omega) (by omega) (by omega)
  · rw [if_neg b1]
    by_cases a1 : a = k
    · rw [if_pos a1]; exact h (k - 1) b (by omega) hb b1
    · rw [if_neg a1]
      by_cases a2 : a = k - 1
      · rw [if_pos a2]; exact h k b (by omega) hb b1
      · rw [if_neg a2]; exact h a b hab hb b1
theorem near_end {M : List (List Nat)} {i k : Nat} (hk : k ≤ i) (h : near M i k) (he : k = 0 ∨ ¬ lo (M.getD k []) < lo (M.getD (k - 1) [])) : near M (i + 1) (i + 1) := by
  intro a b hab hb hne
  by_cases b1 : b = k
  · subst b1
    rcases he with he | he
    · omega
    · by_cases a1 : a = b - 1
      · subst a1; omega
      · have := h a (b - 1) (by omega) (by omega) (by omega)
        omega
  · exact h a b hab (by omega) b1
theorem near_start (M : List (List Nat)) : near M 1 1 := fun a b hab hb hne => by omega
theorem sorted_of {M : List (List Nat)} {i : Nat} (hi : M.length ≤ i) (h : near M i i) : M.Pairwise fun x y => lo x ≤ lo y := by
  rw [List.pairwise_iff_getElem]
  intro a b ha hb hab
  have := h a b hab (by omega) (by omega)
  simpa [List.getD, List.getElem?_eq_getElem ha, List.getElem?_eq_getElem hb] using this
end Cp
end Go.Proofs.YtlgabpcddldelaaDoor
