/-
  Dfa of the reference.
-/
import Derived.Test.YtlgabpcddldelaaDmMark
import Derived.Test.YtlgabpcddldelaaDmMake
import Derived.Deep.CutBlock
import Derived.Deep.DeepCutAuto
namespace Go.Proofs.Ytlgabpcddldelaa
set_option linter.unusedVariables false
set_option linter.unusedSimpArgs false
open Go.ChangeShapes Go.WideShapes Go.ChangeAt Go.RowKit

namespace Dm
def aSet (x : Ll.SV × List Int) : Asrt := aOwn 3 1 (Ll.slV x.1) (x.2.map Ll.iV)
theorem slE : ET Try.prog 24 23 1 24 := ET.mk' Try.underlying24 (z := .slice none 0 0) (by kernel_rfl) rfl (by decide)
abbrev q0 : List (Ll.SV × List Int) := [((none, 0, 0), [])]
/-- The sets so far: their values, their numbers. -/
def Sets (q : List (Ll.SV × List Int)) (S : List (List Nat)) : Prop := q.map Prod.snd = S.map (List.map ofN)
theorem Sets.len {q : List (Ll.SV × List Int)} {S : List (List Nat)} (h : Sets q S) : q.length = S.length := by have := congrArg List.length h; simpa using this
theorem Sets.get {q : List (Ll.SV × List Int)} {S : List (List Nat)} (h : Sets q S) {k : Nat} (hk : k < S.length) (d : Ll.SV × List Int) : (q.getD k d).2 = (S.getD k []).map ofN := by
  have hl := h.len
  have h1 : (q.map Prod.snd)[k]? = (S.map (List.map ofN))[k]? := by rw [show q.map Prod.snd = S.map (List.map ofN) from h]
  rw [List.getElem?_map, List.getElem?_map, List.getElem?_eq_getElem (by omega), List.getElem?_eq_getElem hk] at h1
  simp only [Option.map_some, Option.some.injEq] at h1
  simp [List.getD, List.getElem?_eq_getElem (by omega : k < q.length), List.getElem?_eq_getElem hk, h1]
theorem Sets.snoc {q : List (Ll.SV × List Int)} {S : List (List Nat)} (h : Sets q S) (v : Ll.SV) (t : List Nat) : Sets (q ++ [(v, t.map ofN)]) (S ++ [t]) := by
  unfold Sets at h ⊢
  rw [List.map_append, List.map_append, h]; rfl
theorem sets_zero (P : Pn) (k : Nat) : (sets P k).getD 0 [] = [] := by
  obtain ⟨T, h⟩ := sets_prefix P 0 k
  rw [Nat.zero_add] at h
  rw [h]; rfl
/-- The places marked so far. -/
def I0 (P : Pn) (n : Nat) : List Bool := if n = 0 then mk (List.replicate P.cl.length false) P.fi else List.replicate P.cl.length false
def Ik (P : Pn) (n : Nat) (fr : List Nat) (k : Nat) : List Bool := mk (I0 P n) ((fr.take k).flatMap fun y => P.fo.getD y [])
theorem I0_len (P : Pn) (n : Nat) : (I0 P n).length = P.cl.length := by
  unfold I0
  split
  · rw [mk_len, List.length_replicate]
  · rw [List.length_replicate]
theorem Ik_len (P : Pn) (n : Nat) (fr : List Nat) (k : Nat) : (Ik P n fr k).length = P.cl.length := by unfold Ik; rw [mk_len, I0_len]
theorem Ik_zero (P : Pn) (n : Nat) (fr : List Nat) : Ik P n fr 0 = I0 P n := by unfold Ik; rw [List.take_zero, List.flatMap_nil, mk_nil]
theorem Ik_succ (P : Pn) (n : Nat) (fr : List Nat) {k : Nat} (h : k < fr.length) : Ik P n fr (k + 1) = mk (Ik P n fr k) (P.fo.getD (fr.getD k 0) []) := by
  unfold Ik
  rw [List.take_succ_eq_append_getElem h, List.flatMap_append, mk_app]
  simp [List.getD, List.getElem?_eq_getElem h]
theorem Ik_all (P : Pn) (hg : Good P) (n : Nat) (fr : List Nat) (hfr : ∀ y ∈ fr, y < P.cl.length) (h0 : n = 0 → fr = []) (x : Nat) (hx : x < P.cl.length) : (Ik P n fr fr.length).getD x false = all P n fr x := by
  unfold Ik
  rw [List.take_length, mk_get]
  · unfold I0 all
    by_cases hn : n = 0
    · rw [if_pos hn, if_pos hn, h0 hn, List.flatMap_nil, mk_get]
      · simp [List.getD, hx]
      · intro y hy
        rw [List.length_replicate]; exact hg.hfi y hy
    · rw [if_neg hn, if_neg hn]
      have : (List.replicate P.cl.length false).getD x false = false := by simp [List.getD, hx]
      rw [this, Bool.false_or, Bool.eq_iff_iff, List.contains_iff_mem, List.mem_flatMap, List.any_eq_true]
      constructor
      · rintro ⟨y, hy, h⟩; exact ⟨y, hy, List.contains_iff_mem.2 h⟩
      · rintro ⟨y, hy, h⟩; exact ⟨y, hy, List.contains_iff_mem.1 h⟩
  · intro z hz
    obtain ⟨y, hy, hz⟩ := List.mem_flatMap.1 hz
    rw [I0_len]
    exact hg.hff y (hfr y hy) z hz
theorem cut_succL (P : Pn) (k : Nat) (fr : List Nat) (b y : Nat) : cut P k fr b (y + 1) = if (all P k fr y && Pl.has (P.cl.getD y []) b) = true then cut P k fr b y ++ [y] else cut P k fr b y := by
  unfold cut
  rw [List.range_succ, List.filter_append]
  split
  · rename_i h
    simp only [List.filter_cons, h, if_true, List.filter_nil]
  · rename_i h
    simp only [List.filter_cons, h, if_false, List.filter_nil, List.append_nil, Bool.false_eq_true]
theorem cut_len (P : Pn) (k : Nat) (fr : List Nat) (b y : Nat) : (cut P k fr b y).length ≤ y := by
  unfold cut
  have := List.length_filter_le (fun x => all P k fr x && Pl.has (P.cl.getD x []) b) (List.range y)
  rw [List.length_range] at this; exact this
theorem ofN_inj {a b : List Nat} (h : a.map ofN = b.map ofN) : a = b := by
  have h2 := congrArg (List.map Int.toNat) h
  simpa [Function.comp_def, ofN] using h2
theorem at_of {S : List (List Nat)} {t : List Nat} {j : Nat} (h1 : 1 ≤ j) (h2 : j ≤ S.length) (hn : ∀ i, 1 ≤ i → i < j → S.getD i [] ≠ t) (he : j = S.length ∨ S.getD j [] = t) : at' S t = j := by
  unfold at'
  have hl : (S.drop 1).length = S.length - 1 := by simp
  have hd : ∀ i (hi : i < (S.drop 1).length), (S.drop 1)[i] = S.getD (i + 1) [] := fun i hi => by
    rw [List.getElem_drop]
    simp [List.getD, List.getElem?_eq_getElem (by omega : i + 1 < S.length), Nat.add_comm]
  have key : (S.drop 1).findIdx (fun s => decide (s = t)) = j - 1 := by
    rcases he with he | he
    · have : (S.drop 1).findIdx (fun s => decide (s = t)) = (S.drop 1).length := by
        rw [List.findIdx_eq_length]
        intro x hx
        obtain ⟨i, hi, rfl⟩ := List.getElem_of_mem hx
        rw [decide_eq_false_iff_not, hd i hi]
        exact hn (i + 1) (by omega) (by omega)
      omega
    · by_cases hj : j < S.length
      · rw [List.findIdx_eq (by omega)]
        refine ⟨?_, fun i hi => ?_⟩
        · rw [decide_eq_true_iff, hd (j - 1) (by omega), show j - 1 + 1 = j by omega]; exact he
        · rw [decide_eq_false_iff_not, hd i (by omega)]
          exact hn (i + 1) (by omega) (by omega)
      · have : (S.drop 1).findIdx (fun s => decide (s = t)) = (S.drop 1).length := by
          rw [List.findIdx_eq_length]
          intro x hx
          obtain ⟨i, hi, rfl⟩ := List.getElem_of_mem hx
          rw [decide_eq_false_iff_not, hd i hi]
          exact hn (i + 1) (by omega) (by omega)
        omega
  omega
theorem slice_any {w : World} {B : Nat} {e : TypeId} {v : Value} {xs : List Value} (h : Own w B e 1 v xs) : ∃ a c, v = .slice a xs.length c := by
  rcases h.shape with ⟨h1, h2⟩ | ⟨g, cap, h1, _⟩
  · rw [h2]; exact ⟨_, _, h1⟩
  · exact ⟨_, _, h1⟩
theorem slice_of {w : World} {B : Nat} {e : TypeId} {v : Value} {xs : List Value} (h : Own w B e 1 v xs) (hp : 0 < xs.length) : ∃ g c, v = .slice (some ⟨g, 0, none⟩) xs.length c := by
  rcases h.shape with ⟨_, h2⟩ | ⟨g, cap, h1, _⟩
  · rw [h2] at hp; simp at hp
  · exact ⟨g, cap, h1⟩
theorem sel_lt {n : Nat} {S : List (List Nat)} (h : Sel n S) {k : Nat} (hk : k < S.length) : (S.getD k []).length ≤ n ∧ ∀ x ∈ S.getD k [], x < n := by
  have hm : S.getD k [] ∈ S := by rw [show S.getD k [] = S[k] by simp [List.getD, List.getElem?_eq_getElem hk]]; exact List.getElem_mem hk
  obtain ⟨c, hc⟩ := h.1 _ hm
  rw [hc]
  refine ⟨?_, fun x hx => List.mem_range.1 (List.mem_filter.1 hx).1⟩
  have := List.length_filter_le c (List.range n)
  rw [List.length_range] at this; exact this
theorem Sets.row {q : List (Ll.SV × List Int)} {S : List (List Nat)} (h : Sets q S) {w0 w : World} {μ : List Asrt} (hst : St w0 w (aAll (q.map aSet) :: μ)) {k : Nat} (hk : k < S.length) (hl : (S.getD k []).length ≤ 200) :
    ∃ a c, Ll.slV ((q.map Prod.fst).getD k (none, 0, 0)) = .slice a (S.getD k []).length c ∧ Row1 Ll.iV 0 w (.slice a (S.getD k []).length c) ((S.getD k []).map ofN) := by
  have hql := h.len
  have hkq : k < q.length := by omega
  have hg := h.get hk ((none, 0, 0), [])
  have hm : q.getD k ((none, 0, 0), []) ∈ q := by rw [show q.getD k ((none, 0, 0), []) = q[k] by simp [List.getD, List.getElem?_eq_getElem hkq]]; exact List.getElem_mem hkq
  have ho := hst.allAt (aSet (q.getD k ((none, 0, 0), []))) (List.mem_map.2 ⟨_, hm, rfl⟩)
  have e : (q.map Prod.fst).getD k (none, 0, 0) = (q.getD k ((none, 0, 0), [])).1 := by
    simp [List.getD, List.getElem?_eq_getElem hkq]
  rw [e]
  generalize q.getD k ((none, 0, 0), []) = x at *
  obtain ⟨sv, l⟩ := x
  simp only at hg ho ⊢
  subst hg
  have hr := Own.row1 (f := Ll.iV) (fun _ => rfl) 0 ho (by rw [List.length_map]; omega)
  have hr2 := hr
  obtain ⟨a, b, o, c, h1, _⟩ := hr2
  rw [List.length_map] at h1
  rw [h1] at hr
  exact ⟨a, c, h1, hr⟩
theorem Sets.row' {q : List (Ll.SV × List Int)} {S : List (List Nat)} (h : Sets q S) {w0 w : World} {μ : List Asrt} (hst : St w0 w (aAll (q.map aSet) :: μ)) {k : Nat} (hk : k < S.length) (hl : (S.getD k []).length ≤ 200) {v : Value} (hv : Ll.slV ((q.map Prod.fst).getD k (none, 0, 0)) = v) :
    Row1 Ll.iV 0 w v ((S.getD k []).map ofN) := by
  obtain ⟨a, c, h1, h2⟩ := h.row hst hk hl
  rw [hv] at h1
  rw [h1]; exact h2
abbrev posn (B : Nat) (vc vr vi vo vl ve : Value) : Asrt := aCel B 27 #[vc, vr, vi, vo, vl, ve]
abbrev rbase (B : Nat) (v6 : Value) (q : List (Ll.SV × List Int)) (vR vT : Value) (P : Pn) (n : Nat) (S : List (List Nat)) (pn : Asrt) : List Asrt :=
  aOwn 23 1 v6 ((q.map Prod.fst).map Ll.slV) :: aAll (q.map aSet) :: aCel (B + 1 + 1) 30 #[vR, vT] :: aOwn 96 256 vR ((rows P n).map Wd.rowV) :: aOwn 3 1 vT ((tags P S).map (Value.int .i64)) :: aCel (B + 1) 30 #[.slice none 0 0, .slice none 0 0] :: pn :: []
/-- A new set, its tag: laid to the others. -/
theorem newSet {w0 w : World} {P : Pn} {n : Nat} {S1 : List (List Nat)} {T : List Nat} {q : List (Ll.SV × List Int)} {A g8 J pn : Asrt} {B : Nat} {v7 vR vT : Value} {a : Option Addr} {c : Nat} (h0 : 0 < S1.length)
    (h : St w0 w [aCel (B + 1 + 1) 30 #[vR, vT], aOwn 3 1 vT ((tags P S1).map (Value.int .i64) ++ [.int .i64 (least P T false)]), pn, aOwn 23 1 v7 ((q.map Prod.fst).map Ll.slV ++ [Ll.slV (a, T.length, c)]), A, aOwn 3 1 (.slice a T.length c) ((T.map ofN).map Ll.iV), g8, J, aAll (q.map aSet), aOwn 96 256 vR ((rows P n).map Wd.rowV), aCel (B + 1) 30 #[.slice none 0 0, .slice none 0 0]]) :
    St w0 w (A :: g8 :: J :: rbase B v7 (q ++ [((a, T.length, c), T.map ofN)]) vR vT P n (S1 ++ [T]) pn) := by
  have h2 := St.snoc (A := aSet ((a, T.length, c), T.map ofN)) (h.pick (ρ := aOwn 3 1 (.slice a T.length c) ((T.map ofN).map Ll.iV) :: aAll (q.map aSet) :: [A, g8, J, aOwn 23 1 v7 ((q.map Prod.fst).map Ll.slV ++ [Ll.slV (a, T.length, c)]), aCel (B + 1 + 1) 30 #[vR, vT], aOwn 96 256 vR ((rows P n).map Wd.rowV), aOwn 3 1 vT ((tags P S1).map (Value.int .i64) ++ [.int .i64 (least P T false)]), aCel (B + 1) 30 #[.slice none 0 0, .slice none 0 0], pn]) [5, 8, 4, 6, 7, 3, 0, 9, 1, 10, 2] 11 rfl rfl)
  have e1 : ((q ++ [((a, T.length, c), T.map ofN)]).map Prod.fst).map Ll.slV = (q.map Prod.fst).map Ll.slV ++ [Ll.slV (a, T.length, c)] := by simp
  have e2 : (q ++ [((a, T.length, c), T.map ofN)]).map aSet = q.map aSet ++ [aSet ((a, T.length, c), T.map ofN)] := by simp
  have e3 : (tags P (S1 ++ [T])).map (Value.int .i64) = (tags P S1).map (Value.int .i64) ++ [.int .i64 (least P T false)] := by rw [tags_snoc P h0, List.map_append]; rfl
  unfold rbase
  rw [e1, e2, e3]
  exact h2.pick [1, 2, 3, 4, 0, 5, 6, 7, 8, 9] 10 rfl rfl
end Dm
attribute [irreducible] Dm.I0 Dm.Ik

set_option maxRecDepth 100000 in
set_option maxHeartbeats 8000000 in
theorem dmRef_any (P : Dm.Pn) (hg : Dm.Good P) (vc vr vi vo vl ve : Value) (w : World) (F : Nat → Prop) (hF : ∀ b, F b → b < w.heap.size) (hin : Dm.In F w vc vr vi vo vl ve P) :
    Calls Try.prog 12 #[.agg #[vc, vr, vi, vo, vl, ve]] w fun e w' => ∃ o, Hid (Dm.Says P o) ∧ Dm.Res w' e o ∧ Below w.heap.size w w' := by
  have HG := Lib.hid hg
  have HIN := Lib.hid hin
  have HF := Lib.hid hF
  have hst0 := (((St.init w).alloc #[vc, vr, vi, vo, vl, ve] 27).alloc #[.slice none 0 0, .slice none 0 0] 30).alloc #[.slice none 0 0, .slice none 0 0] 30
  have hst1 := (hst0.alloc #[.slice none 0 0] 23).turn (A' := aOwn 23 1 (.slice (some ⟨(((w.alloc (.cells #[vc, vr, vi, vo, vl, ve] 27)).alloc (.cells #[.slice none 0 0, .slice none 0 0] 30)).alloc (.cells #[.slice none 0 0, .slice none 0 0] 30)).heap.size, 0, none⟩) 1 1) [.slice none 0 0]) rfl (Own.one (u := .slice none 0 0) (heap_alloc_new _ _) rfl)
  simp only [World.size_alloc] at hst1
  have HST := Lib.hid hst1
  have HLE := Lib.hid (fun W μ h => rLeast_any P hg vc vr vi vo vl ve (.slice none 0 0) [] (fun x hx => by cases hx) true w.heap.size w W F hF hin μ h Row1.nil)
  clear hst0 hst1 hg hin hF
  go_enter Try.func12, Try.ntmps12
  go_wp2_with (fail)
  go_at_call 43
  refine (HLE.out _ _ (HST.out.pick [3, 1, 2, 0] 4 rfl rfl)).mono ?_
  rintro e w1 ⟨rfl, hb1⟩
  have hst2 := ((HST.out.call hb1).alloc #[.int .i64 (Dm.least P [] true)] 3).turn (A' := aOwn 3 1 (.slice (some ⟨w1.heap.size, 0, none⟩) 1 1) [.int .i64 (Dm.least P [] true)]) rfl (Own.one (u := .int .i64 (Dm.least P [] true)) (heap_alloc_new _ _) rfl)
  have x1 := (hst2.nth 2 rfl).celAt (i := 1) (v := .slice none 0 0) rfl
  have xf1 := (hst2.nth 2 rfl).celFree 1
  have hst3 := (((hst2.pick [2, 0, 1, 3, 4] 5 rfl rfl).setCel 1 (.slice (some ⟨w1.heap.size, 0, none⟩) 1 1)).nilAll.nilOwn 3 1)
  have hst4 := St.snoc (A := Dm.aSet ((none, 0, 0), [])) hst3
  have HST2 := Lib.hid ((hst4.nilOwn 96 256).pick (ρ := [aOwn 23 1 (.slice (some ⟨w.heap.size + 1 + 1 + 1, 0, none⟩) 1 1) ((Dm.q0.map Prod.fst).map Ll.slV), aAll (Dm.q0.map Dm.aSet), aCel (w.heap.size + 1 + 1) 30 #[.slice none 0 0, .slice (some ⟨w1.heap.size, 0, none⟩) 1 1], aOwn 96 256 (.slice none 0 0) ((Dm.rows P 0).map Wd.rowV), aOwn 3 1 (.slice (some ⟨w1.heap.size, 0, none⟩) 1 1) ((Dm.tags P (Dm.sets P 0)).map (Value.int .i64)), aCel (w.heap.size + 1) 30 #[.slice none 0 0, .slice none 0 0], aCel w.heap.size 27 #[vc, vr, vi, vo, vl, ve]]) [4, 1, 2, 0, 3, 5, 6] 7 rfl rfl)
  clear hst2 hst3 hst4 hb1 HST HLE
  go_wp2_with (fail)
  go_loopg [6, 7] 201 (fun gz v6 v7 wr => ∃ (n : Nat) (vs vR vT : Value) (q : List (Ll.SV × List Int)), n ≤ (Dm.sets P n).length ∧ (Dm.sets P n).length ≤ 200 ∧ gz = 201 - n ∧ v7 = .int .i64 n ∧ vs = v6 ∧ Hid (Dm.Sets q (Dm.sets P n)) ∧ St w wr (Dm.rbase w.heap.size vs q vR vT P n (Dm.sets P n) (Dm.posn w.heap.size vc vr vi vo vl ve)))
  case atStart => exact ⟨0, _, .slice none 0 0, .slice (some ⟨w1.heap.size, 0, none⟩) 1 1, Dm.q0, by simp, by simp [Dm.sets], by omega, rfl, rfl, Lib.hid rfl, HST2.out⟩
  case round =>
    clear HST2 x1 xf1
    obtain ⟨n, vs, vR, vT, q, hn1, hn2, hgz, rfl, rfl, HQ, hst⟩ := hrel
    have HGZ := Lib.hid hgz
    clear hgz
    have hs0 := Dm.sets_ne P n
    have hql := HQ.out.len
    obtain ⟨gs, cs, hvs⟩ := Dm.slice_of (hst.nth 0 rfl).own (by rw [List.length_map, List.length_map]; omega)
    rw [List.length_map, List.length_map, hql] at hvs
    subst hvs
    have HQL := Lib.hid hql
    clear hql
    by_cases hlt : n < (Dm.sets P n).length
    · have hltI : (n : Int) < (Dm.sets P n).length := by omega
      have h1 := HIN.out.h1
      obtain ⟨ac, bc, oc, cc, rfl, -, k3, k4⟩ := slCls h1
      have K3 := Lib.hid k3; have K4 := Lib.hid k4
      clear h1 k3 k4
      have hsl := Dm.sel_lt (Dm.sel_sets P n) hlt
      have hnc200 := HG.out.hn
      obtain ⟨af, cf, hsv, hrow⟩ := HQ.out.row (hst.nth 1 rfl) hlt (by omega)
      have hfr0 : Hid (n = 0 → (Dm.sets P n).getD n [] = []) := Lib.hid (fun h0 => by rw [h0]; exact Dm.sets_zero P 0)
      have HSUC := Lib.hid (Dm.sets_succ (P := P) (k := n) hlt)
      have HROWS := Lib.hid (show Dm.rows P (n + 1) = Dm.rows P n ++ [(Dm.rowK P n ((Dm.sets P n).getD n []) (Dm.sets P n) 256).2] from Dm.rows_succ P n)
      obtain ⟨fr, hfr⟩ : ∃ fr, (Dm.sets P n).getD n [] = fr := ⟨_, rfl⟩
      rw [hfr] at hsl hsv hrow hfr0 HSUC HROWS
      have HFR := Lib.hid hfr
      have HSL := Lib.hid hsl
      have HSV := Lib.hid hsv
      have HROW := Lib.hid hrow
      have HST := Lib.hid hst
      have p0 := (hst.nth 6 rfl).celAt (i := 0) (v := .slice ac P.cl.length cc) rfl
      have hnc : (P.cl.length : Int) ≤ 200 := by omega
      clear hst hsl hsv hrow hfr hs0
      rename World => wo
      have HI := Lib.hid (fun (h : n = 0) => show Dm.mk (List.replicate P.cl.length false) P.fi = Dm.I0 P n by unfold Dm.I0; rw [if_pos h])
      have HJ := Lib.hid (fun (h : ¬ n = 0) => show List.replicate P.cl.length false = Dm.I0 P n by unfold Dm.I0; rw [if_neg h])
      go_upto_if 39 with (refine St.make rfl (.tmp 31) rfl Try.underlying25 (z := .bool false) (bytes := 1) (by kernel_rfl) rfl HST.out P.cl.length rfl (by omega) (by decide) ?_; intro gA wm hstm; have HSTM := Lib.hid (hstm.alloc #[.slice (some ⟨gA, 0, none⟩) P.cl.length P.cl.length] 25); have s0 := ((HSTM.out.nth 2 rfl).cellOwn (f := Ll.slV) (fun _ => rfl) n (by rw [List.length_map, HQL.out]; exact hlt) (none, 0, 0)).1; rw [HSV.out] at s0; clear hstm p0)
      go_cut [] (fun wx => St w wx (aCel wm.heap.size 25 #[.slice (some ⟨gA, 0, none⟩) P.cl.length P.cl.length] :: aOwn 4 1 (.slice (some ⟨gA, 0, none⟩) P.cl.length P.cl.length) ((Dm.I0 P n).map Value.bool) :: Dm.rbase w.heap.size (.slice (some ⟨gs, 0, none⟩) (Dm.sets P n).length cs) q vR vT P n (Dm.sets P n) (Dm.posn w.heap.size (.slice ac P.cl.length cc) vr vi vo vl ve)))
      case first =>
        by_cases hn0 : n = 0
        · have hnb : ((n : Int) == 0) = true := by rw [beq_iff_eq]; omega
          have HII := Lib.hid (HI.out hn0)
          have hst5 := HSTM.out
          have e : List.replicate P.cl.length (Value.bool false) = (List.replicate P.cl.length false).map Value.bool := by simp
          rw [e] at hst5
          have HST5 := Lib.hid hst5
          have p2 := (hst5.nth 8 rfl).celAt (i := 2) (v := vi) rfl
          clear hn0 hst5 e s0 HSTM
          go_wp2_with (fail)
          go_at_call 44
          refine (rMark_any (List.replicate P.cl.length false) P.fi P.cl.length (by simp) hnc200 HG.out.hfi vi gA P.cl.length wm.heap.size w _ F HIN.out.h3 _ HST5.out).mono ?_
          rintro e w5 ⟨rfl, hst6⟩
          rw [HII.out] at hst6
          have HST6 := Lib.hid hst6
          clear hst6 HST5 p2
          go_wp2
          go_meet
          exact HST6.out
        · have hnb : ((n : Int) == 0) = false := by rw [beq_eq_false_iff_ne]; omega
          have HJJ := Lib.hid (HJ.out hn0)
          have hst5 := HSTM.out
          have e : List.replicate P.cl.length (Value.bool false) = (List.replicate P.cl.length false).map Value.bool := by simp
          rw [e, HJJ.out] at hst5
          have HST5 := Lib.hid hst5
          clear hn0 hst5 e s0 HSTM
          go_wp2
          go_meet
          exact HST5.out
      case rest =>
        have HCUT := Lib.hid hcut
        clear hcut HST HI HJ HSTM s0 HROW
        have hfrI : (fr.length : Int) ≤ 200 := by have := HSL.out.1; omega
        go_wp2_with (fail)
        go_loopg [11] fr.length (fun gz v11 wr => ∃ k : Nat, k ≤ fr.length ∧ gz = fr.length - k ∧ v11 = .int .i64 k ∧ St w wr (aCel wm.heap.size 25 #[.slice (some ⟨gA, 0, none⟩) P.cl.length P.cl.length] :: aOwn 4 1 (.slice (some ⟨gA, 0, none⟩) P.cl.length P.cl.length) ((Dm.Ik P n fr k).map Value.bool) :: Dm.rbase w.heap.size (.slice (some ⟨gs, 0, none⟩) (Dm.sets P n).length cs) q vR vT P n (Dm.sets P n) (Dm.posn w.heap.size (.slice ac P.cl.length cc) vr vi vo vl ve)))
        case atStart => exact ⟨0, by omega, by omega, rfl, by rw [Dm.Ik_zero]; exact HCUT.out⟩
        case round =>
          clear HCUT
          obtain ⟨k, hk, hgz, rfl, hst⟩ := hrel
          have HGK := Lib.hid hgz
          clear hgz
          rename World => wu
          by_cases hlk : k < fr.length
          · have hlkI : (k : Int) < fr.length := by omega
            have hrow := HQ.out.row' (hst.nth 3 rfl) hlt (by rw [HFR.out]; omega) HSV.out
            rw [HFR.out] at hrow
            obtain ⟨af2, bf, of, cf2, hv, -, f3, f4⟩ := hrow
            simp only [Value.slice.injEq] at hv
            obtain ⟨rfl, -, rfl⟩ := hv
            have hb := f4 k (by rw [List.length_map]; exact hlk)
            rw [Dm.ofN_get] at hb
            unfold Ll.iV at hb
            have hym := HSL.out.2 (fr.getD k 0) (by rw [show fr.getD k 0 = fr[k] by simp [List.getD, List.getElem?_eq_getElem hlk]]; exact List.getElem_mem hlk)
            obtain rfl := f3 (by rw [List.length_map]; omega)
            have HIS := Lib.hid (Dm.Ik_succ P n fr hlk)
            have HBB : Hid (∀ (W : World) (μ : List Asrt) (X : List Bool), St w W (aCel wm.heap.size 25 #[.slice (some ⟨gA, 0, none⟩) P.cl.length P.cl.length] :: aOwn 4 1 (.slice (some ⟨gA, 0, none⟩) P.cl.length P.cl.length) (X.map Value.bool) :: Dm.rbase w.heap.size (.slice (some ⟨gs, 0, none⟩) (Dm.sets P n).length cs) q vR vT P n (Dm.sets P n) (Dm.posn w.heap.size (.slice ac P.cl.length cc) vr vi vo vl ve)) → W.cell? ⟨bf, of + k, none⟩ = some (.int .i64 ((fr.getD k 0 : Nat) : Int))) := Lib.hid (fun W μ X h => by
              have hrow := HQ.out.row' (h.nth 3 rfl) hlt (by rw [HFR.out]; omega) HSV.out
              rw [HFR.out] at hrow
              obtain ⟨af2, bf2, of2, cf2, hv, -, f3', f4'⟩ := hrow
              have h1 := f3' (by rw [List.length_map]; omega)
              simp only [Value.slice.injEq] at hv
              obtain ⟨h2, -, -⟩ := hv
              rw [h1] at h2
              simp only [Option.some.injEq, Addr.mk.injEq, and_true] at h2
              have h3 := f4' k (by rw [List.length_map]; exact hlk)
              rw [Dm.ofN_get] at h3
              rw [h2.1, h2.2]; exact h3)
            have HIL := Lib.hid (Dm.Ik_len P n fr k)
            generalize fr.getD k 0 = y at *
            obtain ⟨ao, bo, oo, co, hvo, o3, o4⟩ := slRowsI HIN.out.h4
            have hyo : y < P.fo.length := by rw [HG.out.hfo]; exact hym
            obtain ⟨rfl, -, -⟩ := o3 (by omega)
            obtain ⟨al, cl, o5, o6⟩ := o4 y hyo
            have HFF := Lib.hid (HG.out.hff y hym)
            have O6 := Lib.hid o6
            have d0 := bkeep hst.drew.bel o5
            have O5 := Lib.hid o5
            have p3 := (hst.drew.nth 8 rfl).celAt (i := 3) (v := vo) rfl
            subst hvo
            have hyoI : (y : Int) < P.fo.length := by omega
            have HST := Lib.hid hst.drew
            clear hst f3 f4 o3 o4 o5 o6
            generalize P.fo.getD y [] = lf at *
            go_wp2_with (fail)
            refine wp_region_held_drew (S := (fun w' => w'.cell? ⟨w.heap.size, 3, none⟩ = some (.slice (some ⟨bo, oo, none⟩) P.fo.length co) ∧ w'.cell? ⟨bf, of + k, none⟩ = some (.int .i64 y) ∧ w'.cell? ⟨bo, oo + y, none⟩ = some (.slice al lf.length cl))) (by kernel_rfl) ?_ (fun hHeld => ?_)
            · (try dsimp only); (first | exact ⟨p3, hb, d0⟩ | exact ⟨p3b, hbb, d0b⟩)

            refine wpAnyH_take (i := 0) (v := ?_) rfl (by kernel_rfl) (by kernel_rfl) (by kernel_rfl) (fun _ _ _ h => h) (Or.inl ⟨by rfl, ?_⟩) (by assumption) ?_
            rotate_left; focus (intro w hSw; (try dsimp only at hSw); go_simp; try (with_reducible rfl); done)
            try simp only [List.getElem_toArray, List.getElem_cons_zero, List.getElem_cons_succ, Act.put, List.setIfInBounds_toArray, List.set_cons_zero, List.set_cons_succ]
            refine wpAnyH_take (i := 1) (v := ?_) rfl (by kernel_rfl) (by kernel_rfl) (by kernel_rfl) (fun _ _ _ h => h) (Or.inl ⟨by rfl, ?_⟩) (by assumption) ?_
            rotate_left; focus (intro w hSw; (try dsimp only at hSw); go_simp; try (with_reducible rfl); done)
            try simp only [List.getElem_toArray, List.getElem_cons_zero, List.getElem_cons_succ, Act.put, List.setIfInBounds_toArray, List.set_cons_zero, List.set_cons_succ]
            refine wpAnyH_take (i := 2) (v := ?_) rfl (by kernel_rfl) (by kernel_rfl) (by kernel_rfl) (fun _ _ _ h => h) (Or.inl ⟨by rfl, ?_⟩) (by assumption) ?_
            rotate_left; focus (intro w hSw; (try dsimp only at hSw); go_simp; try (with_reducible rfl); done)
            try simp only [List.getElem_toArray, List.getElem_cons_zero, List.getElem_cons_succ, Act.put, List.setIfInBounds_toArray, List.set_cons_zero, List.set_cons_succ]
            refine wpAnyH_take (i := 3) (v := ?_) rfl (by kernel_rfl) (by kernel_rfl) (by kernel_rfl) (fun _ _ _ h => h) (Or.inl ⟨by rfl, ?_⟩) (by assumption) ?_
            rotate_left; focus (intro w hSw; (try dsimp only at hSw); go_simp; try (with_reducible rfl); done)
            try simp only [List.getElem_toArray, List.getElem_cons_zero, List.getElem_cons_succ, Act.put, List.setIfInBounds_toArray, List.set_cons_zero, List.set_cons_succ]
            refine wpAnyH_take (i := 4) (v := ?_) rfl (by kernel_rfl) (by kernel_rfl) (by kernel_rfl) (fun _ _ _ h => h) (Or.inl ⟨by rfl, ?_⟩) (by assumption) ?_
            rotate_left; focus (intro w hSw; (try dsimp only at hSw); go_simp; try (with_reducible rfl); done)
            try simp only [List.getElem_toArray, List.getElem_cons_zero, List.getElem_cons_succ, Act.put, List.setIfInBounds_toArray, List.set_cons_zero, List.set_cons_succ]
            refine wpAnyH_take (i := 5) (v := ?_) rfl (by kernel_rfl) (by kernel_rfl) (by kernel_rfl) (fun _ _ _ h => h) (Or.inl ⟨by rfl, ?_⟩) (by assumption) ?_
            rotate_left; focus (intro w hSw; (try dsimp only at hSw); go_simp; try (with_reducible rfl); done)
            try simp only [List.getElem_toArray, List.getElem_cons_zero, List.getElem_cons_succ, Act.put, List.setIfInBounds_toArray, List.set_cons_zero, List.set_cons_succ]
            refine wpAnyH_take (i := 6) (v := ?_) rfl (by kernel_rfl) (by kernel_rfl) (by kernel_rfl) (fun _ _ _ h => h) (Or.inl ⟨by rfl, ?_⟩) (by assumption) ?_
            rotate_left; focus (intro w hSw; (try dsimp only at hSw); go_simp; try (with_reducible rfl); done)
            try simp only [List.getElem_toArray, List.getElem_cons_zero, List.getElem_cons_succ, Act.put, List.setIfInBounds_toArray, List.set_cons_zero, List.set_cons_succ]
            refine wpAnyH_take (i := 7) (v := ?_) rfl (by kernel_rfl) (by kernel_rfl) (by kernel_rfl) (fun _ _ _ h => h) (Or.inl ⟨by rfl, ?_⟩) (by assumption) ?_
            rotate_left; focus (intro w hSw; (try dsimp only at hSw); go_simp; try (with_reducible rfl); done)
            try simp only [List.getElem_toArray, List.getElem_cons_zero, List.getElem_cons_succ, Act.put, List.setIfInBounds_toArray, List.set_cons_zero, List.set_cons_succ]
            refine wpAnyH_take (i := 8) (v := ?_) rfl (by kernel_rfl) (by kernel_rfl) (by kernel_rfl) (fun _ _ _ h => h) (Or.inl ⟨by rfl, ?_⟩) (by assumption) ?_
            rotate_left; focus (intro w hSw; (try dsimp only at hSw); go_simp; try (with_reducible rfl); done)
            try simp only [List.getElem_toArray, List.getElem_cons_zero, List.getElem_cons_succ, Act.put, List.setIfInBounds_toArray, List.set_cons_zero, List.set_cons_succ]
            refine wpAnyH_ready (rs := [9]) (by kernel_rfl) (by simp) ?_
            refine AllReadyH.cons rfl (fun K hK => ?_) AllReadyH.nil
            go_simp
            (go_at_call 44; refine (rMark_any (Dm.Ik P n fr k) lf P.cl.length HIL.out hnc200 HFF.out (.slice al lf.length cl) gA P.cl.length wm.heap.size w _ F O6.out _ HST.out).mono ?_; rintro e w5 ⟨rfl, hst6⟩; rw [← HIS.out] at hst6; have p3b := (hst6.nth 8 rfl).celAt (i := 3) (v := .slice (some ⟨bo, oo, none⟩) P.fo.length co) rfl; have d0b := bkeep hst6.bel O5.out; have hbb : w5.cell? ⟨bf, of + k, none⟩ = some (.int .i64 y) := HBB.out w5 [] _ hst6; have HST6 := Lib.hid hst6; clear hst6)
            refine hK.out _ _ ?_ (fun hHeld => ?_)
            · (try dsimp only); (first | exact ⟨p3, hb, d0⟩ | exact ⟨p3b, hbb, d0b⟩)
            clear hK K
            try simp only [List.getElem_toArray, List.getElem_cons_zero, List.getElem_cons_succ, Act.put, List.setIfInBounds_toArray, List.set_cons_zero, List.set_cons_succ]
            refine wpAnyH_done (by kernel_rfl) ?_ _
            go_wp2
            go_roundg (fr.length - (k + 1))
            case measure => have := HGK.out; omega
            case rel => exact ⟨k + 1, by omega, rfl, by go_num, HST6.out⟩
          · have hke : k = fr.length := by omega
            have hge : ¬ ((k : Int) < fr.length) := by omega
            rw [hke] at hst
            have HIA := Lib.hid (Dm.Ik_all P HG.out n fr HSL.out.2 hfr0.out)
            have HIL := Lib.hid (Dm.Ik_len P n fr fr.length)
            obtain ⟨J, hJ⟩ : ∃ J, Dm.Ik P n fr fr.length = J := ⟨_, rfl⟩
            rw [hJ] at HIA HIL hst
            have HST := Lib.hid hst
            clear hst hke hJ
            rename World => wv
            have HST := Lib.hid (HST.out.alloc (Dm.rowC []) 96)
            rw [Dm.rowC_nil] at HST
            go_wp2_with (fail)
            go_loopg [6, 13] 256 (fun gz v6 v13 wr => ∃ (b : Nat) (vs vT : Value) (q : List (Ll.SV × List Int)), b ≤ 256 ∧ gz = 256 - b ∧ v13 = .int .i64 b ∧ vs = v6 ∧ Hid (Dm.Sets q (Dm.rowK P n fr (Dm.sets P n) b).1) ∧ (Dm.rowK P n fr (Dm.sets P n) b).1.length ≤ 200 ∧
              St w wr (aCel wv.heap.size 96 (Dm.rowC (Dm.rowK P n fr (Dm.sets P n) b).2) :: aCel wm.heap.size 25 #[.slice (some ⟨gA, 0, none⟩) P.cl.length P.cl.length] :: aOwn 4 1 (.slice (some ⟨gA, 0, none⟩) P.cl.length P.cl.length) (J.map Value.bool) :: Dm.rbase w.heap.size vs q vR vT P n (Dm.rowK P n fr (Dm.sets P n) b).1 (Dm.posn w.heap.size (.slice ac P.cl.length cc) vr vi vo vl ve)))
            case atStart => exact ⟨0, _, vT, q, by omega, by omega, rfl, rfl, HQ, hn2, by rw [Dm.rowK_zero, Dm.rowC_nil]; exact HST.out⟩
            case round =>
              clear HST
              obtain ⟨b, vs, vT, q, hb, hgz, rfl, rfl, HQ, hlen, hst⟩ := hrel
              have HGB := Lib.hid hgz
              clear hgz hge
              rename World => wx
              have HSE := Lib.hid (Dm.sel_row (P := P) (k := n) (fr := fr) (Dm.sel_sets P n) (Dm.sets_ne P n) b)
              have H0 := Lib.hid (Nat.lt_of_lt_of_le (Dm.sets_ne P n) (Dm.rowK_len_le P n fr (Dm.sets P n) b))
              have HRL := Lib.hid (Dm.rowK_row_len P n fr (Dm.sets P n) b)
              have HSU := Lib.hid (Dm.rowK_succ P n fr (Dm.sets P n) b)
              have HMO := Lib.hid (fun (h : b + 1 ≤ 256) => Dm.rowK_mono P n fr (Dm.sets P n) h)
              obtain ⟨⟨S1, l1⟩, hE⟩ : ∃ x, Dm.rowK P n fr (Dm.sets P n) b = x := ⟨_, rfl⟩
              have HE := Lib.hid hE
              rw [hE] at HQ hlen hst HSE H0 HRL HSU
              simp only at HQ hlen hst HSE H0 HRL HSU
              clear hE
              have hql := HQ.out.len
              obtain ⟨gs, cs, hvs⟩ := Dm.slice_of (hst.nth 3 rfl).own (by rw [List.length_map, List.length_map, hql]; exact H0.out)
              rw [List.length_map, List.length_map, hql] at hvs
              subst hvs
              have HQL := Lib.hid hql
              clear hql
              by_cases hlb : b < 256
              · have hlbI : (b : Int) < 256 := by omega
                have HST := Lib.hid ((hst.nilOwn 3 1))
                clear hst
                go_wp2_with (fail)
                go_loopg [14, 15] P.cl.length (fun gz v14 v15 wr => ∃ (x : Nat) (vt : Value), x ≤ P.cl.length ∧ gz = P.cl.length - x ∧ v15 = .int .i64 x ∧ vt = v14 ∧
                  St w wr (aOwn 3 1 vt (((Dm.cut P n fr b x).map Dm.ofN).map Ll.iV) :: aCel wv.heap.size 96 (Dm.rowC l1) :: aCel wm.heap.size 25 #[.slice (some ⟨gA, 0, none⟩) P.cl.length P.cl.length] :: aOwn 4 1 (.slice (some ⟨gA, 0, none⟩) P.cl.length P.cl.length) (J.map Value.bool) :: Dm.rbase w.heap.size (.slice (some ⟨gs, 0, none⟩) S1.length cs) q vR vT P n S1 (Dm.posn w.heap.size (.slice ac P.cl.length cc) vr vi vo vl ve)))
                case atStart => exact ⟨0, _, by omega, by omega, rfl, rfl, HST.out⟩
                case round =>
                  clear HST
                  obtain ⟨x, vt, hx, hgz, rfl, rfl, hst⟩ := hrel
                  have HGX := Lib.hid hgz
                  clear hgz
                  rename World => wy
                  have g0 := (hst.nth 2 rfl).celAt (i := 0) (v := .slice (some ⟨gA, 0, none⟩) P.cl.length P.cl.length) rfl
                  by_cases hlx : x < P.cl.length
                  · have hlxI : (x : Int) < P.cl.length := by omega
                    have j0 := ((hst.nth 3 rfl).cellOwn (f := Value.bool) (fun _ => rfl) x (by rw [HIL.out]; exact hlx) false).1
                    rw [HIA.out x hlx] at j0
                    have HCUT := Lib.hid (Dm.cut_succL P n fr b x)
                    have HCL := Lib.hid (Dm.cut_len P n fr b x)
                    obtain ⟨A, hA⟩ : ∃ A, Dm.all P n fr x = A := ⟨_, rfl⟩
                    rw [hA] at j0 HCUT
                    clear hA
                    have HST := Lib.hid hst
                    have p0 := (hst.nth 10 rfl).celAt (i := 0) (v := .slice ac P.cl.length cc) rfl
                    obtain ⟨rfl, -, -⟩ := K3.out (by omega)
                    obtain ⟨e1, e2, e3⟩ := K4.out x hlx
                    obtain ⟨q0, q1, q2, q3, hq⟩ := Dm.four e2
                    have HC := Lib.hid (fun W => rHas_any #[.int .u64 q0, .int .u64 q1, .int .u64 q2, .int .u64 q3] (P.cl.getD x []) b hlb W (by rw [hq]; rfl) e2 e3)
                    have d0 := bkeep hst.bel (e1 0 (by omega))
                    have d1 := bkeep hst.bel (e1 1 (by omega))
                    have d2 := bkeep hst.bel (e1 2 (by omega))
                    have d3 := bkeep hst.bel (e1 3 (by omega))
                    rw [hq] at d0 d1 d2 d3
                    rw [Nat.add_zero] at d0
                    replace d0 : wy.cell? ⟨bc, oc + x * 4, none⟩ = some (.int .u64 q0) := d0
                    replace d1 : wy.cell? ⟨bc, oc + x * 4 + 1, none⟩ = some (.int .u64 q1) := d1
                    replace d2 : wy.cell? ⟨bc, oc + x * 4 + 2, none⟩ = some (.int .u64 q2) := d2
                    replace d3 : wy.cell? ⟨bc, oc + x * 4 + 3, none⟩ = some (.int .u64 q3) := d3
                    obtain ⟨B, hB⟩ : ∃ B, Pl.has (P.cl.getD x []) b = B := ⟨_, rfl⟩
                    rw [hB] at HC HCUT
                    clear hB e1 e2 e3 hq hst
                    cases A
                    · have hc := HCUT.out
                      simp only [Bool.false_and, Bool.false_eq_true, if_false] at hc
                      have HCU := Lib.hid hc
                      clear hc
                      go_wp2
                      go_roundg (P.cl.length - (x + 1))
                      case measure => have := HGX.out; omega
                      case rel => exact ⟨x + 1, _, by omega, rfl, by go_num, rfl, by rw [HCU.out]; exact HST.out⟩
                    · go_wp2_with (fail)
                      go_at_call 45
                      refine (HC.out _).mono ?_
                      rintro e w6 ⟨rfl, hb6⟩
                      have HST6 := Lib.hid (HST.out.call hb6)
                      clear hb6 HST g0 j0 p0 d0 d1 d2 d3
                      cases B
                      · have hc := HCUT.out
                        simp only [Bool.true_and, Bool.false_eq_true, if_false] at hc
                        have HCU := Lib.hid hc
                        clear hc
                        go_wp2
                        go_roundg (P.cl.length - (x + 1))
                        case measure => have := HGX.out; omega
                        case rel => exact ⟨x + 1, _, by omega, rfl, by go_num, rfl, by rw [HCU.out]; exact HST6.out⟩
                      · have hc := HCUT.out
                        simp only [Bool.true_and, if_true] at hc
                        have hcm : ((Dm.cut P n fr b x).map Dm.ofN).map Ll.iV ++ [.int .i64 (x : Int)] = ((Dm.cut P n fr b (x + 1)).map Dm.ofN).map Ll.iV := by rw [hc]; simp [Dm.ofN, Ll.iV]
                        have HCM := Lib.hid hcm
                        have hll := HCL.out
                        clear hc hcm
                        go_wp2_with (at_builtin; refine St.app1n intE rfl (.tmp 83) (.tmp 85) rfl rfl HST6.out (.int .i64 (x : Int)) rfl w6.heap.size 1 rfl rfl rfl (by intro q hq; simp [Value.cells] at hq; subst hq; rfl) (by rw [List.length_map, List.length_map]; unfold maxLen; omega) (by rw [List.length_map, List.length_map]; omega) ?_; intro g' n' c' w9 hst9; rw [HCM.out] at hst9; have HST9 := Lib.hid hst9; clear hst9 HST6)
                        go_roundg (P.cl.length - (x + 1))
                        case measure => have := HGX.out; omega
                        case rel => exact ⟨x + 1, _, by omega, rfl, by go_num, rfl, HST9.out⟩
                  · have hxe : x = P.cl.length := by omega
                    have hxg : ¬ ((x : Int) < P.cl.length) := by omega
                    rw [show Dm.cut P n fr b x = Dm.to' P n fr b by rw [hxe]; rfl] at hst
                    clear hxe
                    have hok200 : (Dm.to' P n fr b).length ≤ 200 := by have := Dm.cut_len P n fr b P.cl.length; have e : Dm.cut P n fr b P.cl.length = Dm.to' P n fr b := rfl; rw [e] at this; omega
                    have hcT : ∃ c : Nat → Bool, Dm.to' P n fr b = (List.range P.cl.length).filter c := ⟨_, rfl⟩
                    have HCT := Lib.hid hcT
                    clear hcT
                    obtain ⟨T, hT⟩ : ∃ T, Dm.to' P n fr b = T := ⟨_, rfl⟩
                    have HSU2 := Lib.hid (show Dm.rowK P n fr (Dm.sets P n) (b + 1) = if T = [] then (S1, l1 ++ [-1]) else (if Dm.at' S1 T = S1.length then S1 ++ [T] else S1, l1 ++ [(Dm.at' S1 T : Int)]) by rw [HSU.out]; unfold Dm.step; simp only [hT])
                    rw [hT] at hst HCT hok200
                    clear hT
                    obtain ⟨at_, ct, hvt⟩ := Dm.slice_any (hst.nth 0 rfl).own
                    rw [List.length_map, List.length_map] at hvt
                    subst hvt
                    have hget := Dm.rowC_get (l := l1) (by rw [HRL.out]; omega)
                    have hset := Dm.rowC_set (l := l1) (by rw [HRL.out]; omega) (-1)
                    rw [HRL.out] at hget hset
                    have xr := (hst.nth 1 rfl).celAt hget
                    have xf := (hst.nth 1 rfl).celFree b
                    have hst8 := hst.get2.setCel b (.int .i16 (-1))
                    rw [hset] at hst8
                    have HST8 := Lib.hid hst8
                    have HG8 := Lib.hid (show (Dm.rowC (l1 ++ [-1]))[b]? = some (.int .i16 (-1)) by rw [← HRL.out]; exact Dm.rowC_get2)
                    have HG9 := Lib.hid (fun x => show (Dm.rowC (l1 ++ [-1])).setIfInBounds b (.int .i16 x) = Dm.rowC (l1 ++ [x]) by rw [← HRL.out]; exact Dm.rowC_set2 (-1) x)
                    clear hget hset hst hst8
                    have hlen2 : (S1.length : Int) ≤ 200 := by omega
                    by_cases hTe : T = []
                    · have hu := HSU2.out
                      rw [if_pos hTe] at hu
                      have HU := Lib.hid hu
                      have hTl : ((T.length : Int) == 0) = true := by rw [hTe]; rfl
                      clear hu hTe
                      go_wp2
                      go_roundg (256 - (b + 1))
                      case measure => have := HGB.out; omega
                      case rel =>
                        refine ⟨b + 1, .slice (some ⟨gs, 0, none⟩) S1.length cs, vT, q, by omega, rfl, by go_num, rfl, ?_, ?_, ?_⟩
                        · rw [HU.out]; exact HQ
                        · rw [HU.out]; exact hlen
                        · rw [HU.out]; exact HST8.out.pick [0, 2, 3, 4, 5, 6, 7, 8, 9, 10] 11 rfl rfl
                    · have hu := HSU2.out
                      rw [if_neg hTe] at hu
                      have HU := Lib.hid hu
                      have hTp : 0 < T.length := List.length_pos_iff.2 hTe
                      have hTl : ((T.length : Int) == 0) = false := by rw [beq_eq_false_iff_ne]; omega
                      clear hu hTe
                      go_upto_block 8 with (fail)
                      go_cut [16] (fun v16 wx => v16 = .int .i64 (Dm.at' S1 T) ∧ St w wx (aCel wv.heap.size 96 (Dm.rowC (l1 ++ [-1])) :: aOwn 3 1 (.slice at_ T.length ct) ((T.map Dm.ofN).map Ll.iV) :: aCel wm.heap.size 25 #[.slice (some ⟨gA, 0, none⟩) P.cl.length P.cl.length] :: aOwn 4 1 (.slice (some ⟨gA, 0, none⟩) P.cl.length P.cl.length) (J.map Value.bool) :: Dm.rbase w.heap.size (.slice (some ⟨gs, 0, none⟩) S1.length cs) q vR vT P n S1 (Dm.posn w.heap.size (.slice ac P.cl.length cc) vr vi vo vl ve)))
                      case first =>
                        go_wp2_with (fail)
                        go_loopg [16] (S1.length - 1) (fun gz v16 wr => ∃ j : Nat, 1 ≤ j ∧ j ≤ S1.length ∧ gz = S1.length - j ∧ v16 = .int .i64 j ∧ Hid (∀ i, 1 ≤ i → i < j → S1.getD i [] ≠ T) ∧ St w wr (aCel wv.heap.size 96 (Dm.rowC (l1 ++ [-1])) :: aOwn 3 1 (.slice at_ T.length ct) ((T.map Dm.ofN).map Ll.iV) :: aCel wm.heap.size 25 #[.slice (some ⟨gA, 0, none⟩) P.cl.length P.cl.length] :: aOwn 4 1 (.slice (some ⟨gA, 0, none⟩) P.cl.length P.cl.length) (J.map Value.bool) :: Dm.rbase w.heap.size (.slice (some ⟨gs, 0, none⟩) S1.length cs) q vR vT P n S1 (Dm.posn w.heap.size (.slice ac P.cl.length cc) vr vi vo vl ve)))
                        case atStart => exact ⟨1, by omega, by have := H0.out; omega, by omega, rfl, Lib.hid (fun i h1 h2 => by omega), HST8.out⟩
                        case round =>
                          clear HST8 xr xf
                          obtain ⟨j, hj1, hj2, hgz, rfl, HNE, hst⟩ := hrel
                          have HGJ := Lib.hid hgz
                          clear hgz
                          rename World => wz
                          by_cases hlj : j < S1.length
                          · have hljI : (j : Int) < S1.length := by omega
                            have hsl := Dm.sel_lt HSE.out hlj
                            obtain ⟨a9, c9, hsv, hrow⟩ := HQ.out.row (hst.nth 5 rfl) hlj (by omega)
                            have s0 := ((hst.nth 4 rfl).cellOwn (f := Ll.slV) (fun _ => rfl) j (by rw [List.length_map, HQL.out]; exact hlj) (none, 0, 0)).1
                            rw [hsv] at s0
                            have hrow2 := Own.row1 (f := Ll.iV) (fun _ => rfl) 0 (hst.nth 1 rfl).own (by rw [List.length_map]; omega)
                            have HEQ := Lib.hid (eqI64 wz hrow hrow2)
                            obtain ⟨U, hU⟩ : ∃ U, S1.getD j [] = U := ⟨_, rfl⟩
                            rw [hU] at HEQ s0
                            have HUE := Lib.hid hU
                            have HST := Lib.hid hst
                            clear hst hsl hsv hrow hrow2 hU
                            by_cases hUT : U = T
                            · have HQ2 := HEQ.out
                              rw [decide_eq_true (by rw [hUT] : U.map Dm.ofN = T.map Dm.ofN)] at HQ2
                              have HQ2 := Lib.hid HQ2
                              have HAT := Lib.hid (Dm.at_of hj1 hj2 HNE.out (.inr (HUE.out.trans hUT)))
                              clear hUT
                              go_wp2_with (fail)
                              go_at_call 42
                              refine (HQ2.out).mono ?_
                              rintro e w6 ⟨rfl, hb6⟩
                              have HST6 := Lib.hid (HST.out.call hb6)
                              clear hb6 HST s0
                              go_wp2
                              go_meet
                              exact ⟨by rw [HAT.out], HST6.out⟩
                            · have HQ2 := HEQ.out
                              rw [decide_eq_false (fun h => hUT (Dm.ofN_inj h))] at HQ2
                              have HQ2 := Lib.hid HQ2
                              have HNE2 := Lib.hid (show ∀ i, 1 ≤ i → i < j + 1 → S1.getD i [] ≠ T from fun i h1 h2 => by
                                rcases Nat.lt_succ_iff_lt_or_eq.1 h2 with h | h
                                · exact HNE.out i h1 h
                                · rw [h, HUE.out]; exact hUT)
                              clear hUT
                              go_wp2_with (fail)
                              go_at_call 42
                              refine (HQ2.out).mono ?_
                              rintro e w6 ⟨rfl, hb6⟩
                              have HST6 := Lib.hid (HST.out.call hb6)
                              clear hb6 HST s0
                              go_wp2
                              go_roundg (S1.length - (j + 1))
                              case measure => have := HGJ.out; omega
                              case rel => exact ⟨j + 1, by omega, by omega, rfl, by go_num, HNE2, HST6.out⟩
                          · have hje : j = S1.length := by omega
                            have hjg : ¬ ((j : Int) < S1.length) := by omega
                            have HAT := Lib.hid (Dm.at_of hj1 hj2 HNE.out (.inl hje))
                            have HST := Lib.hid hst
                            clear hst hje
                            go_wp2
                            go_meet
                            exact ⟨by rw [HAT.out], HST.out⟩
                      case rest =>
                        obtain ⟨rfl, hst⟩ := hcut
                        clear HST8 xr xf
                        have HST := Lib.hid hst
                        clear hst
                        by_cases hat : Dm.at' S1 T = S1.length
                        · have hnb : ((Dm.at' S1 T : Int) == (S1.length : Int)) = true := by rw [beq_iff_eq, hat]
                          have hu := HU.out
                          rw [if_pos hat, hat] at hu
                          have HU2 := Lib.hid hu
                          rw [hat] at hnb ⊢
                          have HST2 := Lib.hid (HST.out.pick (ρ := [aOwn 23 1 (.slice (some ⟨gs, 0, none⟩) S1.length cs) ((q.map Prod.fst).map Ll.slV), aCel wv.heap.size 96 (Dm.rowC (l1 ++ [-1])), aOwn 3 1 (.slice at_ T.length ct) ((T.map Dm.ofN).map Ll.iV), aCel wm.heap.size 25 #[.slice (some ⟨gA, 0, none⟩) P.cl.length P.cl.length], aOwn 4 1 (.slice (some ⟨gA, 0, none⟩) P.cl.length P.cl.length) (J.map Value.bool), aAll (q.map Dm.aSet), aCel (w.heap.size + 1 + 1) 30 #[vR, vT], aOwn 96 256 vR ((Dm.rows P n).map Wd.rowV), aOwn 3 1 vT ((Dm.tags P S1).map (Value.int .i64)), aCel (w.heap.size + 1) 30 #[.slice none 0 0, .slice none 0 0], Dm.posn w.heap.size (.slice ac P.cl.length cc) vr vi vo vl ve]) [4, 0, 1, 2, 3, 5, 6, 7, 8, 9, 10] 11 rfl rfl)
                          have HSLT := Lib.hid (show ∀ x ∈ T, x < P.cl.length from fun x hx => by
                            obtain ⟨c, hc⟩ := HCT.out
                            rw [hc] at hx
                            exact List.mem_range.1 (List.mem_filter.1 hx).1)
                          clear hat hu HST
                          rename World => wz
                          go_wp2_with (at_builtin; refine St.app1n Dm.slE rfl (.tmp 111) (.tmp 113) rfl rfl HST2.out (Ll.slV (at_, T.length, ct)) rfl wz.heap.size 1 rfl rfl rfl (by intro q hq; simp [Ll.slV, Value.cells] at hq; subst hq; rfl) (by rw [List.length_map, List.length_map, HQL.out]; unfold maxLen; omega) (by rw [List.length_map, List.length_map, HQL.out]; omega) ?_; intro g7 n7 c7 w7 hst7; have HST7 := Lib.hid hst7; clear hst7 HST2)
                          have hn7 : n7 = S1.length + 1 := by have := HST7.out.own.len; rw [List.length_append, List.length_map, List.length_map, HQL.out] at this; simpa using this
                          subst hn7
                          have hstD := HST7.out.drew.pick (ρ := [Dm.posn w.heap.size (.slice ac P.cl.length cc) vr vi vo vl ve, aOwn 23 1 (.slice (some ⟨g7, 0, none⟩) (S1.length + 1) c7) ((q.map Prod.fst).map Ll.slV ++ [Ll.slV (at_, T.length, ct)]), aCel wv.heap.size 96 (Dm.rowC (l1 ++ [-1])), aOwn 3 1 (.slice at_ T.length ct) ((T.map Dm.ofN).map Ll.iV), aCel wm.heap.size 25 #[.slice (some ⟨gA, 0, none⟩) P.cl.length P.cl.length], aOwn 4 1 (.slice (some ⟨gA, 0, none⟩) P.cl.length P.cl.length) (J.map Value.bool), aAll (q.map Dm.aSet), aCel (w.heap.size + 1 + 1) 30 #[vR, vT], aOwn 96 256 vR ((Dm.rows P n).map Wd.rowV), aOwn 3 1 vT ((Dm.tags P S1).map (Value.int .i64)), aCel (w.heap.size + 1) 30 #[.slice none 0 0, .slice none 0 0]]) [10, 0, 1, 2, 3, 4, 5, 6, 7, 8, 9] 11 rfl rfl
                          have hrowT := Own.row1 (f := Ll.iV) (fun _ => rfl) 0 (hstD.nth 3 rfl).own (by rw [List.length_map]; omega)
                          have HLS := Lib.hid (rLeast_any P HG.out (.slice ac P.cl.length cc) vr vi vo vl ve (.slice at_ T.length ct) T HSLT.out false w.heap.size w _ F HF.out HIN.out _ hstD hrowT)
                          have x1 := (hstD.nth 7 rfl).celAt (i := 1) (v := vT) rfl
                          have HSTD := Lib.hid hstD
                          have HTL := Lib.hid (Dm.tags_len P H0.out)
                          obtain ⟨Z, hZ⟩ : ∃ Z, Dm.least P T false = Z := ⟨_, rfl⟩
                          rw [hZ] at HLS
                          have HZ := Lib.hid hZ
                          clear hZ hstD hrowT HST7
                          go_wp2_with (fail)
                          refine wp_region_held_drew (S := (fun w' => True)) (by kernel_rfl) ?_ (fun hHeld => ?_)
                          · (try dsimp only); (first | done | exact trivial)

                          refine wpAnyH_take (i := 0) (v := ?_) rfl (by kernel_rfl) (by kernel_rfl) (by kernel_rfl) (fun _ _ _ h => h) (Or.inl ⟨by rfl, ?_⟩) (by assumption) ?_
                          rotate_left; focus (intro w hSw; (try dsimp only at hSw); go_simp; try (with_reducible rfl); done)
                          try simp only [List.getElem_toArray, List.getElem_cons_zero, List.getElem_cons_succ, Act.put, List.setIfInBounds_toArray, List.set_cons_zero, List.set_cons_succ]
                          refine wpAnyH_take (i := 2) (v := ?_) rfl (by kernel_rfl) (by kernel_rfl) (by kernel_rfl) (fun _ _ _ h => h) (Or.inl ⟨by rfl, ?_⟩) (by assumption) ?_
                          rotate_left; focus (intro w hSw; (try dsimp only at hSw); go_simp; try (with_reducible rfl); done)
                          try simp only [List.getElem_toArray, List.getElem_cons_zero, List.getElem_cons_succ, Act.put, List.setIfInBounds_toArray, List.set_cons_zero, List.set_cons_succ]
                          refine wpAnyH_take (i := 3) (v := ?_) rfl (by kernel_rfl) (by kernel_rfl) (by kernel_rfl) (fun _ _ _ h => h) (Or.inl ⟨by rfl, ?_⟩) (by assumption) ?_
                          rotate_left; focus (intro w hSw; (try dsimp only at hSw); go_simp; try (with_reducible rfl); done)
                          try simp only [List.getElem_toArray, List.getElem_cons_zero, List.getElem_cons_succ, Act.put, List.setIfInBounds_toArray, List.set_cons_zero, List.set_cons_succ]
                          refine wpAnyH_ready (rs := [1, 4]) (by kernel_rfl) (by simp) ?_
                          refine AllReadyH.cons rfl (fun K hK => ?_) (AllReadyH.cons rfl (fun K hK => ?_) (AllReadyH.nil))
                          · skip
                            go_simp
                            refine hK.out _ _ ?_ (fun hHeld => ?_)
                            · (try dsimp only); (first | done | exact trivial)
                            clear hK K
                            try simp only [List.getElem_toArray, List.getElem_cons_zero, List.getElem_cons_succ, Act.put, List.setIfInBounds_toArray, List.set_cons_zero, List.set_cons_succ]
                            refine wpAnyH_ready (rs := [4]) (by kernel_rfl) (by simp) ?_
                            refine AllReadyH.cons rfl (fun K hK => ?_) (AllReadyH.nil)
                            go_simp
                            (first | (go_at_call 43; refine (HLS.out).mono ?_; rintro e w8 ⟨rfl, hb8⟩; have HST8 := Lib.hid (HSTD.out.call hb8); have x1 := (HST8.out.nth 7 rfl).celAt (i := 1) (v := vT) rfl; have x1e := Dm.keep1 (o := .cells #[.int .i64 Z] 3) x1; clear hb8) | (refine St.step1n (W := w8) (T := 3) (cs := #[.int .i64 Z]) intE rfl (.tmp 116) (.tmp 120) rfl rfl (HST8.out.pick (ρ := [aOwn 3 1 vT ((Dm.tags P S1).map (Value.int .i64)), Dm.posn w.heap.size (.slice ac P.cl.length cc) vr vi vo vl ve, aOwn 23 1 (.slice (some ⟨g7, 0, none⟩) (S1.length + 1) c7) ((q.map Prod.fst).map Ll.slV ++ [Ll.slV (at_, T.length, ct)]), aCel wv.heap.size 96 (Dm.rowC (l1 ++ [-1])), aOwn 3 1 (.slice at_ T.length ct) ((T.map Dm.ofN).map Ll.iV), aCel wm.heap.size 25 #[.slice (some ⟨gA, 0, none⟩) P.cl.length P.cl.length], aOwn 4 1 (.slice (some ⟨gA, 0, none⟩) P.cl.length P.cl.length) (J.map Value.bool), aAll (q.map Dm.aSet), aCel (w.heap.size + 1 + 1) 30 #[vR, vT], aOwn 96 256 vR ((Dm.rows P n).map Wd.rowV), aCel (w.heap.size + 1) 30 #[.slice none 0 0, .slice none 0 0]]) [9, 0, 1, 2, 3, 4, 5, 6, 7, 8, 10] 11 rfl rfl) (.int .i64 Z) rfl w8.heap.size 1 rfl rfl rfl (by intro q hq; simp [Value.cells] at hq; subst hq; rfl) (by rw [List.length_map, HTL.out]; unfold maxLen; omega) (by rw [List.length_map, HTL.out]; omega) ?_; intro g' n' c' wB hstB; have xf1 := (hstB.nth 8 rfl).celFree 1; have x1 := (hstB.nth 8 rfl).celAt (i := 1) (v := vT) rfl; have HSTB := Lib.hid ((hstB.pick (ρ := [aCel (w.heap.size + 1 + 1) 30 #[vR, vT], aOwn 3 1 (.slice (some ⟨g', 0, none⟩) n' c') ((Dm.tags P S1).map (Value.int .i64) ++ [.int .i64 Z]), Dm.posn w.heap.size (.slice ac P.cl.length cc) vr vi vo vl ve, aOwn 23 1 (.slice (some ⟨g7, 0, none⟩) (S1.length + 1) c7) ((q.map Prod.fst).map Ll.slV ++ [Ll.slV (at_, T.length, ct)]), aCel wv.heap.size 96 (Dm.rowC (l1 ++ [-1])), aOwn 3 1 (.slice at_ T.length ct) ((T.map Dm.ofN).map Ll.iV), aCel wm.heap.size 25 #[.slice (some ⟨gA, 0, none⟩) P.cl.length P.cl.length], aOwn 4 1 (.slice (some ⟨gA, 0, none⟩) P.cl.length P.cl.length) (J.map Value.bool), aAll (q.map Dm.aSet), aOwn 96 256 vR ((Dm.rows P n).map Wd.rowV), aCel (w.heap.size + 1) 30 #[.slice none 0 0, .slice none 0 0]]) [8, 0, 1, 2, 3, 4, 5, 6, 7, 9, 10] 11 rfl rfl).setCel 1 (.slice (some ⟨g', 0, none⟩) n' c')); clear hstB))
                            refine hK.out _ _ ?_ (fun hHeld => ?_)
                            · (try dsimp only); (first | done | exact trivial)
                            clear hK K
                            try simp only [List.getElem_toArray, List.getElem_cons_zero, List.getElem_cons_succ, Act.put, List.setIfInBounds_toArray, List.set_cons_zero, List.set_cons_succ]
                            refine wpAnyH_ready (rs := [5]) (by kernel_rfl) (by simp) ?_
                            refine AllReadyH.cons rfl (fun K hK => ?_) (AllReadyH.nil)
                            go_simp
                            refine hK.out _ _ ?_ (fun hHeld => ?_)
                            · (try dsimp only); (first | done | exact trivial)
                            clear hK K
                            try simp only [List.getElem_toArray, List.getElem_cons_zero, List.getElem_cons_succ, Act.put, List.setIfInBounds_toArray, List.set_cons_zero, List.set_cons_succ]
                            refine wpAnyH_ready (rs := [6]) (by kernel_rfl) (by simp) ?_
                            refine AllReadyH.cons rfl (fun K hK => ?_) AllReadyH.nil
                            (first | (go_at_call 43; refine (HLS.out).mono ?_; rintro e w8 ⟨rfl, hb8⟩; have HST8 := Lib.hid (HSTD.out.call hb8); have x1 := (HST8.out.nth 7 rfl).celAt (i := 1) (v := vT) rfl; have x1e := Dm.keep1 (o := .cells #[.int .i64 Z] 3) x1; clear hb8) | (refine St.step1n (W := w8) (T := 3) (cs := #[.int .i64 Z]) intE rfl (.tmp 116) (.tmp 120) rfl rfl (HST8.out.pick (ρ := [aOwn 3 1 vT ((Dm.tags P S1).map (Value.int .i64)), Dm.posn w.heap.size (.slice ac P.cl.length cc) vr vi vo vl ve, aOwn 23 1 (.slice (some ⟨g7, 0, none⟩) (S1.length + 1) c7) ((q.map Prod.fst).map Ll.slV ++ [Ll.slV (at_, T.length, ct)]), aCel wv.heap.size 96 (Dm.rowC (l1 ++ [-1])), aOwn 3 1 (.slice at_ T.length ct) ((T.map Dm.ofN).map Ll.iV), aCel wm.heap.size 25 #[.slice (some ⟨gA, 0, none⟩) P.cl.length P.cl.length], aOwn 4 1 (.slice (some ⟨gA, 0, none⟩) P.cl.length P.cl.length) (J.map Value.bool), aAll (q.map Dm.aSet), aCel (w.heap.size + 1 + 1) 30 #[vR, vT], aOwn 96 256 vR ((Dm.rows P n).map Wd.rowV), aCel (w.heap.size + 1) 30 #[.slice none 0 0, .slice none 0 0]]) [9, 0, 1, 2, 3, 4, 5, 6, 7, 8, 10] 11 rfl rfl) (.int .i64 Z) rfl w8.heap.size 1 rfl rfl rfl (by intro q hq; simp [Value.cells] at hq; subst hq; rfl) (by rw [List.length_map, HTL.out]; unfold maxLen; omega) (by rw [List.length_map, HTL.out]; omega) ?_; intro g' n' c' wB hstB; have xf1 := (hstB.nth 8 rfl).celFree 1; have x1 := (hstB.nth 8 rfl).celAt (i := 1) (v := vT) rfl; have HSTB := Lib.hid ((hstB.pick (ρ := [aCel (w.heap.size + 1 + 1) 30 #[vR, vT], aOwn 3 1 (.slice (some ⟨g', 0, none⟩) n' c') ((Dm.tags P S1).map (Value.int .i64) ++ [.int .i64 Z]), Dm.posn w.heap.size (.slice ac P.cl.length cc) vr vi vo vl ve, aOwn 23 1 (.slice (some ⟨g7, 0, none⟩) (S1.length + 1) c7) ((q.map Prod.fst).map Ll.slV ++ [Ll.slV (at_, T.length, ct)]), aCel wv.heap.size 96 (Dm.rowC (l1 ++ [-1])), aOwn 3 1 (.slice at_ T.length ct) ((T.map Dm.ofN).map Ll.iV), aCel wm.heap.size 25 #[.slice (some ⟨gA, 0, none⟩) P.cl.length P.cl.length], aOwn 4 1 (.slice (some ⟨gA, 0, none⟩) P.cl.length P.cl.length) (J.map Value.bool), aAll (q.map Dm.aSet), aOwn 96 256 vR ((Dm.rows P n).map Wd.rowV), aCel (w.heap.size + 1) 30 #[.slice none 0 0, .slice none 0 0]]) [8, 0, 1, 2, 3, 4, 5, 6, 7, 9, 10] 11 rfl rfl).setCel 1 (.slice (some ⟨g', 0, none⟩) n' c')); clear hstB))
                            refine hK.out _ _ ?_ (fun hHeld => ?_)
                            · (try dsimp only); (first | done | exact trivial)
                            clear hK K
                            try simp only [List.getElem_toArray, List.getElem_cons_zero, List.getElem_cons_succ, Act.put, List.setIfInBounds_toArray, List.set_cons_zero, List.set_cons_succ]
                            refine wpAnyH_take (i := 7) (v := ?_) rfl (by kernel_rfl) (by kernel_rfl) (by kernel_rfl) (fun _ _ _ h => h) (Or.inl ⟨by rfl, ?_⟩) (by assumption) ?_
                            rotate_left; focus (intro w hSw; (try dsimp only at hSw); go_simp; try (with_reducible rfl); done)
                            try simp only [List.getElem_toArray, List.getElem_cons_zero, List.getElem_cons_succ, Act.put, List.setIfInBounds_toArray, List.set_cons_zero, List.set_cons_succ]
                            refine wpAnyH_ready (rs := [8]) (by kernel_rfl) (by simp) ?_
                            refine AllReadyH.cons rfl (fun K hK => ?_) AllReadyH.nil
                            go_simp
                            refine hK.out _ _ ?_ (fun hHeld => ?_)
                            · (try dsimp only); (first | done | exact trivial)
                            clear hK K
                            try simp only [List.getElem_toArray, List.getElem_cons_zero, List.getElem_cons_succ, Act.put, List.setIfInBounds_toArray, List.set_cons_zero, List.set_cons_succ]
                            refine wpAnyH_done (by kernel_rfl) ?_ _
                            clear x1 x1e xf1 HST8 HSTD HLS hHeld
                            have hB := HSTB.out
                            rw [← HZ.out] at hB
                            have hstM := Dm.newSet (vR := vR) (vT := .slice (some ⟨g', 0, none⟩) n' c') H0.out hB
                            clear hB
                            have HQ9 := Lib.hid (HQ.out.snoc (at_, T.length, ct) T)
                            clear HSTB
                            generalize wB.setCell ⟨w.heap.size + 1 + 1, 1, none⟩ (.slice (some ⟨g', 0, none⟩) n' c') = wC at *
                            generalize q ++ [((at_, T.length, ct), T.map Dm.ofN)] = q9 at *
                            have hs9 : (S1 ++ [T]).length = S1.length + 1 := by simp
                            have HS9 := Lib.hid hs9
                            clear hs9
                            by_cases hl2 : S1.length + 1 ≤ 200
                            · have hl2I : (S1.length : Int) + 1 ≤ 200 := by omega
                              have xr := (hstM.nth 0 rfl).celAt HG8.out
                              have xf := (hstM.nth 0 rfl).celFree b
                              have hst9 := hstM.setCel b (.int .i16 (S1.length : Int))
                              rw [HG9.out] at hst9
                              have HST9 := Lib.hid hst9
                              clear hst9 hstM
                              go_wp2
                              go_roundg (256 - (b + 1))
                              case measure => have := HGB.out; omega
                              case rel =>
                                refine ⟨b + 1, .slice (some ⟨g7, 0, none⟩) (S1.length + 1) c7, .slice (some ⟨g', 0, none⟩) n' c', q9, by omega, rfl, by go_num, rfl, ?_, ?_, ?_⟩
                                · rw [HU2.out]; exact HQ9
                                · rw [HU2.out]; have := HS9.out; show (S1 ++ [T]).length ≤ 200; omega
                                · rw [HU2.out]; exact HST9.out
                            · have hl2I : 200 < (S1.length : Int) + 1 := by omega
                              have HMX := Lib.hid (show 200 < (Dm.sets P (n + 1)).length by
                                have h1 := HMO.out (by omega)
                                rw [HU2.out] at h1
                                rw [HSUC.out]
                                have := HS9.out
                                simp only at h1
                                omega)
                              have f0 := (hstM.nth 8 rfl).celFree 0
                              have f1 := (hstM.nth 8 rfl).celFree 1
                              have r0 := (hstM.nth 8 rfl).celAt (i := 0) (v := .slice none 0 0) rfl
                              have r1 := (hstM.nth 8 rfl).celAt (i := 1) (v := .slice none 0 0) rfl
                              have HST6 := Lib.hid (((hstM.pick [8, 0] 10 rfl rfl).setCel 0 (.slice none 0 0)).setCel 1 (.slice none 0 0))
                              clear hstM hl2
                              go_wp2
                              have q0 := (HST6.out.nth 0 rfl).celAt (i := 0) (v := .slice none 0 0) rfl
                              have q1 := (HST6.out.nth 0 rfl).celAt (i := 1) (v := .slice none 0 0) rfl
                              refine bodyPost_ret (v := .tuple #[.agg #[.slice none 0 0, .slice none 0 0], .int .i64 8]) (by simp [results, Try.results12, go_sem, q0, q1]) rfl ⟨none, Lib.hid ⟨n, hn2, .inr ⟨hlt, HMX.out, rfl⟩⟩, rfl, HST6.out.bel⟩
                          · skip
                            go_simp
                            (first | (go_at_call 43; refine (HLS.out).mono ?_; rintro e w8 ⟨rfl, hb8⟩; have HST8 := Lib.hid (HSTD.out.call hb8); have x1 := (HST8.out.nth 7 rfl).celAt (i := 1) (v := vT) rfl; have x1e := Dm.keep1 (o := .cells #[.int .i64 Z] 3) x1; clear hb8) | (refine St.step1n (W := w8) (T := 3) (cs := #[.int .i64 Z]) intE rfl (.tmp 116) (.tmp 120) rfl rfl (HST8.out.pick (ρ := [aOwn 3 1 vT ((Dm.tags P S1).map (Value.int .i64)), Dm.posn w.heap.size (.slice ac P.cl.length cc) vr vi vo vl ve, aOwn 23 1 (.slice (some ⟨g7, 0, none⟩) (S1.length + 1) c7) ((q.map Prod.fst).map Ll.slV ++ [Ll.slV (at_, T.length, ct)]), aCel wv.heap.size 96 (Dm.rowC (l1 ++ [-1])), aOwn 3 1 (.slice at_ T.length ct) ((T.map Dm.ofN).map Ll.iV), aCel wm.heap.size 25 #[.slice (some ⟨gA, 0, none⟩) P.cl.length P.cl.length], aOwn 4 1 (.slice (some ⟨gA, 0, none⟩) P.cl.length P.cl.length) (J.map Value.bool), aAll (q.map Dm.aSet), aCel (w.heap.size + 1 + 1) 30 #[vR, vT], aOwn 96 256 vR ((Dm.rows P n).map Wd.rowV), aCel (w.heap.size + 1) 30 #[.slice none 0 0, .slice none 0 0]]) [9, 0, 1, 2, 3, 4, 5, 6, 7, 8, 10] 11 rfl rfl) (.int .i64 Z) rfl w8.heap.size 1 rfl rfl rfl (by intro q hq; simp [Value.cells] at hq; subst hq; rfl) (by rw [List.length_map, HTL.out]; unfold maxLen; omega) (by rw [List.length_map, HTL.out]; omega) ?_; intro g' n' c' wB hstB; have xf1 := (hstB.nth 8 rfl).celFree 1; have x1 := (hstB.nth 8 rfl).celAt (i := 1) (v := vT) rfl; have HSTB := Lib.hid ((hstB.pick (ρ := [aCel (w.heap.size + 1 + 1) 30 #[vR, vT], aOwn 3 1 (.slice (some ⟨g', 0, none⟩) n' c') ((Dm.tags P S1).map (Value.int .i64) ++ [.int .i64 Z]), Dm.posn w.heap.size (.slice ac P.cl.length cc) vr vi vo vl ve, aOwn 23 1 (.slice (some ⟨g7, 0, none⟩) (S1.length + 1) c7) ((q.map Prod.fst).map Ll.slV ++ [Ll.slV (at_, T.length, ct)]), aCel wv.heap.size 96 (Dm.rowC (l1 ++ [-1])), aOwn 3 1 (.slice at_ T.length ct) ((T.map Dm.ofN).map Ll.iV), aCel wm.heap.size 25 #[.slice (some ⟨gA, 0, none⟩) P.cl.length P.cl.length], aOwn 4 1 (.slice (some ⟨gA, 0, none⟩) P.cl.length P.cl.length) (J.map Value.bool), aAll (q.map Dm.aSet), aOwn 96 256 vR ((Dm.rows P n).map Wd.rowV), aCel (w.heap.size + 1) 30 #[.slice none 0 0, .slice none 0 0]]) [8, 0, 1, 2, 3, 4, 5, 6, 7, 9, 10] 11 rfl rfl).setCel 1 (.slice (some ⟨g', 0, none⟩) n' c')); clear hstB))
                            refine hK.out _ _ ?_ (fun hHeld => ?_)
                            · (try dsimp only); (first | done | exact trivial)
                            clear hK K
                            try simp only [List.getElem_toArray, List.getElem_cons_zero, List.getElem_cons_succ, Act.put, List.setIfInBounds_toArray, List.set_cons_zero, List.set_cons_succ]
                            refine wpAnyH_ready (rs := [1, 5]) (by kernel_rfl) (by simp) ?_
                            refine AllReadyH.cons rfl (fun K hK => ?_) (AllReadyH.cons rfl (fun K hK => ?_) (AllReadyH.nil))
                            · skip
                              go_simp
                              refine hK.out _ _ ?_ (fun hHeld => ?_)
                              · (try dsimp only); (first | done | exact trivial)
                              clear hK K
                              try simp only [List.getElem_toArray, List.getElem_cons_zero, List.getElem_cons_succ, Act.put, List.setIfInBounds_toArray, List.set_cons_zero, List.set_cons_succ]
                              refine wpAnyH_ready (rs := [5]) (by kernel_rfl) (by simp) ?_
                              refine AllReadyH.cons rfl (fun K hK => ?_) (AllReadyH.nil)
                              go_simp
                              refine hK.out _ _ ?_ (fun hHeld => ?_)
                              · (try dsimp only); (first | done | exact trivial)
                              clear hK K
                              try simp only [List.getElem_toArray, List.getElem_cons_zero, List.getElem_cons_succ, Act.put, List.setIfInBounds_toArray, List.set_cons_zero, List.set_cons_succ]
                              refine wpAnyH_ready (rs := [6]) (by kernel_rfl) (by simp) ?_
                              refine AllReadyH.cons rfl (fun K hK => ?_) AllReadyH.nil
                              (first | (go_at_call 43; refine (HLS.out).mono ?_; rintro e w8 ⟨rfl, hb8⟩; have HST8 := Lib.hid (HSTD.out.call hb8); have x1 := (HST8.out.nth 7 rfl).celAt (i := 1) (v := vT) rfl; have x1e := Dm.keep1 (o := .cells #[.int .i64 Z] 3) x1; clear hb8) | (refine St.step1n (W := w8) (T := 3) (cs := #[.int .i64 Z]) intE rfl (.tmp 116) (.tmp 120) rfl rfl (HST8.out.pick (ρ := [aOwn 3 1 vT ((Dm.tags P S1).map (Value.int .i64)), Dm.posn w.heap.size (.slice ac P.cl.length cc) vr vi vo vl ve, aOwn 23 1 (.slice (some ⟨g7, 0, none⟩) (S1.length + 1) c7) ((q.map Prod.fst).map Ll.slV ++ [Ll.slV (at_, T.length, ct)]), aCel wv.heap.size 96 (Dm.rowC (l1 ++ [-1])), aOwn 3 1 (.slice at_ T.length ct) ((T.map Dm.ofN).map Ll.iV), aCel wm.heap.size 25 #[.slice (some ⟨gA, 0, none⟩) P.cl.length P.cl.length], aOwn 4 1 (.slice (some ⟨gA, 0, none⟩) P.cl.length P.cl.length) (J.map Value.bool), aAll (q.map Dm.aSet), aCel (w.heap.size + 1 + 1) 30 #[vR, vT], aOwn 96 256 vR ((Dm.rows P n).map Wd.rowV), aCel (w.heap.size + 1) 30 #[.slice none 0 0, .slice none 0 0]]) [9, 0, 1, 2, 3, 4, 5, 6, 7, 8, 10] 11 rfl rfl) (.int .i64 Z) rfl w8.heap.size 1 rfl rfl rfl (by intro q hq; simp [Value.cells] at hq; subst hq; rfl) (by rw [List.length_map, HTL.out]; unfold maxLen; omega) (by rw [List.length_map, HTL.out]; omega) ?_; intro g' n' c' wB hstB; have xf1 := (hstB.nth 8 rfl).celFree 1; have x1 := (hstB.nth 8 rfl).celAt (i := 1) (v := vT) rfl; have HSTB := Lib.hid ((hstB.pick (ρ := [aCel (w.heap.size + 1 + 1) 30 #[vR, vT], aOwn 3 1 (.slice (some ⟨g', 0, none⟩) n' c') ((Dm.tags P S1).map (Value.int .i64) ++ [.int .i64 Z]), Dm.posn w.heap.size (.slice ac P.cl.length cc) vr vi vo vl ve, aOwn 23 1 (.slice (some ⟨g7, 0, none⟩) (S1.length + 1) c7) ((q.map Prod.fst).map Ll.slV ++ [Ll.slV (at_, T.length, ct)]), aCel wv.heap.size 96 (Dm.rowC (l1 ++ [-1])), aOwn 3 1 (.slice at_ T.length ct) ((T.map Dm.ofN).map Ll.iV), aCel wm.heap.size 25 #[.slice (some ⟨gA, 0, none⟩) P.cl.length P.cl.length], aOwn 4 1 (.slice (some ⟨gA, 0, none⟩) P.cl.length P.cl.length) (J.map Value.bool), aAll (q.map Dm.aSet), aOwn 96 256 vR ((Dm.rows P n).map Wd.rowV), aCel (w.heap.size + 1) 30 #[.slice none 0 0, .slice none 0 0]]) [8, 0, 1, 2, 3, 4, 5, 6, 7, 9, 10] 11 rfl rfl).setCel 1 (.slice (some ⟨g', 0, none⟩) n' c')); clear hstB))
                              refine hK.out _ _ ?_ (fun hHeld => ?_)
                              · (try dsimp only); (first | done | exact trivial)
                              clear hK K
                              try simp only [List.getElem_toArray, List.getElem_cons_zero, List.getElem_cons_succ, Act.put, List.setIfInBounds_toArray, List.set_cons_zero, List.set_cons_succ]
                              refine wpAnyH_take (i := 7) (v := ?_) rfl (by kernel_rfl) (by kernel_rfl) (by kernel_rfl) (fun _ _ _ h => h) (Or.inl ⟨by rfl, ?_⟩) (by assumption) ?_
                              rotate_left; focus (intro w hSw; (try dsimp only at hSw); go_simp; try (with_reducible rfl); done)
                              try simp only [List.getElem_toArray, List.getElem_cons_zero, List.getElem_cons_succ, Act.put, List.setIfInBounds_toArray, List.set_cons_zero, List.set_cons_succ]
                              refine wpAnyH_ready (rs := [8]) (by kernel_rfl) (by simp) ?_
                              refine AllReadyH.cons rfl (fun K hK => ?_) AllReadyH.nil
                              go_simp
                              refine hK.out _ _ ?_ (fun hHeld => ?_)
                              · (try dsimp only); (first | done | exact trivial)
                              clear hK K
                              try simp only [List.getElem_toArray, List.getElem_cons_zero, List.getElem_cons_succ, Act.put, List.setIfInBounds_toArray, List.set_cons_zero, List.set_cons_succ]
                              refine wpAnyH_done (by kernel_rfl) ?_ _
                              clear x1 x1e xf1 HST8 HSTD HLS hHeld
                              have hB := HSTB.out
                              rw [← HZ.out] at hB
                              have hstM := Dm.newSet (vR := vR) (vT := .slice (some ⟨g', 0, none⟩) n' c') H0.out hB
                              clear hB
                              have HQ9 := Lib.hid (HQ.out.snoc (at_, T.length, ct) T)
                              clear HSTB
                              generalize wB.setCell ⟨w.heap.size + 1 + 1, 1, none⟩ (.slice (some ⟨g', 0, none⟩) n' c') = wC at *
                              generalize q ++ [((at_, T.length, ct), T.map Dm.ofN)] = q9 at *
                              have hs9 : (S1 ++ [T]).length = S1.length + 1 := by simp
                              have HS9 := Lib.hid hs9
                              clear hs9
                              by_cases hl2 : S1.length + 1 ≤ 200
                              · have hl2I : (S1.length : Int) + 1 ≤ 200 := by omega
                                have xr := (hstM.nth 0 rfl).celAt HG8.out
                                have xf := (hstM.nth 0 rfl).celFree b
                                have hst9 := hstM.setCel b (.int .i16 (S1.length : Int))
                                rw [HG9.out] at hst9
                                have HST9 := Lib.hid hst9
                                clear hst9 hstM
                                go_wp2
                                go_roundg (256 - (b + 1))
                                case measure => have := HGB.out; omega
                                case rel =>
                                  refine ⟨b + 1, .slice (some ⟨g7, 0, none⟩) (S1.length + 1) c7, .slice (some ⟨g', 0, none⟩) n' c', q9, by omega, rfl, by go_num, rfl, ?_, ?_, ?_⟩
                                  · rw [HU2.out]; exact HQ9
                                  · rw [HU2.out]; have := HS9.out; show (S1 ++ [T]).length ≤ 200; omega
                                  · rw [HU2.out]; exact HST9.out
                              · have hl2I : 200 < (S1.length : Int) + 1 := by omega
                                have HMX := Lib.hid (show 200 < (Dm.sets P (n + 1)).length by
                                  have h1 := HMO.out (by omega)
                                  rw [HU2.out] at h1
                                  rw [HSUC.out]
                                  have := HS9.out
                                  simp only at h1
                                  omega)
                                have f0 := (hstM.nth 8 rfl).celFree 0
                                have f1 := (hstM.nth 8 rfl).celFree 1
                                have r0 := (hstM.nth 8 rfl).celAt (i := 0) (v := .slice none 0 0) rfl
                                have r1 := (hstM.nth 8 rfl).celAt (i := 1) (v := .slice none 0 0) rfl
                                have HST6 := Lib.hid (((hstM.pick [8, 0] 10 rfl rfl).setCel 0 (.slice none 0 0)).setCel 1 (.slice none 0 0))
                                clear hstM hl2
                                go_wp2
                                have q0 := (HST6.out.nth 0 rfl).celAt (i := 0) (v := .slice none 0 0) rfl
                                have q1 := (HST6.out.nth 0 rfl).celAt (i := 1) (v := .slice none 0 0) rfl
                                refine bodyPost_ret (v := .tuple #[.agg #[.slice none 0 0, .slice none 0 0], .int .i64 8]) (by simp [results, Try.results12, go_sem, q0, q1]) rfl ⟨none, Lib.hid ⟨n, hn2, .inr ⟨hlt, HMX.out, rfl⟩⟩, rfl, HST6.out.bel⟩
                            · skip
                              go_simp
                              refine hK.out _ _ ?_ (fun hHeld => ?_)
                              · (try dsimp only); (first | done | exact trivial)
                              clear hK K
                              try simp only [List.getElem_toArray, List.getElem_cons_zero, List.getElem_cons_succ, Act.put, List.setIfInBounds_toArray, List.set_cons_zero, List.set_cons_succ]
                              refine wpAnyH_ready (rs := [1]) (by kernel_rfl) (by simp) ?_
                              refine AllReadyH.cons rfl (fun K hK => ?_) (AllReadyH.nil)
                              go_simp
                              refine hK.out _ _ ?_ (fun hHeld => ?_)
                              · (try dsimp only); (first | done | exact trivial)
                              clear hK K
                              try simp only [List.getElem_toArray, List.getElem_cons_zero, List.getElem_cons_succ, Act.put, List.setIfInBounds_toArray, List.set_cons_zero, List.set_cons_succ]
                              refine wpAnyH_ready (rs := [6]) (by kernel_rfl) (by simp) ?_
                              refine AllReadyH.cons rfl (fun K hK => ?_) AllReadyH.nil
                              (first | (go_at_call 43; refine (HLS.out).mono ?_; rintro e w8 ⟨rfl, hb8⟩; have HST8 := Lib.hid (HSTD.out.call hb8); have x1 := (HST8.out.nth 7 rfl).celAt (i := 1) (v := vT) rfl; have x1e := Dm.keep1 (o := .cells #[.int .i64 Z] 3) x1; clear hb8) | (refine St.step1n (W := w8) (T := 3) (cs := #[.int .i64 Z]) intE rfl (.tmp 116) (.tmp 120) rfl rfl (HST8.out.pick (ρ := [aOwn 3 1 vT ((Dm.tags P S1).map (Value.int .i64)), Dm.posn w.heap.size (.slice ac P.cl.length cc) vr vi vo vl ve, aOwn 23 1 (.slice (some ⟨g7, 0, none⟩) (S1.length + 1) c7) ((q.map Prod.fst).map Ll.slV ++ [Ll.slV (at_, T.length, ct)]), aCel wv.heap.size 96 (Dm.rowC (l1 ++ [-1])), aOwn 3 1 (.slice at_ T.length ct) ((T.map Dm.ofN).map Ll.iV), aCel wm.heap.size 25 #[.slice (some ⟨gA, 0, none⟩) P.cl.length P.cl.length], aOwn 4 1 (.slice (some ⟨gA, 0, none⟩) P.cl.length P.cl.length) (J.map Value.bool), aAll (q.map Dm.aSet), aCel (w.heap.size + 1 + 1) 30 #[vR, vT], aOwn 96 256 vR ((Dm.rows P n).map Wd.rowV), aCel (w.heap.size + 1) 30 #[.slice none 0 0, .slice none 0 0]]) [9, 0, 1, 2, 3, 4, 5, 6, 7, 8, 10] 11 rfl rfl) (.int .i64 Z) rfl w8.heap.size 1 rfl rfl rfl (by intro q hq; simp [Value.cells] at hq; subst hq; rfl) (by rw [List.length_map, HTL.out]; unfold maxLen; omega) (by rw [List.length_map, HTL.out]; omega) ?_; intro g' n' c' wB hstB; have xf1 := (hstB.nth 8 rfl).celFree 1; have x1 := (hstB.nth 8 rfl).celAt (i := 1) (v := vT) rfl; have HSTB := Lib.hid ((hstB.pick (ρ := [aCel (w.heap.size + 1 + 1) 30 #[vR, vT], aOwn 3 1 (.slice (some ⟨g', 0, none⟩) n' c') ((Dm.tags P S1).map (Value.int .i64) ++ [.int .i64 Z]), Dm.posn w.heap.size (.slice ac P.cl.length cc) vr vi vo vl ve, aOwn 23 1 (.slice (some ⟨g7, 0, none⟩) (S1.length + 1) c7) ((q.map Prod.fst).map Ll.slV ++ [Ll.slV (at_, T.length, ct)]), aCel wv.heap.size 96 (Dm.rowC (l1 ++ [-1])), aOwn 3 1 (.slice at_ T.length ct) ((T.map Dm.ofN).map Ll.iV), aCel wm.heap.size 25 #[.slice (some ⟨gA, 0, none⟩) P.cl.length P.cl.length], aOwn 4 1 (.slice (some ⟨gA, 0, none⟩) P.cl.length P.cl.length) (J.map Value.bool), aAll (q.map Dm.aSet), aOwn 96 256 vR ((Dm.rows P n).map Wd.rowV), aCel (w.heap.size + 1) 30 #[.slice none 0 0, .slice none 0 0]]) [8, 0, 1, 2, 3, 4, 5, 6, 7, 9, 10] 11 rfl rfl).setCel 1 (.slice (some ⟨g', 0, none⟩) n' c')); clear hstB))
                              refine hK.out _ _ ?_ (fun hHeld => ?_)
                              · (try dsimp only); (first | done | exact trivial)
                              clear hK K
                              try simp only [List.getElem_toArray, List.getElem_cons_zero, List.getElem_cons_succ, Act.put, List.setIfInBounds_toArray, List.set_cons_zero, List.set_cons_succ]
                              refine wpAnyH_take (i := 7) (v := ?_) rfl (by kernel_rfl) (by kernel_rfl) (by kernel_rfl) (fun _ _ _ h => h) (Or.inl ⟨by rfl, ?_⟩) (by assumption) ?_
                              rotate_left; focus (intro w hSw; (try dsimp only at hSw); go_simp; try (with_reducible rfl); done)
                              try simp only [List.getElem_toArray, List.getElem_cons_zero, List.getElem_cons_succ, Act.put, List.setIfInBounds_toArray, List.set_cons_zero, List.set_cons_succ]
                              refine wpAnyH_ready (rs := [8]) (by kernel_rfl) (by simp) ?_
                              refine AllReadyH.cons rfl (fun K hK => ?_) AllReadyH.nil
                              go_simp
                              refine hK.out _ _ ?_ (fun hHeld => ?_)
                              · (try dsimp only); (first | done | exact trivial)
                              clear hK K
                              try simp only [List.getElem_toArray, List.getElem_cons_zero, List.getElem_cons_succ, Act.put, List.setIfInBounds_toArray, List.set_cons_zero, List.set_cons_succ]
                              refine wpAnyH_done (by kernel_rfl) ?_ _
                              clear x1 x1e xf1 HST8 HSTD HLS hHeld
                              have hB := HSTB.out
                              rw [← HZ.out] at hB
                              have hstM := Dm.newSet (vR := vR) (vT := .slice (some ⟨g', 0, none⟩) n' c') H0.out hB
                              clear hB
                              have HQ9 := Lib.hid (HQ.out.snoc (at_, T.length, ct) T)
                              clear HSTB
                              generalize wB.setCell ⟨w.heap.size + 1 + 1, 1, none⟩ (.slice (some ⟨g', 0, none⟩) n' c') = wC at *
                              generalize q ++ [((at_, T.length, ct), T.map Dm.ofN)] = q9 at *
                              have hs9 : (S1 ++ [T]).length = S1.length + 1 := by simp
                              have HS9 := Lib.hid hs9
                              clear hs9
                              by_cases hl2 : S1.length + 1 ≤ 200
                              · have hl2I : (S1.length : Int) + 1 ≤ 200 := by omega
                                have xr := (hstM.nth 0 rfl).celAt HG8.out
                                have xf := (hstM.nth 0 rfl).celFree b
                                have hst9 := hstM.setCel b (.int .i16 (S1.length : Int))
                                rw [HG9.out] at hst9
                                have HST9 := Lib.hid hst9
                                clear hst9 hstM
                                go_wp2
                                go_roundg (256 - (b + 1))
                                case measure => have := HGB.out; omega
                                case rel =>
                                  refine ⟨b + 1, .slice (some ⟨g7, 0, none⟩) (S1.length + 1) c7, .slice (some ⟨g', 0, none⟩) n' c', q9, by omega, rfl, by go_num, rfl, ?_, ?_, ?_⟩
                                  · rw [HU2.out]; exact HQ9
                                  · rw [HU2.out]; have := HS9.out; show (S1 ++ [T]).length ≤ 200; omega
                                  · rw [HU2.out]; exact HST9.out
                              · have hl2I : 200 < (S1.length : Int) + 1 := by omega
                                have HMX := Lib.hid (show 200 < (Dm.sets P (n + 1)).length by
                                  have h1 := HMO.out (by omega)
                                  rw [HU2.out] at h1
                                  rw [HSUC.out]
                                  have := HS9.out
                                  simp only at h1
                                  omega)
                                have f0 := (hstM.nth 8 rfl).celFree 0
                                have f1 := (hstM.nth 8 rfl).celFree 1
                                have r0 := (hstM.nth 8 rfl).celAt (i := 0) (v := .slice none 0 0) rfl
                                have r1 := (hstM.nth 8 rfl).celAt (i := 1) (v := .slice none 0 0) rfl
                                have HST6 := Lib.hid (((hstM.pick [8, 0] 10 rfl rfl).setCel 0 (.slice none 0 0)).setCel 1 (.slice none 0 0))
                                clear hstM hl2
                                go_wp2
                                have q0 := (HST6.out.nth 0 rfl).celAt (i := 0) (v := .slice none 0 0) rfl
                                have q1 := (HST6.out.nth 0 rfl).celAt (i := 1) (v := .slice none 0 0) rfl
                                refine bodyPost_ret (v := .tuple #[.agg #[.slice none 0 0, .slice none 0 0], .int .i64 8]) (by simp [results, Try.results12, go_sem, q0, q1]) rfl ⟨none, Lib.hid ⟨n, hn2, .inr ⟨hlt, HMX.out, rfl⟩⟩, rfl, HST6.out.bel⟩
                        · have hnb : ((Dm.at' S1 T : Int) == (S1.length : Int)) = false := by rw [beq_eq_false_iff_ne]; omega
                          have hle := Dm.at_le (t := T) H0.out
                          have hu := HU.out
                          rw [if_neg hat] at hu
                          have HU2 := Lib.hid hu
                          clear hat hu
                          have xr := (HST.out.nth 0 rfl).celAt HG8.out
                          have xf := (HST.out.nth 0 rfl).celFree b
                          have hst9 := (HST.out.pick (ρ := [aCel wv.heap.size 96 (Dm.rowC (l1 ++ [-1])), aCel wm.heap.size 25 #[.slice (some ⟨gA, 0, none⟩) P.cl.length P.cl.length], aOwn 4 1 (.slice (some ⟨gA, 0, none⟩) P.cl.length P.cl.length) (J.map Value.bool), aOwn 23 1 (.slice (some ⟨gs, 0, none⟩) S1.length cs) ((q.map Prod.fst).map Ll.slV), aAll (q.map Dm.aSet), aCel (w.heap.size + 1 + 1) 30 #[vR, vT], aOwn 96 256 vR ((Dm.rows P n).map Wd.rowV), aOwn 3 1 vT ((Dm.tags P S1).map (Value.int .i64)), aCel (w.heap.size + 1) 30 #[.slice none 0 0, .slice none 0 0], Dm.posn w.heap.size (.slice ac P.cl.length cc) vr vi vo vl ve]) [0, 2, 3, 4, 5, 6, 7, 8, 9, 10] 11 rfl rfl).setCel b (.int .i16 (Dm.at' S1 T : Int))
                          rw [HG9.out] at hst9
                          have HST9 := Lib.hid hst9
                          clear hst9 HST
                          generalize Dm.at' S1 T = at9 at *
                          have hle2 : (at9 : Int) ≤ 200 := by omega
                          go_wp2
                          go_roundg (256 - (b + 1))
                          case measure => have := HGB.out; omega
                          case rel =>
                            refine ⟨b + 1, .slice (some ⟨gs, 0, none⟩) S1.length cs, vT, q, by omega, rfl, by go_num, rfl, ?_, ?_, ?_⟩
                            · rw [HU2.out]; exact HQ
                            · rw [HU2.out]; exact hlen
                            · rw [HU2.out]; exact HST9.out
              · have hbe : b = 256 := by omega
                have hbg : ¬ ((b : Int) < 256) := by omega
                have hE := HE.out
                rw [hbe] at hE
                have HS9 := Lib.hid (show Dm.sets P (n + 1) = S1 by rw [HSUC.out, hE])
                have hl256 : l1.length = 256 := by rw [HRL.out, hbe]
                have HL6 := Lib.hid hl256
                have HR9 := Lib.hid (show (Dm.rows P n).map Wd.rowV ++ [.agg (Dm.rowC l1)] = (Dm.rows P (n + 1)).map Wd.rowV by
                  rw [HROWS.out, hE, List.map_append, List.map_singleton, Dm.rowC_full hl256])
                have HRN := Lib.hid (show ((Dm.rows P n).map Wd.rowV).length = n by simp [Dm.rows])
                have HNL := Lib.hid (show n + 1 ≤ (Dm.sets P (n + 1)).length by have := Dm.sets_len_le P (show n ≤ n + 1 by omega); omega)
                have x0 := (hst.nth 5 rfl).celAt (i := 0) (v := vR) rfl
                have HST := Lib.hid (hst.pick (ρ := [aOwn 96 256 vR ((Dm.rows P n).map Wd.rowV), aCel (w.heap.size + 1 + 1) 30 #[vR, vT], aCel wv.heap.size 96 (Dm.rowC l1), aOwn 23 1 (.slice (some ⟨gs, 0, none⟩) S1.length cs) ((q.map Prod.fst).map Ll.slV), aAll (q.map Dm.aSet), aOwn 3 1 vT ((Dm.tags P S1).map (Value.int .i64)), aCel (w.heap.size + 1) 30 #[.slice none 0 0, .slice none 0 0], Dm.posn w.heap.size (.slice ac P.cl.length cc) vr vi vo vl ve]) [6, 5, 0, 3, 4, 7, 8, 9] 10 rfl rfl)
                have hnI : (n : Int) ≤ 200 := by omega
                clear hst hbe hE hl256
                go_wp2_with (first | (refine St.rowIn rfl 96 (.tmp 12) rfl wv.heap.size rfl _ HST.out 2 rfl Try.underlying96 rfl (by rw [Dm.rowC_size (by rw [HL6.out]; exact Nat.le_refl _)]; exact Dm.rowInfo) ?_) | (refine buildOne rowE rfl (.tmp 133) rfl (Dm.rowC l1) rfl (Dm.rowC_size (by rw [HL6.out]; exact Nat.le_refl _)) (by decide) ?_) | (at_builtin; refine St.app1n rowE rfl (.tmp 132) (.tmp 134) rfl rfl HST.out (.agg (Dm.rowC l1)) rfl wx.heap.size 1 rfl rfl (Dm.rowC_size (by rw [HL6.out]; exact Nat.le_refl _)) (Dm.rowC_ones l1) (by rw [HRN.out]; unfold maxLen; omega) (by rw [HRN.out]; omega) ?_; intro g' n' c' wB hstB; have xf0 := (hstB.nth 1 rfl).celFree 0; clear x0; have x0 := (hstB.nth 1 rfl).celAt (i := 0) (v := vR) rfl; have HSTB := Lib.hid ((hstB.pick (ρ := [aCel (w.heap.size + 1 + 1) 30 #[vR, vT], aOwn 96 256 (.slice (some ⟨g', 0, none⟩) n' c') ((Dm.rows P n).map Wd.rowV ++ [.agg (Dm.rowC l1)]), aCel wv.heap.size 96 (Dm.rowC l1), aOwn 23 1 (.slice (some ⟨gs, 0, none⟩) S1.length cs) ((q.map Prod.fst).map Ll.slV), aAll (q.map Dm.aSet), aOwn 3 1 vT ((Dm.tags P S1).map (Value.int .i64)), aCel (w.heap.size + 1) 30 #[.slice none 0 0, .slice none 0 0], Dm.posn w.heap.size (.slice ac P.cl.length cc) vr vi vo vl ve]) [1, 0, 2, 3, 4, 5, 6, 7] 8 rfl rfl).setCel 0 (.slice (some ⟨g', 0, none⟩) n' c')); clear hstB HST))
                go_roundg (201 - (n + 1))
                case measure => have := HGZ.out; omega
                case rel =>
                  have hB := HSTB.out
                  rw [HR9.out] at hB
                  refine ⟨n + 1, .slice (some ⟨gs, 0, none⟩) S1.length cs, .slice (some ⟨g', 0, none⟩) n' c', vT, q, HNL.out, ?_, rfl, by go_num, rfl, ?_, ?_⟩
                  · rw [HS9.out]; exact hlen
                  · rw [HS9.out]; exact HQ
                  · rw [HS9.out]
                    exact hB.pick [3, 4, 0, 1, 5, 6, 7] 8 rfl rfl
    · have hne : n = (Dm.sets P n).length := by omega
      have HNE := Lib.hid hne
      clear hne
      have hge : ¬ ((n : Int) < (Dm.sets P n).length) := by omega
      have x0 := (hst.nth 2 rfl).celAt (i := 0) (v := vR) rfl
      have x1 := (hst.nth 2 rfl).celAt (i := 1) (v := vT) rfl
      have r0 := (hst.nth 5 rfl).celAt (i := 0) (v := .slice none 0 0) rfl
      have r1 := (hst.nth 5 rfl).celAt (i := 1) (v := .slice none 0 0) rfl
      have f0 := (hst.nth 5 rfl).celFree 0
      have f1 := (hst.nth 5 rfl).celFree 1
      obtain ⟨ar, nr, cr, rfl⟩ := (hst.nth 3 rfl).own.isSlice
      obtain ⟨at_, nt, ct, rfl⟩ := (hst.nth 4 rfl).own.isSlice
      have HST6 := Lib.hid (((hst.pick (ρ := [aCel (w.heap.size + 1) 30 #[.slice none 0 0, .slice none 0 0], aOwn 96 256 (.slice ar nr cr) ((Dm.rows P n).map Wd.rowV), aOwn 3 1 (.slice at_ nt ct) ((Dm.tags P (Dm.sets P n)).map (Value.int .i64))]) [5, 3, 4] 7 rfl rfl).setCel 0 (.slice ar nr cr)).setCel 1 (.slice at_ nt ct))
      clear hst hlt hs0
      go_wp2
      have q0 := (HST6.out.nth 0 rfl).celAt (i := 0) (v := .slice ar nr cr) rfl
      have q1 := (HST6.out.nth 0 rfl).celAt (i := 1) (v := .slice at_ nt ct) rfl
      have hnl := HNE.out
      refine bodyPost_ret (v := .tuple #[.agg #[.slice ar nr cr, .slice at_ nt ct], .int .i64 0]) (by simp [results, Try.results12, go_sem, q0, q1]) rfl ⟨some (Dm.rows P n, Dm.tags P (Dm.sets P n)), Lib.hid ⟨n, hn2, .inl ⟨hnl, rfl⟩⟩, ⟨_, _, rfl, Wd.sl (HST6.out.nth 1 rfl).own (Dm.rows_wf P hn1 hn2), Own.sl (HST6.out.nth 2 rfl).own (Dm.tags_wf P HG.out.he2 _)⟩, HST6.out.bel⟩
end Go.Proofs.Ytlgabpcddldelaa
