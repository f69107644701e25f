/-
  row of package dfa: the next states of a state.
-/
import Derived.Test.YtlgabpcddldelaaDmNxt
import Derived.Test.YtlgabpcddldelaaArrNe
namespace Go.Proofs.Ytlgabpcddldelaa
set_option linter.unusedVariables false
set_option linter.unusedSimpArgs false
open Go.ChangeShapes Go.WideShapes Go.ChangeAt Go.RowKit

namespace Dm
/-- The cells of a row so far. -/
def rowC (l : List Int) : Array Value := ((l ++ List.replicate (256 - l.length) 0).map (Value.int .i16)).toArray
theorem rowC_nil : rowC [] = Try.zeroCells96 := by kernel_rfl
theorem rowC_size {l : List Int} (h : l.length ≤ 256) : (rowC l).size = 256 := by simp [rowC]; omega
theorem rowC_get {l : List Int} (h : l.length < 256) : (rowC l)[l.length]? = some (.int .i16 0) := by
  unfold rowC
  rw [List.getElem?_toArray, List.getElem?_map, List.getElem?_append_right (Nat.le_refl _), Nat.sub_self, List.getElem?_replicate, if_pos (by omega)]
  rfl
theorem rowC_get2 {l : List Int} {x : Int} : (rowC (l ++ [x]))[l.length]? = some (.int .i16 x) := by
  unfold rowC
  rw [List.getElem?_toArray, List.getElem?_map, List.getElem?_append_left (by simp), List.getElem?_append_right (Nat.le_refl _), Nat.sub_self]
  rfl
theorem rowC_set {l : List Int} (h : l.length < 256) (x : Int) : (rowC l).setIfInBounds l.length (.int .i16 x) = rowC (l ++ [x]) := by
  apply Array.toList_inj.1
  unfold rowC
  rw [Array.toList_setIfInBounds, ← List.map_set, List.set_append_right _ _ (Nat.le_refl _), Nat.sub_self]
  have e : l ++ (List.replicate (256 - l.length) 0).set 0 x = l ++ [x] ++ List.replicate (256 - (l ++ [x]).length) 0 := by
    rw [List.length_append, List.length_singleton, List.append_assoc, show 256 - l.length = (256 - (l.length + 1)) + 1 by omega, List.replicate_succ]
    rfl
  rw [e]
theorem rowC_set2 {l : List Int} (x y : Int) : (rowC (l ++ [x])).setIfInBounds l.length (.int .i16 y) = rowC (l ++ [y]) := by
  apply Array.toList_inj.1
  unfold rowC
  rw [Array.toList_setIfInBounds, ← List.map_set, List.set_append_left _ _ (by simp), List.set_append_right _ _ (Nat.le_refl _), Nat.sub_self]
  simp
theorem rowC_one (l : List Int) : (rowC l).all (·.oneCell') = true := by
  rw [← Array.all_toList]
  simp only [rowC, List.all_map]
  exact List.all_eq_true.2 (fun _ _ => rfl)
theorem rowInfo : (Try.prog.info? 96).map (·.size) = some 256 := by kernel_rfl
/-- The set so far: the places below y. -/
def cut (P : Pn) (k : Nat) (fr : List Nat) (b y : Nat) : List Nat := (List.range y).filter fun x => all P k fr x && Pl.has (P.cl.getD x []) b
theorem cut_zero (P : Pn) (k : Nat) (fr : List Nat) (b : Nat) : cut P k fr b 0 = [] := rfl
theorem cut_succ (P : Pn) (k : Nat) (fr : List Nat) (b y : Nat) : ofL (cut P k fr b (y + 1)) = if (all P k fr y && Pl.has (P.cl.getD y []) b) = true then put (ofL (cut P k fr b y)) y else ofL (cut P k fr b y) := by
  unfold cut
  rw [List.range_succ, List.filter_append]
  split
  · rename_i h
    simp only [List.filter_cons, h, if_true, List.filter_nil]
    unfold ofL
    rw [List.foldl_append]; rfl
  · rename_i h
    simp only [List.filter_cons, h, if_false, List.filter_nil, List.append_nil, Bool.false_eq_true]
theorem ok_cut (P : Pn) (k : Nat) (fr : List Nat) (b y : Nat) (hy : y ≤ 256) : Ok4 (ofL (cut P k fr b y)) := ok_ofL fun x hx => by have := List.mem_range.1 (List.mem_filter.1 hx).1; omega
theorem okFour {ws : List Nat} (h : Ok4 ws) : ∃ a b c d, ws = [a, b, c, d] := by
  have := h.len
  match ws, this with
  | [a, b, c, d], _ => exact ⟨a, b, c, d, rfl⟩
theorem four {l : List Int} (h : l.length = 4) : ∃ a b c d, l = [a, b, c, d] := by
  match l, h with
  | [a, b, c, d], _ => exact ⟨a, b, c, d, rfl⟩
/-- How a row ends. -/
def RowEnd (P : Pn) (k : Nat) (fr : List Nat) (S : List (List Nat)) (b : Nat) (l : List Int) (D : DataW Unit) : Prop := b ≤ 256 ∧ l.length ≤ 256 ∧ (b = 256 ∧ l = (rowK P k fr S b).2 ∨ 200 < (rowK P k fr S b).1.length) ∧ (rowK P k fr S b).1.length ≤ 201 ∧ Tells 177 setV D (tabOf (rowK P k fr S b).1)
theorem tags_len (P : Pn) {S : List (List Nat)} (h : 0 < S.length) : (tags P S).length = S.length := by unfold tags; simp; omega
end Dm

set_option maxRecDepth 100000 in
set_option maxHeartbeats 8000000 in
theorem dmRow_any (P : Dm.Pn) (hg : Dm.Good P) (k : Nat) (S : List (List Nat)) (hk : k < S.length) (fr : List Nat) (hfr : S.getD k [] = fr) (hS : S.length ≤ 200) (hsel : Dm.Sel P.cl.length S) (gm gS cS gM : Nat) (D : DataW Unit) (hD : Tells 177 Dm.setV D (Dm.tabOf S)) (vc vr vi vo vl ve vR vT : Value) (w0 w : World) (F : Nat → Prop) (hF : ∀ b, F b → b < w0.heap.size) (hin : Dm.In F w0 vc vr vi vo vl ve P) (μ : List Asrt)
    (h : St w0 w (Dm.base gm gS cS gM (S.length - 1) vc vr vi vo vl ve vR vT (S.map Dm.ofL) D (Dm.tags P S) μ)) :
    Calls Try.prog 39 #[.pointer (some ⟨gm, 0, none⟩), .int .i64 k] w fun e w' => ∃ (b gS' cS' : Nat) (D' : DataW Unit) (vT' : Value) (l : List Int), Hid (Dm.RowEnd P k fr S b l D') ∧ e = .returned (.agg (Dm.rowC l)) ∧ St w0 w' (Dm.base gm gS' cS' gM ((Dm.rowK P k fr S b).1.length - 1) vc vr vi vo vl ve vR vT' ((Dm.rowK P k fr S b).1.map Dm.ofL) D' (Dm.tags P (Dm.rowK P k fr S b).1) μ) := by
  subst hfr
  have HNX := Lib.hid (fun w0 w hst => dmNext_any P hg S hsel k hk vc vr vi vo vl ve (.map (some gM)) vR vT w0 w F hst)
  generalize S.getD k [] = fr at *
  have HG := Lib.hid hg
  have hn := hg.hn
  have HSEL := Lib.hid (fun b => Dm.sel_row (P := P) (k := k) (fr := fr) hsel (by omega) b)
  have HS0 := Lib.hid (fun b => Nat.lt_of_lt_of_le (show 0 < S.length by omega) (Dm.rowK_len_le P k fr S b))
  have HIN := Lib.hid hin
  have HF := Lib.hid hF
  have HSS := Lib.hid hS
  have HD := Lib.hid hD
  have h1 := hin.h1
  obtain ⟨ac, bc, oc, cc, rfl, -, k3, k4⟩ := slCls h1
  have K3 := Lib.hid k3; have K4 := Lib.hid k4
  have HST := Lib.hid (h.alloc (Dm.rowC []) 96)
  have HROW := Lib.hid Dm.rowC_nil
  rw [Dm.rowC_nil] at HST
  have hni : (P.cl.length : Int) ≤ 200 := by omega
  have hki : (k : Int) < 200 := by omega
  clear hg hsel hF hin h h1 k3 k4 hD hS hk
  go_enter Try.func39, Try.ntmps39
  go_wp2_with (fail)
  go_at_call 93
  refine (HNX.out _ _ HF.out HIN.out _ _ _ _ (HST.out.pick [1, 2, 0, 3, 4] 5 rfl rfl)).mono ?_
  rintro e w1 ⟨nx, rfl, HNXV, hb1⟩
  obtain ⟨n0, n1, n2, n3, rfl⟩ := Dm.okFour HNXV.out.1
  have HST1 := Lib.hid (((HST.out.call hb1).alloc #[Dm.wV n0, Dm.wV n1, Dm.wV n2, Dm.wV n3] 177).alloc (Dm.rowC []) 96)
  rw [Dm.rowC_nil] at HST1
  have HSZ := Lib.hid hb1.size
  clear HST hb1 HNX
  unfold Dm.setV Dm.setA
  simp only [List.map_cons, List.map_nil]
  unfold Dm.wV at *
  simp only [World.size_alloc] at HST1
  have hz1 : w.heap.size < w1.heap.size := Nat.lt_of_lt_of_le (by simp) HSZ.out
  generalize hg4 : w.heap.size = g4 at *
  clear hg4 HSZ
  go_wp2_with (fail)
  go_loopg [14] 256 (fun gz v wr => ∃ (b gS' cS' : Nat) (D' : DataW Unit) (vT' : Value), b ≤ 256 ∧ gz = 256 - b ∧ v = .int .i64 b ∧ Hid (Tells 177 Dm.setV D' (Dm.tabOf (Dm.rowK P k fr S b).1)) ∧ (Dm.rowK P k fr S b).1.length ≤ 200 ∧
    St w0 wr (aCel (w1.heap.size + 1) 96 (Dm.rowC (Dm.rowK P k fr S b).2) :: aCel w1.heap.size 177 #[.int .u64 n0, .int .u64 n1, .int .u64 n2, .int .u64 n3] :: aCel g4 96 Try.zeroCells96 :: Dm.base gm gS' cS' gM ((Dm.rowK P k fr S b).1.length - 1) (.slice ac P.cl.length cc) vr vi vo vl ve vR vT' ((Dm.rowK P k fr S b).1.map Dm.ofL) D' (Dm.tags P (Dm.rowK P k fr S b).1) μ))
  case atStart => exact ⟨0, gS, cS, D, vT, by omega, by omega, rfl, HD, HSS.out, by rw [Dm.rowK_zero, Dm.rowC_nil]; exact HST1.out⟩
  case round =>
    clear HST1 HD HSS
    obtain ⟨b, gS, cS, D, vT, hb, hgz, rfl, HD, hlen, hst⟩ := hrel
    have HGZ := Lib.hid hgz
    clear hgz
    have HSE := HSEL.out b
    have H0 := HS0.out b
    have hrl := Dm.rowK_row_len P k fr S b
    have HSUC := Lib.hid (Dm.rowK_succ P k fr S b)
    obtain ⟨⟨S1, l1⟩, hE⟩ : ∃ x, Dm.rowK P k fr S b = x := ⟨_, rfl⟩
    rw [hE] at HD hlen hst HSE H0 hrl HSUC
    simp only at HD hlen hst HSE H0 hrl
    by_cases hlt : b < 256
    · have hb256 : (b : Int) < 256 := by omega
      have HST2 := Lib.hid (hst.alloc #[.int .u64 0, .int .u64 0, .int .u64 0, .int .u64 0] 177)
      have x0 := (HST2.out.nth 4 rfl).celAt (i := 0) rfl
      clear hst
      rename World => wo
      go_wp2_with (fail)
      go_loopg [23] P.cl.length (fun gz v wr => ∃ (y : Nat), y ≤ P.cl.length ∧ gz = P.cl.length - y ∧ v = .int .i64 y ∧
        St w0 wr (aCel wo.heap.size 177 (Dm.setA (Dm.ofL (Dm.cut P k fr b y))) :: aCel (w1.heap.size + 1) 96 (Dm.rowC l1) :: aCel w1.heap.size 177 #[.int .u64 n0, .int .u64 n1, .int .u64 n2, .int .u64 n3] :: aCel g4 96 Try.zeroCells96 :: Dm.base gm gS cS gM (S1.length - 1) (.slice ac P.cl.length cc) vr vi vo vl ve vR vT (S1.map Dm.ofL) D (Dm.tags P S1) μ))
      case atStart => exact ⟨0, by omega, by omega, rfl, HST2.out⟩
      case round =>
        clear HST2 x0
        obtain ⟨y, hy, hgz, rfl, hst⟩ := hrel
        have HGY := Lib.hid hgz
        clear hgz
        by_cases hly : y < P.cl.length
        · obtain ⟨rfl, -, -⟩ := K3.out (by omega)
          obtain ⟨e1, e2, e3⟩ := K4.out y hly
          obtain ⟨q0, q1, q2, q3, hq⟩ := Dm.four e2
          have HC := Lib.hid (fun W => has_any #[.int .u64 q0, .int .u64 q1, .int .u64 q2, .int .u64 q3] (P.cl.getD y []) b hlt W (by rw [hq]; rfl) e2 e3)
          have HCUT := Lib.hid (Dm.cut_succ P k fr b y)
          have HH := Lib.hid (fun W => setHas_any [n0, n1, n2, n3] y (by omega) HNXV.out.1 W)
          have HPUT := Lib.hid (fun w g μ h => setPut_any (Dm.ofL (Dm.cut P k fr b y)) y (by omega) (Dm.ok_cut P k fr b y (by omega)) w0 w g μ h)
          have hA2 := HNXV.out.2 y (by omega)
          have d0 := bkeep hst.bel (e1 0 (by omega))
          have d1 := bkeep hst.bel (e1 1 (by omega))
          have d2 := bkeep hst.bel (e1 2 (by omega))
          have d3 := bkeep hst.bel (e1 3 (by omega))
          rw [hq] at d0 d1 d2 d3
          rw [Nat.add_zero] at d0
          replace d0 : wr.cell? ⟨bc, oc + y * 4, none⟩ = some (.int .u64 q0) := d0
          replace d1 : wr.cell? ⟨bc, oc + y * 4 + 1, none⟩ = some (.int .u64 q1) := d1
          replace d2 : wr.cell? ⟨bc, oc + y * 4 + 2, none⟩ = some (.int .u64 q2) := d2
          replace d3 : wr.cell? ⟨bc, oc + y * 4 + 3, none⟩ = some (.int .u64 q3) := d3
          obtain ⟨A, hA⟩ : ∃ A, Dm.mem [n0, n1, n2, n3] y = A := ⟨_, rfl⟩
          obtain ⟨B, hB⟩ : ∃ B, Pl.has (P.cl.getD y []) b = B := ⟨_, rfl⟩
          rw [hA] at HH hA2
          rw [hB] at HC HCUT
          rw [← hA2] at HCUT
          have HST4 := Lib.hid (hst.alloc #[.int .u64 q0, .int .u64 q1, .int .u64 q2, .int .u64 q3] 39)
          have c0 := (HST4.out.nth 3 rfl).celAt (i := 0) rfl
          have c1 := (HST4.out.nth 3 rfl).celAt (i := 1) rfl
          have c2 := (HST4.out.nth 3 rfl).celAt (i := 2) rfl
          have c3 := (HST4.out.nth 3 rfl).celAt (i := 3) rfl
          clear hst e1 e2 e3 hq hA hB hA2
          go_wp2_with (fail)
          go_at_call 94
          refine (HH.out _).mono ?_
          rintro e w5 ⟨rfl, hb5⟩
          have HST5 := Lib.hid (HST4.out.call hb5)
          clear hb5 HST4 c0 c1 c2 c3 d0 d1 d2 d3
          cases A
          · have hc := HCUT.out
            simp only [Bool.false_and, Bool.false_eq_true, if_false] at hc
            have HCU := Lib.hid hc
            clear hc
            go_wp2
            go_roundg (P.cl.length - (y + 1))
            case measure => have := HGY.out; omega
            case rel => exact ⟨y + 1, by omega, rfl, by go_num, by rw [HCU.out]; exact HST5.out.drop⟩
          · have c0 := (HST5.out.nth 0 rfl).celAt (i := 0) rfl
            have c1 := (HST5.out.nth 0 rfl).celAt (i := 1) rfl
            have c2 := (HST5.out.nth 0 rfl).celAt (i := 2) rfl
            have c3 := (HST5.out.nth 0 rfl).celAt (i := 3) rfl
            go_wp2_with (fail)
            go_at_call 95
            refine (HC.out _).mono ?_
            rintro e w6 ⟨rfl, hb6⟩
            have HST6 := Lib.hid (HST5.out.drop.call hb6)
            clear hb6 HST5 c0 c1 c2 c3
            cases B
            · have hc := HCUT.out
              simp only [Bool.true_and, Bool.false_eq_true, if_false] at hc
              have HCU := Lib.hid hc
              clear hc
              go_wp2
              go_roundg (P.cl.length - (y + 1))
              case measure => have := HGY.out; omega
              case rel => exact ⟨y + 1, by omega, rfl, by go_num, by rw [HCU.out]; exact HST6.out⟩
            · have hc := HCUT.out
              simp only [Bool.true_and, if_true] at hc
              have HCU := Lib.hid hc
              clear hc
              go_wp2_with (fail)
              go_at_call 96
              refine (HPUT.out _ _ _ HST6.out).mono ?_
              rintro e w7 ⟨rfl, hst7⟩
              have HST7 := Lib.hid hst7
              clear hst7 HST6
              go_wp2
              go_roundg (P.cl.length - (y + 1))
              case measure => have := HGY.out; omega
              case rel => exact ⟨y + 1, by omega, rfl, by go_num, by rw [HCU.out]; exact HST7.out⟩
        · have hye : y = P.cl.length := by omega
          have hT : Dm.cut P k fr b y = Dm.to' P k fr b := by rw [hye]; rfl
          have hok := Dm.ok_cut P k fr b y (by omega)
          rw [hT] at hst hok
          have HYE := Lib.hid hye
          clear hye hT
          obtain ⟨a0, a1, a2, a3, hw⟩ := Dm.okFour hok
          have hget := Dm.rowC_get (l := l1) (by omega)
          have hset := Dm.rowC_set (l := l1) (by omega) (-1)
          rw [hrl] at hget hset
          rw [hw] at hst
          have xr := (hst.nth 1 rfl).celAt hget
          have xf := (hst.nth 1 rfl).celFree b
          have HST8 := Lib.hid (hst.get2.setCel b (.int .i16 (-1)))
          rw [hset] at HST8
          have x6 := (HST8.out.nth 4 rfl).celAt (i := 6) rfl
          have hlm : ((S1.map Dm.ofL).length : Int) ≤ 200 := by rw [List.length_map]; omega
          have HOK := Lib.hid hok
          have HW := Lib.hid hw
          clear hget hset hst hok hw
          by_cases hT : Dm.to' P k fr b = []
          · have hz : a0 = 0 ∧ a1 = 0 ∧ a2 = 0 ∧ a3 = 0 := by
              have := HW.out
              rw [hT] at this
              have e : [0, 0, 0, 0] = [a0, a1, a2, a3] := this
              simp only [List.cons.injEq, and_true] at e
              omega
            obtain ⟨rfl, rfl, rfl, rfl⟩ := hz
            have heq : ∀ W, (Op.equalIn 10000 177 (.agg #[.int .u64 0, .int .u64 0, .int .u64 0, .int .u64 0]) (.agg #[.int .u64 0, .int .u64 0, .int .u64 0, .int .u64 0])).run Try.prog W = .ok true W := fun W => run_equalIn_arr2 (P := Try.prog) (n := 4) (k := .u64) Try.underlying177 Try.underlying37 (by kernel_rfl) [0, 0, 0, 0] [0, 0, 0, 0] rfl rfl 9998 W
            have c0 := (HST8.out.nth 1 rfl).celAt (i := 0) (v := .int .u64 0) rfl
            have c1 := (HST8.out.nth 1 rfl).celAt (i := 1) (v := .int .u64 0) rfl
            have c2 := (HST8.out.nth 1 rfl).celAt (i := 2) (v := .int .u64 0) rfl
            have c3 := (HST8.out.nth 1 rfl).celAt (i := 3) (v := .int .u64 0) rfl
            have HSU : Dm.rowK P k fr S (b + 1) = (S1, l1 ++ [-1]) := by
              rw [HSUC.out]; unfold Dm.step; simp only [hT, if_true]
            have HSU := Lib.hid HSU
            have HT := Lib.hid hT
            clear hT
            go_wp2
            go_roundg (256 - (b + 1))
            case measure => have := HGZ.out; omega
            case rel =>
              refine ⟨b + 1, gS, cS, D, vT, by omega, rfl, by go_num, ?_, ?_, ?_⟩
              · rw [HSU.out]; exact HD
              · rw [HSU.out]; exact hlen
              · rw [HSU.out]; exact HST8.out.pick [0, 2, 3] 4 rfl rfl
          · have hcT : ∃ c : Nat → Bool, Dm.to' P k fr b = (List.range P.cl.length).filter c := ⟨_, rfl⟩
            have hne : [a0, a1, a2, a3] ≠ [0, 0, 0, 0] := by
              intro e
              have := (Dm.ofL_zero (by omega) hcT).1 (HW.out.trans e)
              exact hT this
            have hneI : ([(a0 : Int), a1, a2, a3] : List Int) ≠ [0, 0, 0, 0] := by
              intro e
              simp only [List.cons.injEq, and_true] at e
              apply hne
              simp only [List.cons.injEq, and_true]
              omega
            have heq : ∀ W, (Op.equalIn 10000 177 (.agg #[.int .u64 a0, .int .u64 a1, .int .u64 a2, .int .u64 a3]) (.agg #[.int .u64 0, .int .u64 0, .int .u64 0, .int .u64 0])).run Try.prog W = .ok false W := fun W => (run_equalIn_arr2 (P := Try.prog) (n := 4) (k := .u64) Try.underlying177 Try.underlying37 (by kernel_rfl) [(a0 : Int), a1, a2, a3] [0, 0, 0, 0] rfl rfl 9998 W).trans (by rw [decide_eq_false hneI])
            have c0 := (HST8.out.nth 1 rfl).celAt (i := 0) (v := .int .u64 a0) rfl
            have c1 := (HST8.out.nth 1 rfl).celAt (i := 1) (v := .int .u64 a1) rfl
            have c2 := (HST8.out.nth 1 rfl).celAt (i := 2) (v := .int .u64 a2) rfl
            have c3 := (HST8.out.nth 1 rfl).celAt (i := 3) (v := .int .u64 a3) rfl
            have hhas := Dm.has_tabOf (by omega) HSE H0 hcT
            have HTE := Lib.hid hT
            have HCT := Lib.hid hcT
            clear hT hne hneI hcT x6
            rw [HW.out] at hhas
            have HSU := Lib.hid (show Dm.rowK P k fr S (b + 1) = (if Dm.at' S1 (Dm.to' P k fr b) = S1.length then S1 ++ [Dm.to' P k fr b] else S1, l1 ++ [(Dm.at' S1 (Dm.to' P k fr b) : Int)]) by
              rw [HSUC.out]; unfold Dm.step; simp only [if_neg HTE.out])
            have HG8 := Lib.hid (show (Dm.rowC (l1 ++ [-1]))[b]? = some (.int .i16 (-1)) by rw [← hrl]; exact Dm.rowC_get2)
            have HG9 := Lib.hid (fun x => show (Dm.rowC (l1 ++ [-1])).setIfInBounds b (.int .i16 x) = Dm.rowC (l1 ++ [x]) by rw [← hrl]; exact Dm.rowC_set2 (-1) x)
            by_cases hat : Dm.at' S1 (Dm.to' P k fr b) = S1.length
            · have HAT := Lib.hid hat
              rw [hat] at hhas
              have HNEW := Lib.hid (fun w h => dmState_new a0 a1 a2 a3 (HW.out ▸ HOK.out) (S1.map Dm.ofL) D (Dm.tabOf S1) HD.out (by rw [hhas]; simp) (by rw [List.length_map]; omega) gm gS cS gM (S1.length - 1) (by omega) ac P.cl.length cc (by omega) P.la P.ru HG.out.hla HG.out.hru vr vi vo vl ve vR vT (Dm.tags P S1) (by rw [Dm.tags_len P H0]; omega) (aCel (w1.heap.size + 1) 96 (Dm.rowC (l1 ++ [-1])) :: aCel wo.heap.size 177 (Dm.setA [a0, a1, a2, a3]) :: aCel w1.heap.size 177 #[.int .u64 n0, .int .u64 n1, .int .u64 n2, .int .u64 n3] :: aCel g4 96 Try.zeroCells96 :: μ) w0 w F HF.out HIN.out.h2 HIN.out.h5 (fun i hi => by have := HG.out.hrr i hi; have := HG.out.he2; omega) h)
              clear hat hhas
              go_wp2_with (fail)
              go_at_call 97
              refine (HNEW.out _ (HST8.out.pick [4, 5, 6, 7, 0, 1, 2, 3] 8 rfl rfl)).mono ?_
              rintro e w7 ⟨kl, gS', cS', vT', hkl, rfl, hst7⟩
              have HKL := Lib.hid hkl
              have e1 : S1.map Dm.ofL ++ [[a0, a1, a2, a3]] = (S1 ++ [Dm.to' P k fr b]).map Dm.ofL := by rw [List.map_append, List.map_singleton, HW.out]
              have e2 : Dm.tags P S1 ++ [Dm.tagK P.la P.ru [a0, a1, a2, a3] P.cl.length] = Dm.tags P (S1 ++ [Dm.to' P k fr b]) := by
                rw [Dm.tags_snoc P H0, Dm.least_words P (by omega) HCT.out HG.out.hrr, HW.out]
              have e3 : S1.length - 1 + 1 = (S1 ++ [Dm.to' P k fr b]).length - 1 := by rw [List.length_append, List.length_singleton]; omega
              rw [e1, e2, e3] at hst7
              have HD2 := Lib.hid (show Tells 177 Dm.setV (D.put kl (.lit (.int .i64 ((S1.map Dm.ofL).length : Int)))) (Dm.tabOf (S1 ++ [Dm.to' P k fr b])) by
                rw [Dm.tabOf_snoc H0, List.length_map, HW.out]
                exact HD.out.put (Maps.Keyed.of_law Dm.akey.law) (fun a b h => Dm.setV_inj a b h) HKL.out _)
              have hs2 : (S1 ++ [Dm.to' P k fr b]).length = S1.length + 1 := by simp
              have hu := HSU.out
              rw [if_pos HAT.out, HAT.out] at hu
              have HSU2 := Lib.hid hu
              clear e1 e2 e3 hu hkl HST8 HNEW c0 c1 c2 c3 xr xf
              generalize D.put kl (.lit (.int .i64 ((S1.map Dm.ofL).length : Int))) = D2 at *
              generalize S1 ++ [Dm.to' P k fr b] = S2 at *
              have xr := (hst7.nth 4 rfl).celAt HG8.out
              have xf := (hst7.nth 4 rfl).celFree b
              have hst9 := (hst7.pick (ρ := aCel (w1.heap.size + 1) 96 (Dm.rowC (l1 ++ [-1])) :: aCel w1.heap.size 177 #[.int .u64 n0, .int .u64 n1, .int .u64 n2, .int .u64 n3] :: aCel g4 96 Try.zeroCells96 :: Dm.base gm gS' cS' gM (S2.length - 1) (.slice ac P.cl.length cc) vr vi vo vl ve vR vT' (S2.map Dm.ofL) D2 (Dm.tags P S2) μ) [4, 6, 7, 0, 1, 2, 3] 8 rfl rfl).setCel b (.int .i16 (S1.length : Int))
              rw [HG9.out] at hst9
              have HS2 := Lib.hid hs2
              have x6 := (hst9.nth 3 rfl).celAt (i := 6) rfl
              have HST9 := Lib.hid hst9
              have hlI : (S1.length : Int) ≤ 200 := by omega
              clear hst7 hst9 hs2
              by_cases hl2 : S1.length + 1 ≤ 200
              · have hl2I : (S2.length : Int) ≤ 200 := by rw [HS2.out]; omega
                go_wp2
                go_roundg (256 - (b + 1))
                case measure => have := HGZ.out; omega
                case rel =>
                  refine ⟨b + 1, gS', cS', D2, vT', by omega, rfl, by go_num, ?_, ?_, ?_⟩
                  · rw [HSU2.out]; exact HD2
                  · rw [HSU2.out]; show S2.length ≤ 200; omega
                  · rw [HSU2.out]; exact HST9.out
              · have hl2I : 200 < (S2.length : Int) := by rw [HS2.out]; omega
                have HL2 := Lib.hid hl2
                clear hl2
                have hll : (l1 ++ [(S1.length : Int)]).length = b + 1 := by rw [List.length_append, List.length_singleton, hrl]
                have HLL := Lib.hid hll
                have HSZ := Lib.hid (show (Dm.rowC (l1 ++ [(S1.length : Int)])).size = 256 from Dm.rowC_size (by omega))
                clear hll
                have HST3 := Lib.hid (HST9.out.pick [2, 0, 1] 3 rfl rfl)
                clear HST9
                go_wp2_with (first | (refine St.rowIn rfl 96 (.tmp 6) rfl (w1.heap.size + 1) rfl _ HST3.out 1 rfl Try.underlying96 rfl (by rw [HSZ.out]; exact Dm.rowInfo) ?_) | (refine St.rowOp rfl 96 (.tmp 4) (.tmp 57) rfl g4 (Dm.rowC (l1 ++ [(S1.length : Int)])) rfl rfl HST3.out (by rw [HSZ.out]; exact Dm.rowInfo) (by rw [HSZ.out]; kernel_rfl) (Dm.rowC_one _) ?_; intro w9 hst9; have HST9 := Lib.hid hst9; clear hst9 HST3))
                refine bodyPost_ret (results_row rfl _ _ g4 96 _ _ rfl (HST9.out.heapAt 0 rfl) Try.underlying96 rfl (by rw [HSZ.out]; exact Dm.rowInfo)) rfl ?_
                refine ⟨b + 1, gS', cS', D2, vT', _, Lib.hid ⟨by omega, by rw [HLL.out]; omega, ?_, ?_, ?_⟩, rfl, ?_⟩
                · rw [HSU2.out]; exact .inr (by show 200 < S2.length; omega)
                · rw [HSU2.out]; show S2.length ≤ 201; have := HS2.out; omega
                · rw [HSU2.out]; exact HD2.out
                · rw [HSU2.out]; exact HST9.out.pick [3, 4, 5, 6] 7 rfl rfl
            · have HAT := Lib.hid hat
              have hnum := Dm.num_tabOf (by omega) HSE H0 HCT.out hat
              have hle := Dm.at_le (t := Dm.to' P k fr b) H0
              have hu := HSU.out
              rw [if_neg hat] at hu
              have HSU2 := Lib.hid hu
              have hh : hasAt (Dm.tabOf S1) [a0, a1, a2, a3] = true := by rw [hhas]; simp [hat]
              have HFND := Lib.hid (fun w h => dmState_found [a0, a1, a2, a3] (HW.out ▸ HOK.out) (S1.map Dm.ofL) D (Dm.tabOf S1) HD.out hh gm gS cS gM (S1.length - 1) (.slice ac P.cl.length cc) vr vi vo vl ve vR vT (Dm.tags P S1) (aCel (w1.heap.size + 1) 96 (Dm.rowC (l1 ++ [-1])) :: aCel wo.heap.size 177 (Dm.setA [a0, a1, a2, a3]) :: aCel w1.heap.size 177 #[.int .u64 n0, .int .u64 n1, .int .u64 n2, .int .u64 n3] :: aCel g4 96 Try.zeroCells96 :: μ) w0 w h)
              rw [HW.out] at hnum
              rw [hnum] at HFND
              clear hat hhas hu hh hnum HSU
              generalize Dm.at' S1 (Dm.to' P k fr b) = q at *
              go_wp2_with (fail)
              go_at_call 97
              refine (HFND.out _ (HST8.out.pick [4, 5, 6, 7, 0, 1, 2, 3] 8 rfl rfl)).mono ?_
              rintro e w7 ⟨rfl, hb7⟩
              have hst7 := HST8.out.call hb7
              clear hb7 HST8 HFND c0 c1 c2 c3 xr xf
              have xr := (hst7.nth 0 rfl).celAt HG8.out
              have xf := (hst7.nth 0 rfl).celFree b
              have hst9 := (hst7.pick (ρ := aCel (w1.heap.size + 1) 96 (Dm.rowC (l1 ++ [-1])) :: aCel w1.heap.size 177 #[.int .u64 n0, .int .u64 n1, .int .u64 n2, .int .u64 n3] :: aCel g4 96 Try.zeroCells96 :: Dm.base gm gS cS gM (S1.length - 1) (.slice ac P.cl.length cc) vr vi vo vl ve vR vT (S1.map Dm.ofL) D (Dm.tags P S1) μ) [0, 2, 3] 4 rfl rfl).setCel b (.int .i16 (q : Int))
              rw [HG9.out] at hst9
              have x6 := (hst9.nth 3 rfl).celAt (i := 6) rfl
              have HST9 := Lib.hid hst9
              have hqI : (q : Int) ≤ 200 := by omega
              have hlI : (S1.length : Int) ≤ 200 := by omega
              clear hst7 hst9
              go_wp2
              go_roundg (256 - (b + 1))
              case measure => have := HGZ.out; omega
              case rel =>
                refine ⟨b + 1, gS, cS, D, vT, by omega, rfl, by go_num, ?_, ?_, ?_⟩
                · rw [HSU2.out]; exact HD
                · rw [HSU2.out]; exact hlen
                · rw [HSU2.out]; exact HST9.out
    · have hbe : b = 256 := by omega
      have HBE := Lib.hid hbe
      have hge : ¬ (b : Int) < 256 := by omega
      clear hbe
      have HST3 := Lib.hid (hst.pick [2, 0, 1] 3 rfl rfl)
      have HSZ := Lib.hid (show (Dm.rowC l1).size = 256 from Dm.rowC_size (by omega))
      clear hst
      go_wp2_with (first | (refine St.rowIn rfl 96 (.tmp 6) rfl (w1.heap.size + 1) rfl _ HST3.out 1 rfl Try.underlying96 rfl (by rw [HSZ.out]; exact Dm.rowInfo) ?_) | (refine St.rowOp rfl 96 (.tmp 4) (.tmp 59) rfl g4 (Dm.rowC l1) rfl rfl HST3.out (by rw [HSZ.out]; exact Dm.rowInfo) (by rw [HSZ.out]; kernel_rfl) (Dm.rowC_one l1) ?_; intro w9 hst9; have HST9 := Lib.hid hst9; clear hst9 HST3))
      refine bodyPost_ret (results_row rfl _ _ g4 96 _ _ rfl (HST9.out.heapAt 0 rfl) Try.underlying96 rfl (by rw [HSZ.out]; exact Dm.rowInfo)) rfl ?_
      have := HBE.out
      subst this
      refine ⟨256, gS, cS, D, vT, l1, Lib.hid ⟨Nat.le_refl _, by omega, ?_, ?_, ?_⟩, rfl, ?_⟩
      · rw [hE]; exact .inl ⟨rfl, rfl⟩
      · rw [hE]; show S1.length ≤ 201; omega
      · rw [hE]; exact HD.out
      · rw [hE]; exact HST9.out.pick [3, 4, 5, 6] 7 rfl rfl
end Go.Proofs.Ytlgabpcddldelaa
