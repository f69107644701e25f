/-
  Turned of the reference: what it computes.
-/
import Derived.Test.YtkgpipokfoadiaaCfgMir
import Derived.Deep.RegionLaw
namespace Go.Proofs.Ytkgpipokfoadiaa
set_option linter.unusedVariables false
open Go.ChangeShapes Go.WideShapes Go.ChangeAt Go.RowKit

def TurnIn (body : List (Int × Int)) (h : Int) (P : Nat) (w : World) (μ : List Asrt) (j : Value) (wr : World) : Prop :=
  ∃ (m : Nat) (v : Value) (out : List (Int × Int)), m ≤ body.length ∧ j = .int .i64 ((m : Int) - 1) ∧ out ++ (body.take m).reverse = body.reverse ∧
    St w wr (aOwn 140 2 v (out.map pairV) :: aCel P 83 #[.int .i64 h, v] :: μ)
theorem take_rev {body : List (Int × Int)} {m : Nat} (h : m < body.length) : (body.take (m + 1)).reverse = body.getD m (0, 0) :: (body.take m).reverse := by
  rw [List.take_succ_eq_append_getElem h, List.reverse_append]
  simp [List.getD, h]
def RetG2 (t n : Int) (l : List (Int × List (Int × Int))) (w : World) (e : Ending) (w' : World) : Prop := ∃ ao m cp fp, e = .returned (.agg #[.int .i64 t, .int .i64 n, .slice ao m cp]) ∧ St w w' [aEnc Enc.prods fp [.slice ao m cp] l]

set_option maxRecDepth 100000 in
set_option maxHeartbeats 8000000 in
theorem turned_ok (t n : Int) (vp : Value) (l : List (Int × List (Int × Int))) (w : World) (F : Nat → Prop) (hF : ∀ b, F b → b < w.heap.size) (h : Enc.prods.R F w [vp] l) (he : Gr.err t n l = 0) :
    Calls Try.prog 39 #[.agg #[.int .i64 t, .int .i64 n, vp]] w (RetG2 t n (Gr.mir l) w) := by
  have HF := Lib.hid hF
  have hz := Gr.err_zero he
  have hl40 := hz.2.2.2.2.1
  have HZ := Lib.hid hz
  have HWF := Lib.hid (prods_wf h)
  obtain ⟨ap, b, off, cp, rfl, m1, m2, m3⟩ := slProds h
  have M2 := Lib.hid m2; have M3 := Lib.hid m3
  have hst := ((((St.init w).alloc #[.int .i64 t, .int .i64 n, .slice ap l.length cp] 24).alloc #[.int .i64 0, .int .i64 0, .slice none 0 0] 24).alloc #[.int .i64 t, .int .i64 n, .slice none 0 0] 24).nilAll.nilOwn 83 2
  simp only [World.size_alloc] at hst
  clear he h hF m1 m2 m3 hz
  go_enter Try.func39, Try.ntmps39
  go_wp2
  generalize ((w.alloc (.cells #[.int .i64 t, .int .i64 n, .slice ap l.length cp] 24)).alloc (.cells #[.int .i64 0, .int .i64 0, .slice none 0 0] 24)).alloc (.cells #[.int .i64 t, .int .i64 n, .slice none 0 0] 24) = W at hst ⊢
  generalize hG : w.heap.size + 1 + 1 = G at *
  clear hG
  go_loopw [4, 5, 6] (fun i _ _ wr => MirRel l t n (.slice ap l.length cp) G w.heap.size w i wr) (fun i _ _ _ => l.length - (intOf i).toNat)
  case atStart => exact ⟨0, _, [], by omega, rfl, rfl, hst⟩
  case round =>
    clear hst
    obtain ⟨k, v, L, hk, rfl, hL, hst⟩ := hrel
    have HL := Lib.hid hL
    obtain ⟨x0, x1, x2⟩ := hst.at3 4 rfl
    by_cases hlt : k < l.length
    · have hLl : L.length = k := by have := congrArg List.length hL; simp [Gr.mir_len] at this; omega
      have HLL := Lib.hid hLl
      obtain ⟨rfl, hb, _⟩ := M2.out (by omega)
      obtain ⟨vb, p1, p2, p3, p4⟩ := M3.out k hlt
      have hp3 := p3
      have hp8 := (HZ.out.2.2.2.2.2 (l.getD k (0, [])) (by simp [List.getD, hlt])).1
      have q1 := (hst.bel.cell (p := ⟨b, off + k * 2, none⟩) hb).trans p1
      have q2 := (hst.bel.cell (p := ⟨b, off + k * 2 + 1, none⟩) hb).trans p2
      obtain ⟨ab, bb, ob, cb, rfl, n1, n2, n3⟩ := slTwo p3
      have hmt := Gr.mir_take hlt
      rw [← hL] at hmt
      clear p3 hL hLl n1
      obtain ⟨p, hp⟩ : ∃ p, p = l.getD k (0, []) := ⟨_, rfl⟩
      rw [← hp] at q1 q2 p1 p2 p4 hp3 hp8 hmt n2 n3
      clear hp
      obtain ⟨h, body⟩ := p
      simp only at q1 q2 p1 p2 p4 hp3 hp8 hmt n2 n3
      have P1 := Lib.hid p1; have P2 := Lib.hid p2; have N2 := Lib.hid n2; have N3 := Lib.hid n3; have HMT := Lib.hid hmt
      clear p1 p2 n2 n3 hmt hp3
      obtain ⟨av, nv, cv, rfl⟩ : ∃ a n c, v = .slice a n c := by obtain ⟨a, c, h⟩ := hst.own.isLen; exact ⟨_, _, _, h⟩
      have hst3 := (hst.alloc #[.int .i64 h, .slice none 0 0] 83).nilOwn 140 2
      have hlw := World.block_lt_of_cell? _ _ x0
      have hbw := World.block_lt_of_cell? _ _ q1
      go_wp2
      clear x0 x1 x2 q1 q2 hlw hbw hst
      generalize wr.alloc (.cells #[.int .i64 h, .slice none 0 0] 83) = W2 at hst3 ⊢
      generalize wr.heap.size = P at hst3 ⊢
      clear wr
      obtain ⟨wo, rfl⟩ : ∃ wo : World, wo = W2 := ⟨_, rfl⟩
      go_loopw [6] (fun j ww => TurnIn body h P w [aOwn 83 2 (.slice av nv cv) (L.map prodV), aAll (L.map (bodyA 140)), aCel G 24 #[.int .i64 t, .int .i64 n, .slice av nv cv], aCel (w.heap.size + 1) 24 #[.int .i64 0, .int .i64 0, .slice none 0 0], aCel w.heap.size 24 #[.int .i64 t, .int .i64 n, .slice (some ⟨b, off, none⟩) l.length cp]] j ww) (fun j _ => (intOf j + 1).toNat)
      case atStart => exact ⟨body.length, _, [], by omega, by go_num, by rw [List.take_length]; rfl, hst3⟩
      case round =>
        clear hst3
        obtain ⟨m, v, out, hm, rfl, ho, hst⟩ := hrel
        have hol : out.length + m = body.length := by have := congrArg List.length ho; simp at this; omega
        obtain ⟨x0, x1, x2⟩ := hst.at3 6 rfl
        obtain ⟨y0, y1⟩ := hst.at2 1 rfl
        have q1 := (hst.bel.cell (p := ⟨b, off + k * 2, none⟩) hb).trans P1.out
        have q2 := (hst.bel.cell (p := ⟨b, off + k * 2 + 1, none⟩) hb).trans P2.out
        obtain ⟨vv, nn, cc, rfl⟩ : ∃ a n c, v = .slice a n c := by obtain ⟨a, c, h⟩ := hst.own.isLen; exact ⟨_, _, _, h⟩
        have HO := Lib.hid ho
        clear ho
        by_cases hml : 0 < m
        · obtain ⟨j, rfl⟩ : ∃ j, m = j + 1 := ⟨m - 1, by omega⟩
          rw [show ((j + 1 : Nat) : Int) - 1 = (j : Int) by omega]
          obtain ⟨rfl, hbb, _⟩ := N2.out (by omega)
          have hjl : j < body.length := by omega
          obtain ⟨s1, s2, _, _⟩ := N3.out j hjl
          have q3 := (hst.bel.cell (p := ⟨bb, ob + j * 2, none⟩) hbb).trans s1
          have q4 := (hst.bel.cell (p := ⟨bb, ob + j * 2 + 1, none⟩) hbb).trans s2
          have htr := take_rev hjl
          generalize body.getD j (0, 0) = x at *
          have hO2 : out ++ [x] ++ (body.take j).reverse = body.reverse := by rw [← HO.out, htr, List.append_assoc]; rfl
          have HO2 := Lib.hid hO2
          have hstD := hst.drew
          have hblt := World.block_lt_of_cell? _ _ q1
          have hbblt := World.block_lt_of_cell? _ _ q3
          have hSlt := World.block_lt_of_cell? _ _ x0
          have hPlt := World.block_lt_of_cell? _ _ y0
          obtain ⟨xx1, xx2⟩ := x
          simp only at q3 q4
          clear s1 s2 htr hO2 hst
          go_wp2
          go_region_law ((refine St.step1n symE (by rfl) (.tmp 39) (.tmp 49) (by rfl) (by rfl) hstD (pairV (xx1, xx2)) rfl _ 1 rfl (by simp) rfl (pair_one' _) (by rw [List.length_map]; unfold maxLen; omega) (by rw [List.length_map]; omega) ?_; intro g5 n5 cap5 w5 hst5; have hst6 := hst5.get2.setCel 1 (.slice (some ⟨g5, 0, none⟩) n5 cap5); obtain ⟨y0, y1⟩ := hst5.at2 1 rfl; have yf1 := hst5.get2.celFree 1))
          all_goals
            go_wp2
            go_roundw
            case rel =>
              have hrel : TurnIn body h P w [aOwn 83 2 (.slice av nv cv) (L.map prodV), aAll (L.map (bodyA 140)), aCel G 24 #[.int .i64 t, .int .i64 n, .slice av nv cv], aCel (w.heap.size + 1) 24 #[.int .i64 0, .int .i64 0, .slice none 0 0], aCel w.heap.size 24 #[.int .i64 t, .int .i64 n, .slice (some ⟨b, off, none⟩) l.length cp]] (.int .i64 ((j : Int) - 1)) (w5.setCell ⟨P, 1, none⟩ (.slice (some ⟨g5, 0, none⟩) n5 cap5)) := ⟨j, _, out ++ [(xx1, xx2)], by omega, rfl, HO2.out, by rw [List.map_append]; exact hst6.get2⟩
              first | exact hrel | exact ⟨_, hrel, rfl⟩ | exact ⟨_, _, hrel, rfl, rfl⟩
            case measure => first | (simp [intOf]; done) | (simp [intOf]; omega)
        · obtain rfl : m = 0 := by omega
          have ho := HO.out
          rw [List.take_zero, List.reverse_nil, List.append_nil] at ho
          subst ho
          obtain ⟨z0, z1, z2, zf0, zf1, zf2⟩ := hst.get5.cel3
          have hst6 := hst.get3
          go_wp2_with (first
            | (at_builtin; refine St.app1n prodE rfl (.tmp 53) (.tmp 55) rfl rfl hst6 (prodV (.slice vv nn cc, h, body.reverse)) rfl _ 1 rfl (by simp) rfl (prod_one _ _ _ _) (by rw [List.length_map]; unfold maxLen; have := HLL.out; omega) (by rw [List.length_map]; have := HLL.out; omega) ?_; intro g7 n7 cap7 w7 hst7; obtain ⟨z0, z1, z2, zf0, zf1, zf2⟩ := hst7.get5.cel3))
          go_roundw
          case rel =>
            have h8 := (hst7.get5.setCel 2 (.slice (some ⟨g7, 0, none⟩) n7 cap7)).get4.drop
            have h9 := h8.get3.get4.get2.snoc.get3
            refine ⟨k + 1, .slice (some ⟨g7, 0, none⟩) n7 cap7, L ++ [(.slice vv nn cc, h, body.reverse)], by omega, by go_num, ?_, ?_⟩
            · rw [List.map_append]; exact HMT.out.symm
            · rw [List.map_append, List.map_append]; exact h9
          case measure => simp [intOf]; omega
    · obtain rfl : k = l.length := by omega
      obtain ⟨av, nv, cv, rfl⟩ : ∃ a n c, v = .slice a n c := by obtain ⟨a, c, h⟩ := hst.own.isLen; exact ⟨_, _, _, h⟩
      have hL2 : L.map (·.2) = Gr.mir l := by rw [hL]; exact List.take_of_length_le (by rw [Gr.mir_len]; exact Nat.le_refl _)
      have hLl : L.length ≤ 40 := by have := congrArg List.length hL2; simp [Gr.mir_len] at this; omega
      obtain ⟨fp, hsl⟩ := hst.sealed (En := Enc.prod (Enc.int .i64) (Enc.two.sl 16)) (bytes := 32) (g := fun q => q.2) (A := bodyA 140) rfl (fun q hq hok => by
        have hm : q.2 ∈ Gr.mir l := by rw [← hL2]; exact List.mem_map.2 ⟨q, hq, rfl⟩
        have hm2 : q.2 ∈ l.map (fun p => (p.1, p.2.reverse)) := by unfold Gr.mir at hm; exact hm
        obtain ⟨p, hp, hpe⟩ := List.mem_map.1 hm2
        have h1 := HWF.out p hp
        refine prod_enc hok ?_ ?_ ?_
        · rw [← hpe]; exact h1.1
        · rw [← hpe]; exact fun x hx => h1.2.1 x (List.mem_reverse.1 hx)
        · rw [← hpe]; simp only [List.length_reverse]; exact h1.2.2) (by omega)
      rw [hL2] at hsl
      obtain ⟨y0, y1, y2⟩ := hst.at3 2 rfl
      obtain ⟨x0, x1, x2⟩ := hst.at3 3 rfl
      obtain ⟨u0, u1, u2⟩ := hst.at3 4 rfl
      have hst8 := ((hsl.get3.setCel 0 (.int .i64 t)).setCel 1 (.int .i64 n)).setCel 2 (.slice av nv cv)
      obtain ⟨_, _, _, xf0, xf1, xf2⟩ := hsl.get3.cel3
      have HS8 := Lib.hid hst8
      clear hst hsl hL hL2 hst8 HL
      go_wp2
      have k0 := HS8.out.celAt (i := 0) (v := .int .i64 t) rfl
      have k1 := HS8.out.celAt (i := 1) (v := .int .i64 n) rfl
      have k2 := HS8.out.celAt (i := 2) (v := .slice av nv cv) rfl
      exact bodyPost_ret (v := .agg #[.int .i64 t, .int .i64 n, .slice av nv cv]) (by simp [results, Try.results39, go_sem, k0, k1, k2]) rfl ⟨av, nv, cv, fp, rfl, HS8.out.nth 1 rfl⟩
end Go.Proofs.Ytkgpipokfoadiaa
