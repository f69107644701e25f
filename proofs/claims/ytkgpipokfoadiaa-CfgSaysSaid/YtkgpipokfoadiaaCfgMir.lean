/-
  Mirror of package cfg: what it computes.
-/
import Derived.Test.YtkgpipokfoadiaaCfgOf
namespace Go.Proofs.Ytkgpipokfoadiaa
set_option linter.unusedVariables false
open Go.ChangeShapes Go.WideShapes Go.ChangeAt Go.RowKit

def Wfp (l : List (Int × Int)) : Prop := ∀ p ∈ l, (-9223372036854775808 ≤ p.1 ∧ p.1 ≤ 9223372036854775807) ∧ (-9223372036854775808 ≤ p.2 ∧ p.2 ≤ 9223372036854775807)
theorem wfp_of {bytes : Nat} {F : Nat → Prop} {w : World} {v : Value} {l : List (Int × Int)} (h : (Enc.two.sl bytes).R F w [v] l) : Wfp l := by
  obtain ⟨ao, b, off, cap, rfl, hl, hx, hy⟩ := slTwo h
  intro p hp
  obtain ⟨i, hi, rfl⟩ := List.getElem_of_mem hp
  have := hy i hi
  have e : l.getD i (0, 0) = l[i] := by simp [List.getD, List.getElem?_eq_getElem hi]
  rw [e] at this
  exact this.2.2
theorem prods_wf {F : Nat → Prop} {w : World} {v : Value} {l : List (Int × List (Int × Int))} (h : Enc.prods.R F w [v] l) : ∀ p ∈ l, (-9223372036854775808 ≤ p.1 ∧ p.1 ≤ 9223372036854775807) ∧ Wfp p.2 ∧ (p.2.length : Int) * 16 ≤ 140737488355328 := by
  obtain ⟨ao, b, off, cap, rfl, hl, hx, hy⟩ := slProds h
  intro p hp
  obtain ⟨i, hi, rfl⟩ := List.getElem_of_mem hp
  obtain ⟨vb, _, _, h3, h4⟩ := hy i hi
  have e : l.getD i (0, []) = l[i] := by simp [List.getD, List.getElem?_eq_getElem hi]
  rw [e] at h3 h4
  obtain ⟨_, _, _, _, _, h5, _⟩ := slTwo h3
  exact ⟨h4, wfp_of h3, h5⟩

/-- A production in memory of the call's own: its body's value, its data. -/
def prodV (q : Value × Int × List (Int × Int)) : Value := .agg #[.int .i64 q.2.1, q.1]
def bodyA (T : TypeId) (q : Value × Int × List (Int × Int)) : Asrt := aOwn T 2 q.1 (q.2.2.map pairV)
theorem prodE : ET Try.prog 22 83 2 32 := ET.mk' Try.underlying22 (z := .agg #[.int .i64 0, .slice none 0 0]) (by kernel_rfl) rfl (by decide)
theorem prod_one (a : Option Addr) (n c : Nat) (x : Int × List (Int × Int)) : ∀ q ∈ (prodV (.slice a n c, x)).cells.toList, q.oneCell' = true := by
  intro q hq; simp [prodV, Value.cells] at hq; rcases hq with rfl | rfl <;> rfl
theorem prod_enc {T : TypeId} {w : World} {q : Value × Int × List (Int × Int)} (h : (bodyA T q).ok w) (h1 : -9223372036854775808 ≤ q.2.1 ∧ q.2.1 ≤ 9223372036854775807) (h2 : Wfp q.2.2) (h3 : (q.2.2.length : Int) * 16 ≤ 140737488355328) :
    (Enc.prod (Enc.int .i64) (Enc.two.sl 16)).R (fun b => b ∈ (bodyA T q).fp) w (prodV q).cells.toList q.2 := by
  have ho : Own w 0 T 2 q.1 (q.2.2.map pairV) := h
  obtain ⟨a, c, hv⟩ := ho.isLen
  refine ⟨[.int .i64 q.2.1], [q.1], ?_, ⟨rfl, WalkArith.wf_i64 h1⟩, ?_⟩
  · rw [prodV, hv]; rfl
  · exact ho.two (fun b hb => hb) h3 h2
namespace Gr
def mir (l : List (Int × List (Int × Int))) : List (Int × List (Int × Int)) := l.map fun p => (p.1, p.2.reverse)
theorem mir_take {l : List (Int × List (Int × Int))} {k : Nat} (h : k < l.length) : (mir l).take (k + 1) = (mir l).take k ++ [((l.getD k (0, [])).1, (l.getD k (0, [])).2.reverse)] := by
  rw [List.take_succ_eq_append_getElem (by simpa [mir] using h)]
  simp [mir, List.getD, h]
theorem mir_len (l) : (mir l).length = l.length := by simp [mir]
end Gr
attribute [irreducible] Gr.mir
def RetGr (t n : Int) (l : List (Int × List (Int × Int))) (E : Int) (w : World) (e : Ending) (w' : World) : Prop := ∃ ao m cp fp, e = .returned (.tuple #[.agg #[.int .i64 t, .int .i64 n, .slice ao m cp], .int .i64 E]) ∧ St w w' [aEnc Enc.prods fp [.slice ao m cp] l]

def MirRel (l : List (Int × List (Int × Int))) (t n : Int) (vp : Value) (G S : Nat) (w : World) (i : Value) (wr : World) : Prop :=
  ∃ (k : Nat) (v : Value) (L : List (Value × Int × List (Int × Int))), k ≤ l.length ∧ i = .int .i64 k ∧ L.map (·.2) = (Gr.mir l).take k ∧
    St w wr [aOwn 83 2 v (L.map prodV), aAll (L.map (bodyA 140)), aCel G 24 #[.int .i64 t, .int .i64 n, v], aCel (S + 1) 24 #[.int .i64 0, .int .i64 0, .slice none 0 0], aCel S 24 #[.int .i64 t, .int .i64 n, vp]]

set_option maxRecDepth 100000 in
theorem mirror_bad (t n : Int) (vp : Value) (l : List (Int × List (Int × Int))) (w : World) (F : Nat → Prop) (hF : ∀ b, F b → b < w.heap.size) (h : Enc.prods.R F w [vp] l) (he : Gr.err t n l ≠ 0) :
    Calls Try.prog 36 #[.agg #[.int .i64 t, .int .i64 n, vp]] w fun e w' => e = .returned (.tuple #[.agg #[.int .i64 0, .int .i64 0, .slice none 0 0], .int .i64 (Gr.err t n l)]) ∧ Below w.heap.size w w' := by
  have H := Lib.hid h; have HF := Lib.hid hF
  have HCK := fun w' (hw : Below w.heap.size w w') => cfgCheck_any t n vp l w' F (fun b hb => Nat.lt_of_lt_of_le (HF.out b hb) hw.size) (Enc.mono _ H.out (fun _ h => h) (fun b hb => hw.block b (HF.out b hb)))
  obtain ⟨ap, _, _, cp, rfl, _⟩ := slProds h
  have hst := ((St.init w).alloc #[.int .i64 t, .int .i64 n, .slice ap l.length cp] 24).alloc #[.int .i64 0, .int .i64 0, .slice none 0 0] 24
  simp only [World.size_alloc] at hst
  generalize Gr.err t n l = E at *
  replace HCK := Lib.hid HCK
  have hne : (E != 0) = true := by rw [bne_iff_ne]; exact he
  clear he h hF
  go_enter Try.func36, Try.ntmps36
  go_wp2_with (fail)
  go_at_call 37
  refine (HCK.out _ hst.bel).mono ?_
  rintro e w1 ⟨rfl, hb1⟩
  replace hst := hst.call hb1
  obtain ⟨z0, z1, z2, _, _, _⟩ := hst.cel3
  have hst9 := ((hst.setCel 0 (.int .i64 0)).setCel 1 (.int .i64 0)).setCel 2 (.slice none 0 0)
  go_wp2
  have k0 := hst9.celAt (i := 0) (v := .int .i64 0) rfl
  have k1 := hst9.celAt (i := 1) (v := .int .i64 0) rfl
  have k2 := hst9.celAt (i := 2) (v := .slice none 0 0) rfl
  exact bodyPost_ret (v := .tuple #[.agg #[.int .i64 0, .int .i64 0, .slice none 0 0], .int .i64 E]) (by simp [results, Try.results36, go_sem, k0, k1, k2]) rfl ⟨rfl, hst9.bel⟩

set_option maxRecDepth 100000 in
set_option maxHeartbeats 8000000 in
theorem mirror_ok (t n : Int) (vp : Value) (l : List (Int × List (Int × Int))) (w : World) (F : Nat → Prop) (hF : ∀ b, F b → b < w.heap.size) (h : Enc.prods.R F w [vp] l) (he : Gr.err t n l = 0) :
    Calls Try.prog 36 #[.agg #[.int .i64 t, .int .i64 n, vp]] w (RetGr t n (Gr.mir l) 0 w) := by
  have H := Lib.hid h; have HF := Lib.hid hF
  have HCK := fun w' (hw : Below w.heap.size w w') => cfgCheck_any t n vp l w' F (fun b hb => Nat.lt_of_lt_of_le (HF.out b hb) hw.size) (Enc.mono _ H.out (fun _ h => h) (fun b hb => hw.block b (HF.out b hb)))
  rw [he] at HCK
  replace HCK := Lib.hid HCK
  have hz := Gr.err_zero he
  have hl40 := hz.2.2.2.2.1
  have HZ := Lib.hid hz
  have HWF := Lib.hid (prods_wf h)
  obtain ⟨ap, b, off, cp, rfl, m1, m2, m3⟩ := slProds h
  have M2 := Lib.hid m2; have M3 := Lib.hid m3
  have hst := ((St.init w).alloc #[.int .i64 t, .int .i64 n, .slice ap l.length cp] 24).alloc #[.int .i64 0, .int .i64 0, .slice none 0 0] 24
  simp only [World.size_alloc] at hst
  clear he h hF m1 m2 m3 hz
  go_enter Try.func36, Try.ntmps36
  go_wp2_with (fail)
  go_at_call 37
  refine (HCK.out _ hst.bel).mono ?_
  rintro e w1 ⟨rfl, hb1⟩
  replace hst := hst.call hb1
  obtain ⟨g0, g1, g2, _, _, _⟩ := hst.get2.cel3
  clear hb1
  have hst2 := (((hst.alloc #[.int .i64 t, .int .i64 n, .slice none 0 0] 24).nilAll).nilOwn 83 2)
  have hlt1 := World.block_lt_of_cell? _ _ g0
  go_wp2
  clear hst g0 g1 g2 hlt1
  generalize w1.alloc (.cells #[.int .i64 t, .int .i64 n, .slice none 0 0] 24) = W at hst2 ⊢
  generalize w1.heap.size = G at *
  go_loopw [7, 8, 23] (fun _ _ i wr => MirRel l t n (.slice ap l.length cp) G w.heap.size w i wr) (fun _ _ i _ => l.length - (intOf i).toNat)
  case atStart => exact ⟨0, _, [], by omega, rfl, rfl, hst2⟩
  case round =>
    clear hst2
    obtain ⟨k, v, L, hk, rfl, hL, hst⟩ := hrel
    have HL := Lib.hid hL
    by_cases hlt : k < l.length
    · have hLl : L.length = k := by have := congrArg List.length hL; simp [Gr.mir_len] at this; omega
      have HLL := Lib.hid hLl
      obtain ⟨rfl, hb, _⟩ := M2.out (by omega)
      obtain ⟨vb, p1, p2, p3, p4⟩ := M3.out k hlt
      have hp3 := p3
      have hwf := HWF.out (l.getD k (0, [])) (by simp [List.getD, hlt])
      have hp8 := (HZ.out.2.2.2.2.2 (l.getD k (0, [])) (by simp [List.getD, hlt])).1
      have q1 := (hst.bel.cell (p := ⟨b, off + k * 2, none⟩) hb).trans p1
      have q2 := (hst.bel.cell (p := ⟨b, off + k * 2 + 1, none⟩) hb).trans p2
      obtain ⟨ab, bb, ob, cb, rfl, _⟩ := Enc.slN (0, 0) p3
      have hmt := Gr.mir_take hlt
      rw [← hL] at hmt
      clear p1 p2 p3 hL hLl
      obtain ⟨p, hp⟩ : ∃ p, p = l.getD k (0, []) := ⟨_, rfl⟩
      rw [← hp] at q1 q2 p4 hp3 hwf hp8 hmt
      clear hp
      obtain ⟨p1, p2⟩ := p
      simp only at q1 q2 p4 hp3 hwf hp8 hmt
      have hwf1 := hwf.1; have hwf2 := Lib.hid hwf.2
      have HP3 := Lib.hid hp3; have HMT := Lib.hid hmt
      clear hwf hp3 hmt
      obtain ⟨av, nv, cv, rfl⟩ : ∃ a n c, v = .slice a n c := by obtain ⟨a, c, h⟩ := hst.own.isLen; exact ⟨_, _, _, h⟩
      go_wp2_with (fail)
      have hst3 := hst.alloc #[.int .i64 p1, .slice ab p2.length cb] 83
      obtain ⟨y0, y1⟩ := hst3.cel2
      go_at_call 81
      refine (cloneSym_any _ (fun b hb => Nat.lt_of_lt_of_le (HF.out b hb) hst3.bel.size) (Enc.mono _ HP3.out (fun _ h => h) (fun b hb => hst3.bel.block b (HF.out b hb)))).mono ?_
      rintro e w4 ⟨v4, rfl, ho4, hb4⟩
      obtain ⟨a4, c4, rfl⟩ := ho4.isLen
      rw [List.length_map] at ho4 ⊢
      have hst4 := hst3.pushOwn hb4 ho4
      clear hst hst3 y0 y1 hb4 ho4 q1 q2
      go_wp2_with (fail)
      go_at_call 82
      refine (revSym_any hst4 (by omega)).mono ?_
      rintro e w5 ⟨rfl, hst5⟩
      clear hst4
      have hst6 := hst5.get3
      obtain ⟨y0, y1⟩ := hst5.at2 1 rfl
      obtain ⟨z0, z1, z2, zf0, zf1, zf2⟩ := hst5.get5.cel3
      go_wp2_with (first
        | (at_builtin; refine St.app1n prodE rfl (.tmp 33) (.tmp 38) rfl rfl hst6 (prodV (.slice a4 p2.length c4, p1, p2.reverse)) rfl _ 1 rfl (by simp) rfl (prod_one _ _ _ _) (by rw [List.length_map]; unfold maxLen; have := HLL.out; omega) (by rw [List.length_map]; have := HLL.out; omega) ?_; intro g7 n7 cap7 w7 hst7; obtain ⟨z0, z1, z2, zf0, zf1, zf2⟩ := hst7.get5.cel3))
      go_roundw
      case rel =>
        have h8 := (hst7.get5.setCel 2 (.slice (some ⟨g7, 0, none⟩) n7 cap7)).get4.drop
        have h9 := h8.get3.get4.get2.snoc.get3
        refine ⟨k + 1, .slice (some ⟨g7, 0, none⟩) n7 cap7, L ++ [(.slice a4 p2.length c4, p1, p2.reverse)], by omega, by go_num, ?_, ?_⟩
        · rw [List.map_append]; exact HMT.out.symm
        · rw [List.map_append, List.map_append]; exact h9
      case measure => simp [intOf]; omega
    · obtain rfl : k = l.length := by omega
      obtain ⟨av, nv, cv, rfl⟩ : ∃ a n c, v = .slice a n c := by obtain ⟨a, c, h⟩ := hst.own.isLen; exact ⟨_, _, _, h⟩
      have hL2 : L.map (·.2) = Gr.mir l := by rw [hL]; exact List.take_of_length_le (by rw [Gr.mir_len]; exact Nat.le_refl _)
      have hLl : L.length ≤ 40 := by have := congrArg List.length hL2; simp [Gr.mir_len] at this; omega
      obtain ⟨fp, hsl⟩ := hst.sealed (En := Enc.prod (Enc.int .i64) (Enc.two.sl 16)) (bytes := 32) (g := fun q => q.2) (A := bodyA 140) rfl (fun q hq hok => by
        have hm : q.2 ∈ Gr.mir l := by rw [← hL2]; exact List.mem_map.2 ⟨q, hq, rfl⟩
        have hm2 : q.2 ∈ l.map (fun p => (p.1, p.2.reverse)) := by unfold Gr.mir at hm; exact hm
        obtain ⟨p, hp, hpe⟩ := List.mem_map.1 hm2
        have h1 := HWF.out p hp
        refine prod_enc hok ?_ ?_ ?_
        · rw [← hpe]; exact h1.1
        · rw [← hpe]; exact fun x hx => h1.2.1 x (List.mem_reverse.1 hx)
        · rw [← hpe]; simp only [List.length_reverse]; exact h1.2.2) (by omega)
      rw [hL2] at hsl
      obtain ⟨y0, y1, y2⟩ := hst.at3 2 rfl
      obtain ⟨x0, x1, x2⟩ := hst.at3 3 rfl
      have hst8 := ((hsl.get3.setCel 0 (.int .i64 t)).setCel 1 (.int .i64 n)).setCel 2 (.slice av nv cv)
      obtain ⟨_, _, _, xf0, xf1, xf2⟩ := hsl.get3.cel3
      have HS8 := Lib.hid hst8
      clear hst hsl hL hL2 hst8 HL
      go_wp2
      have k0 := HS8.out.celAt (i := 0) (v := .int .i64 t) rfl
      have k1 := HS8.out.celAt (i := 1) (v := .int .i64 n) rfl
      have k2 := HS8.out.celAt (i := 2) (v := .slice av nv cv) rfl
      exact bodyPost_ret (v := .tuple #[.agg #[.int .i64 t, .int .i64 n, .slice av nv cv], .int .i64 0]) (by simp [results, Try.results36, go_sem, k0, k1, k2]) rfl ⟨av, nv, cv, fp, rfl, HS8.out.nth 1 rfl⟩
end Go.Proofs.Ytkgpipokfoadiaa
