/-
  The walk of the law CfgSays.
-/
import Derived.Test.YtkgpipokfoadiaaCfgSame
import Derived.Test.YtkgpipokfoadiaaSlEq
import Derived.Test.YtkgpipokfoadiaaCloneDat
namespace Go.Proofs.Ytkgpipokfoadiaa
set_option linter.unusedVariables false
open Go.ChangeShapes Go.WideShapes Go.ChangeAt Go.RowKit

def CfgRel (non : Int) (l : List (Int × List (Int × Int))) (R : List Int) (M G : Nat) (t n : Int) (vm vp v2 : Value) (fp : List Nat) (w : World) (o i : Value) (wr : World) : Prop :=
  ∃ (k : Nat) (out : List Int), k ≤ l.length ∧ i = .int .i64 k ∧ out.length ≤ k ∧ St w wr [aOwn 3 1 o (out.map (Value.int .i64)), aCel M 24 #[.int .i64 t, .int .i64 n, vm], aEnc Enc.prods fp [vm] (Gr.mir l), aCel G 24 #[.int .i64 t, .int .i64 n, vp], aOwn 3 1 v2 (R.map (Value.int .i64))] ∧ Hid (out ++ Gr.ofGo non (l.drop k) k = R)
theorem Gr.ofGo_wf (non : Int) (l : List (Int × List (Int × Int))) (k : Nat) (h : k + l.length ≤ 1000000000) : ∀ x ∈ Gr.ofGo non l k, (Lit.int .i64 x).wf = true := by
  induction l generalizing k with
  | nil => intro x hx; rw [Gr.ofGo_end] at hx; cases hx
  | cons p r ih =>
    intro x hx
    unfold Gr.ofGo at hx
    rw [List.length_cons] at h
    split at hx
    · rcases List.mem_cons.1 hx with rfl | hx
      · exact WalkArith.wf_i64 ⟨by omega, by omega⟩
      · exact ih (k + 1) (by omega) x hx
    · exact ih (k + 1) (by omega) x hx

set_option maxRecDepth 100000 in
set_option maxHeartbeats 8000000 in
theorem cfgSays_bad (t n : Int) (vp : Value) (l : List (Int × List (Int × Int))) (w : World) (F : Nat → Prop) (hF : ∀ b, F b → b < w.heap.size) (h : Enc.prods.R F w [vp] l) (non : Int) (he : Gr.err t n l ≠ 0) :
    Calls Try.prog 7 #[.agg #[.int .i64 t, .int .i64 n, vp], .int .i64 non] w fun e w' => e = .returned (.bool true) ∧ Below w.heap.size w w' := by
  have H := Lib.hid h; have HF := Lib.hid hF
  obtain ⟨ap, b, off, cp, rfl, m1, m2, m3⟩ := slProds h
  have M2 := Lib.hid m2; have M3 := Lib.hid m3
  clear m1 m2 m3
  have HG : Hid (∀ w', Below w.heap.size w w' → (∀ b, F b → b < w'.heap.size) ∧ Enc.prods.R F w' [.slice ap l.length cp] l) := Lib.hid (fun w' hw => ⟨fun b hb => Nat.lt_of_lt_of_le (HF.out b hb) hw.size, Enc.mono _ H.out (fun _ h => h) (fun b hb => hw.block b (HF.out b hb))⟩)
  have HR := fun w' (hw : Below w.heap.size w w') => rcfg_any t n _ l w' F (HG.out w' hw).1 (HG.out w' hw).2
  have HC := fun w' (hw : Below w.heap.size w w') => cfgCheck_any t n _ l w' F (HG.out w' hw).1 (HG.out w' hw).2
  have HO := fun w' (hw : Below w.heap.size w w') => cfgOf_bad t n _ l w' F (HG.out w' hw).1 (HG.out w' hw).2 non he
  have HM := fun w' (hw : Below w.heap.size w w') => mirror_bad t n _ l w' F (HG.out w' hw).1 (HG.out w' hw).2 he
  generalize Gr.err t n l = E at *
  have hE1 : (E != 0) = true := by rw [bne_iff_ne]; exact he
  have hE2 : (E != E) = false := by rw [bne_eq_false_iff_eq]
  clear he
  replace HR := Lib.hid HR; replace HC := Lib.hid HC; replace HO := Lib.hid HO; replace HM := Lib.hid HM
  clear h hF
  have hst := (St.init w).alloc #[.int .i64 t, .int .i64 n, .slice ap l.length cp] 24
  go_enter Try.func7, Try.ntmps7
  go_wp2_with (fail)
  go_at_call 34
  refine (HR.out _ hst.bel).mono ?_
  rintro e w1 ⟨rfl, hb1⟩
  replace hst := hst.call hb1
  clear hb1
  obtain ⟨x0, x1, x2, _, _, _⟩ := hst.cel3
  go_wp2_with (fail)
  go_at_call 35
  refine (HO.out _ hst.bel).mono ?_
  rintro e w2 ⟨rfl, hb2⟩
  have hst2 := hst.call hb2
  clear hb2 hst x0 x1 x2
  obtain ⟨x0, x1, x2, _, _, _⟩ := hst2.cel3
  go_wp2_with (fail)
  go_at_call 36
  refine (HM.out _ hst2.bel).mono ?_
  rintro e w3 ⟨rfl, hb3⟩
  have hst3 := (hst2.call hb3).alloc #[.int .i64 0, .int .i64 0, .slice none 0 0] 24
  clear hb3 hst2 x0 x1 x2
  obtain ⟨x0, x1, x2⟩ := hst3.at3 1 rfl
  go_wp2_with (fail)
  go_at_call 37
  refine (HC.out _ hst3.bel).mono ?_
  rintro e w4 ⟨rfl, hb4⟩
  have hst4 := hst3.call hb4
  clear hb4 hst3 x0 x1 x2
  obtain ⟨x0, x1, x2⟩ := hst4.at3 1 rfl
  obtain ⟨y0, y1, y2⟩ := hst4.at3 0 rfl
  go_wp2_with (fail)
  go_at_call 38
  refine (sameGram_any 0 0 [] _ (F1 := fun b => b < w4.heap.size) (F2 := fun b => b < w4.heap.size) (fun _ h => h) (fun _ h => h) ⟨none, 0, 0, 0, rfl, Nat.le_refl _, by decide, by simp, fun _ => rfl, fun h => by simp at h, fun i hi => by simp at hi⟩ ⟨none, 0, 0, 0, rfl, Nat.le_refl _, by decide, by simp, fun _ => rfl, fun h => by simp at h, fun i hi => by simp at hi⟩).mono ?_
  rintro e w5 ⟨rfl, hb5⟩
  have hst5 := hst4.call hb5
  go_wp2_with (fail)
  go_ret
  exact ⟨by simp, hst5.bel⟩

set_option maxRecDepth 100000 in
set_option maxHeartbeats 8000000 in
theorem cfgSays_lo (t n : Int) (vp : Value) (l : List (Int × List (Int × Int))) (w : World) (F : Nat → Prop) (hF : ∀ b, F b → b < w.heap.size) (h : Enc.prods.R F w [vp] l) (non : Int) (he : Gr.err t n l = 0) (hn : non < 0) :
    Calls Try.prog 7 #[.agg #[.int .i64 t, .int .i64 n, vp], .int .i64 non] w fun e w' => e = .returned (.bool true) ∧ Below w.heap.size w w' := by
  have H := Lib.hid h; have HF := Lib.hid hF
  obtain ⟨ap, b, off, cp, rfl, m1, m2, m3⟩ := slProds h
  have M2 := Lib.hid m2; have M3 := Lib.hid m3
  clear m1 m2 m3
  have HG : Hid (∀ w', Below w.heap.size w w' → (∀ b, F b → b < w'.heap.size) ∧ Enc.prods.R F w' [.slice ap l.length cp] l) := Lib.hid (fun w' hw => ⟨fun b hb => Nat.lt_of_lt_of_le (HF.out b hb) hw.size, Enc.mono _ H.out (fun _ h => h) (fun b hb => hw.block b (HF.out b hb))⟩)
  have HR := fun w' (hw : Below w.heap.size w w') => rcfg_any t n _ l w' F (HG.out w' hw).1 (HG.out w' hw).2
  have HC := fun w' (hw : Below w.heap.size w w') => cfgCheck_any t n _ l w' F (HG.out w' hw).1 (HG.out w' hw).2
  have HM := fun w' (hw : Below w.heap.size w w') => mirror_ok t n _ l w' F (HG.out w' hw).1 (HG.out w' hw).2 he
  have HT := Lib.hid (fun w' (hw : Below w.heap.size w w') => turned_ok t n _ l w' F (HG.out w' hw).1 (HG.out w' hw).2 he)
  have HO := fun w' (hw : Below w.heap.size w w') => cfgOf_arg t n _ l w' F (HG.out w' hw).1 (HG.out w' hw).2 non he (.inl hn)
  rw [he] at HR HC
  clear he
  replace HR := Lib.hid HR; replace HC := Lib.hid HC; replace HO := Lib.hid HO; replace HM := Lib.hid HM
  clear h hF
  have hst := (St.init w).alloc #[.int .i64 t, .int .i64 n, .slice ap l.length cp] 24
  go_enter Try.func7, Try.ntmps7
  go_wp2_with (fail)
  go_at_call 34
  refine (HR.out _ hst.bel).mono ?_
  rintro e w1 ⟨rfl, hb1⟩
  replace hst := hst.call hb1
  clear hb1
  obtain ⟨x0, x1, x2, _, _, _⟩ := hst.cel3
  go_wp2_with (fail)
  go_at_call 35
  refine (HO.out _ hst.bel).mono ?_
  rintro e w2 ⟨rfl, hb2⟩
  have hst2 := hst.call hb2
  clear hb2 hst x0 x1 x2
  obtain ⟨x0, x1, x2, _, _, _⟩ := hst2.cel3
  go_wp2_with (fail)
  go_at_call 36
  refine (HM.out _ hst2.bel).mono ?_
  rintro e w3 ⟨am, nm, cm, fp, rfl, ho3⟩
  have hst3 := (hst2.joined ho3).alloc #[.int .i64 t, .int .i64 n, .slice am nm cm] 24
  clear ho3 hst2 x0 x1 x2
  obtain ⟨x0, x1, x2⟩ := hst3.at3 2 rfl
  go_wp2_with (fail)
  go_at_call 37
  refine (HC.out _ hst3.bel).mono ?_
  rintro e w4 ⟨rfl, hb4⟩
  have hst4 := hst3.call hb4
  clear hb4 hst3 x0 x1 x2
  obtain ⟨x0, x1, x2⟩ := hst4.at3 2 rfl
  obtain ⟨y0, y1, y2⟩ := hst4.at3 0 rfl
  go_wp2_with (fail)
  have HK : Hid (∀ w', St w w' [aCel w3.heap.size 24 #[.int .i64 t, .int .i64 n, .slice am nm cm], aEnc Enc.prods fp [.slice am nm cm] (Gr.mir l), aCel w.heap.size 24 #[.int .i64 t, .int .i64 n, .slice ap l.length cp]] → w'.cell? ⟨w3.heap.size, 0, none⟩ = some (.int .i64 t) ∧ w'.cell? ⟨w3.heap.size, 1, none⟩ = some (.int .i64 n) ∧ w'.cell? ⟨w3.heap.size, 2, none⟩ = some (.slice am nm cm) ∧ w'.cell? ⟨w.heap.size, 0, none⟩ = some (.int .i64 t) ∧ w'.cell? ⟨w.heap.size, 1, none⟩ = some (.int .i64 n) ∧ w'.cell? ⟨w.heap.size, 2, none⟩ = some (.slice ap l.length cp) ∧ St w w' [aCel w3.heap.size 24 #[.int .i64 t, .int .i64 n, .slice am nm cm], aEnc Enc.prods fp [.slice am nm cm] (Gr.mir l), aCel w.heap.size 24 #[.int .i64 t, .int .i64 n, .slice ap l.length cp]]) := Lib.hid (fun w' h => by
    have h1 := h.at3 0 rfl
    have h2 := h.at3 2 rfl
    exact ⟨h1.1, h1.2.1, h1.2.2, h2.1, h2.2.1, h2.2.2, h⟩)
  have HK2 : Hid (∀ w' w'' fq vs, St w w' [aCel w3.heap.size 24 #[.int .i64 t, .int .i64 n, .slice am nm cm], aEnc Enc.prods fp [.slice am nm cm] (Gr.mir l), aCel w.heap.size 24 #[.int .i64 t, .int .i64 n, .slice ap l.length cp]] → St w' w'' [aEnc Enc.prods fq vs (Gr.mir l)] → St w w'' [aCel w3.heap.size 24 #[.int .i64 t, .int .i64 n, .slice am nm cm], aEnc Enc.prods fp [.slice am nm cm] (Gr.mir l), aCel w.heap.size 24 #[.int .i64 t, .int .i64 n, .slice ap l.length cp]] ∧ Enc.prods.R (fun b => b < w''.heap.size) w'' vs (Gr.mir l) ∧ Enc.prods.R (fun b => b < w''.heap.size) w'' [.slice am nm cm] (Gr.mir l)) := Lib.hid (fun w' w'' fq vs h1 h2 => by
    have h3 := h1.joined h2
    exact ⟨h3.drop, h3.encAt 0 rfl, h3.encAt 2 rfl⟩)
  have HST := Lib.hid hst4
  clear hst4 x0 x1 x2 y0 y1 y2
  go_region_held3 (fun w' => w'.cell? ⟨w3.heap.size, 0, none⟩ = some (.int .i64 t) ∧ w'.cell? ⟨w3.heap.size, 1, none⟩ = some (.int .i64 n) ∧ w'.cell? ⟨w3.heap.size, 2, none⟩ = some (.slice am nm cm) ∧ w'.cell? ⟨w.heap.size, 0, none⟩ = some (.int .i64 t) ∧ w'.cell? ⟨w.heap.size, 1, none⟩ = some (.int .i64 n) ∧ w'.cell? ⟨w.heap.size, 2, none⟩ = some (.slice ap l.length cp) ∧ St w w' [aCel w3.heap.size 24 #[.int .i64 t, .int .i64 n, .slice am nm cm], aEnc Enc.prods fp [.slice am nm cm] (Gr.mir l), aCel w.heap.size 24 #[.int .i64 t, .int .i64 n, .slice ap l.length cp]]) (first | exact HK.out _ HST.out.drew | exact HK.out _ HST2 | exact HK.out _ HST3)
    (first
      | (go_at_call 39; have hh := (‹_ ∧ _ ∧ _ ∧ _ ∧ _ ∧ _ ∧ St w _ _›).2.2.2.2.2.2; refine (HT.out _ hh.bel).mono ?_; rintro e w8 ⟨a8, n8, c8, f8, rfl, ho8⟩; have h28 := HK2.out _ _ _ _ hh ho8; have HST2 := h28.1; have HE8 := Lib.hid h28.2; clear hh ho8 h28)
      | (go_at_call 38; have hh := (‹_ ∧ _ ∧ _ ∧ _ ∧ _ ∧ _ ∧ St w _ _›).2.2.2.2.2.2; refine (sameGram_any t n (Gr.mir l) _ (fun _ h => h) (fun _ h => h) HE8.out.2 HE8.out.1).mono ?_; rintro e w9 ⟨rfl, hb9⟩; have HST3 := hh.call hb9; clear hh hb9))
  have hst5 := (‹_ ∧ _ ∧ _ ∧ _ ∧ _ ∧ _ ∧ St w _ _›).2.2.2.2.2.2
  clear HST HK HK2
  obtain ⟨x0, x1, x2⟩ := hst5.at3 2 rfl
  go_wp2_with (fail)
  go_ret
  exact ⟨by simp, hst5.bel⟩

set_option maxRecDepth 100000 in
set_option maxHeartbeats 8000000 in
theorem cfgSays_hi (t n : Int) (vp : Value) (l : List (Int × List (Int × Int))) (w : World) (F : Nat → Prop) (hF : ∀ b, F b → b < w.heap.size) (h : Enc.prods.R F w [vp] l) (non : Int) (he : Gr.err t n l = 0) (hn0 : ¬ non < 0) (hn : n ≤ non) :
    Calls Try.prog 7 #[.agg #[.int .i64 t, .int .i64 n, vp], .int .i64 non] w fun e w' => e = .returned (.bool true) ∧ Below w.heap.size w w' := by
  have H := Lib.hid h; have HF := Lib.hid hF
  obtain ⟨ap, b, off, cp, rfl, m1, m2, m3⟩ := slProds h
  have M2 := Lib.hid m2; have M3 := Lib.hid m3
  clear m1 m2 m3
  have HG : Hid (∀ w', Below w.heap.size w w' → (∀ b, F b → b < w'.heap.size) ∧ Enc.prods.R F w' [.slice ap l.length cp] l) := Lib.hid (fun w' hw => ⟨fun b hb => Nat.lt_of_lt_of_le (HF.out b hb) hw.size, Enc.mono _ H.out (fun _ h => h) (fun b hb => hw.block b (HF.out b hb))⟩)
  have HR := fun w' (hw : Below w.heap.size w w') => rcfg_any t n _ l w' F (HG.out w' hw).1 (HG.out w' hw).2
  have HC := fun w' (hw : Below w.heap.size w w') => cfgCheck_any t n _ l w' F (HG.out w' hw).1 (HG.out w' hw).2
  have HM := fun w' (hw : Below w.heap.size w w') => mirror_ok t n _ l w' F (HG.out w' hw).1 (HG.out w' hw).2 he
  have HT := Lib.hid (fun w' (hw : Below w.heap.size w w') => turned_ok t n _ l w' F (HG.out w' hw).1 (HG.out w' hw).2 he)
  have HO := fun w' (hw : Below w.heap.size w w') => cfgOf_arg t n _ l w' F (HG.out w' hw).1 (HG.out w' hw).2 non he (.inr ⟨hn0, hn⟩)
  rw [he] at HR HC
  clear he
  replace HR := Lib.hid HR; replace HC := Lib.hid HC; replace HO := Lib.hid HO; replace HM := Lib.hid HM
  clear h hF
  have hst := (St.init w).alloc #[.int .i64 t, .int .i64 n, .slice ap l.length cp] 24
  go_enter Try.func7, Try.ntmps7
  go_wp2_with (fail)
  go_at_call 34
  refine (HR.out _ hst.bel).mono ?_
  rintro e w1 ⟨rfl, hb1⟩
  replace hst := hst.call hb1
  clear hb1
  obtain ⟨x0, x1, x2, _, _, _⟩ := hst.cel3
  go_wp2_with (fail)
  go_at_call 35
  refine (HO.out _ hst.bel).mono ?_
  rintro e w2 ⟨rfl, hb2⟩
  have hst2 := hst.call hb2
  clear hb2 hst x0 x1 x2
  obtain ⟨x0, x1, x2, _, _, _⟩ := hst2.cel3
  go_wp2_with (fail)
  go_at_call 36
  refine (HM.out _ hst2.bel).mono ?_
  rintro e w3 ⟨am, nm, cm, fp, rfl, ho3⟩
  have hst3 := (hst2.joined ho3).alloc #[.int .i64 t, .int .i64 n, .slice am nm cm] 24
  clear ho3 hst2 x0 x1 x2
  obtain ⟨x0, x1, x2⟩ := hst3.at3 2 rfl
  go_wp2_with (fail)
  go_at_call 37
  refine (HC.out _ hst3.bel).mono ?_
  rintro e w4 ⟨rfl, hb4⟩
  have hst4 := hst3.call hb4
  clear hb4 hst3 x0 x1 x2
  obtain ⟨x0, x1, x2⟩ := hst4.at3 2 rfl
  obtain ⟨y0, y1, y2⟩ := hst4.at3 0 rfl
  go_wp2_with (fail)
  have HK : Hid (∀ w', St w w' [aCel w3.heap.size 24 #[.int .i64 t, .int .i64 n, .slice am nm cm], aEnc Enc.prods fp [.slice am nm cm] (Gr.mir l), aCel w.heap.size 24 #[.int .i64 t, .int .i64 n, .slice ap l.length cp]] → w'.cell? ⟨w3.heap.size, 0, none⟩ = some (.int .i64 t) ∧ w'.cell? ⟨w3.heap.size, 1, none⟩ = some (.int .i64 n) ∧ w'.cell? ⟨w3.heap.size, 2, none⟩ = some (.slice am nm cm) ∧ w'.cell? ⟨w.heap.size, 0, none⟩ = some (.int .i64 t) ∧ w'.cell? ⟨w.heap.size, 1, none⟩ = some (.int .i64 n) ∧ w'.cell? ⟨w.heap.size, 2, none⟩ = some (.slice ap l.length cp) ∧ St w w' [aCel w3.heap.size 24 #[.int .i64 t, .int .i64 n, .slice am nm cm], aEnc Enc.prods fp [.slice am nm cm] (Gr.mir l), aCel w.heap.size 24 #[.int .i64 t, .int .i64 n, .slice ap l.length cp]]) := Lib.hid (fun w' h => by
    have h1 := h.at3 0 rfl
    have h2 := h.at3 2 rfl
    exact ⟨h1.1, h1.2.1, h1.2.2, h2.1, h2.2.1, h2.2.2, h⟩)
  have HK2 : Hid (∀ w' w'' fq vs, St w w' [aCel w3.heap.size 24 #[.int .i64 t, .int .i64 n, .slice am nm cm], aEnc Enc.prods fp [.slice am nm cm] (Gr.mir l), aCel w.heap.size 24 #[.int .i64 t, .int .i64 n, .slice ap l.length cp]] → St w' w'' [aEnc Enc.prods fq vs (Gr.mir l)] → St w w'' [aCel w3.heap.size 24 #[.int .i64 t, .int .i64 n, .slice am nm cm], aEnc Enc.prods fp [.slice am nm cm] (Gr.mir l), aCel w.heap.size 24 #[.int .i64 t, .int .i64 n, .slice ap l.length cp]] ∧ Enc.prods.R (fun b => b < w''.heap.size) w'' vs (Gr.mir l) ∧ Enc.prods.R (fun b => b < w''.heap.size) w'' [.slice am nm cm] (Gr.mir l)) := Lib.hid (fun w' w'' fq vs h1 h2 => by
    have h3 := h1.joined h2
    exact ⟨h3.drop, h3.encAt 0 rfl, h3.encAt 2 rfl⟩)
  have HST := Lib.hid hst4
  clear hst4 x0 x1 x2 y0 y1 y2
  go_region_held3 (fun w' => w'.cell? ⟨w3.heap.size, 0, none⟩ = some (.int .i64 t) ∧ w'.cell? ⟨w3.heap.size, 1, none⟩ = some (.int .i64 n) ∧ w'.cell? ⟨w3.heap.size, 2, none⟩ = some (.slice am nm cm) ∧ w'.cell? ⟨w.heap.size, 0, none⟩ = some (.int .i64 t) ∧ w'.cell? ⟨w.heap.size, 1, none⟩ = some (.int .i64 n) ∧ w'.cell? ⟨w.heap.size, 2, none⟩ = some (.slice ap l.length cp) ∧ St w w' [aCel w3.heap.size 24 #[.int .i64 t, .int .i64 n, .slice am nm cm], aEnc Enc.prods fp [.slice am nm cm] (Gr.mir l), aCel w.heap.size 24 #[.int .i64 t, .int .i64 n, .slice ap l.length cp]]) (first | exact HK.out _ HST.out.drew | exact HK.out _ HST2 | exact HK.out _ HST3)
    (first
      | (go_at_call 39; have hh := (‹_ ∧ _ ∧ _ ∧ _ ∧ _ ∧ _ ∧ St w _ _›).2.2.2.2.2.2; refine (HT.out _ hh.bel).mono ?_; rintro e w8 ⟨a8, n8, c8, f8, rfl, ho8⟩; have h28 := HK2.out _ _ _ _ hh ho8; have HST2 := h28.1; have HE8 := Lib.hid h28.2; clear hh ho8 h28)
      | (go_at_call 38; have hh := (‹_ ∧ _ ∧ _ ∧ _ ∧ _ ∧ _ ∧ St w _ _›).2.2.2.2.2.2; refine (sameGram_any t n (Gr.mir l) _ (fun _ h => h) (fun _ h => h) HE8.out.2 HE8.out.1).mono ?_; rintro e w9 ⟨rfl, hb9⟩; have HST3 := hh.call hb9; clear hh hb9))
  have hst5 := (‹_ ∧ _ ∧ _ ∧ _ ∧ _ ∧ _ ∧ St w _ _›).2.2.2.2.2.2
  clear HST HK HK2
  obtain ⟨x0, x1, x2⟩ := hst5.at3 2 rfl
  go_wp2_with (fail)
  go_ret
  exact ⟨by simp, hst5.bel⟩

set_option maxRecDepth 100000 in
set_option maxHeartbeats 8000000 in
theorem cfgSays_ok (t n : Int) (vp : Value) (l : List (Int × List (Int × Int))) (w : World) (F : Nat → Prop) (hF : ∀ b, F b → b < w.heap.size) (h : Enc.prods.R F w [vp] l) (non : Int) (he : Gr.err t n l = 0) (hn0 : 0 ≤ non) (hn : non < n) :
    Calls Try.prog 7 #[.agg #[.int .i64 t, .int .i64 n, vp], .int .i64 non] w fun e w' => e = .returned (.bool true) ∧ Below w.heap.size w w' := by
  have H := Lib.hid h; have HF := Lib.hid hF
  obtain ⟨ap, b, off, cp, rfl, m1, m2, m3⟩ := slProds h
  have M2 := Lib.hid m2; have M3 := Lib.hid m3
  clear m1 m2 m3
  have HG : Hid (∀ w', Below w.heap.size w w' → (∀ b, F b → b < w'.heap.size) ∧ Enc.prods.R F w' [.slice ap l.length cp] l) := Lib.hid (fun w' hw => ⟨fun b hb => Nat.lt_of_lt_of_le (HF.out b hb) hw.size, Enc.mono _ H.out (fun _ h => h) (fun b hb => hw.block b (HF.out b hb))⟩)
  have HR := fun w' (hw : Below w.heap.size w w') => rcfg_any t n _ l w' F (HG.out w' hw).1 (HG.out w' hw).2
  have HC := fun w' (hw : Below w.heap.size w w') => cfgCheck_any t n _ l w' F (HG.out w' hw).1 (HG.out w' hw).2
  have HM := fun w' (hw : Below w.heap.size w w') => mirror_ok t n _ l w' F (HG.out w' hw).1 (HG.out w' hw).2 he
  have HT := Lib.hid (fun w' (hw : Below w.heap.size w w') => turned_ok t n _ l w' F (HG.out w' hw).1 (HG.out w' hw).2 he)
  have HO := fun w' (hw : Below w.heap.size w w') => cfgOf_ok t n _ l w' F (HG.out w' hw).1 (HG.out w' hw).2 non he hn0 hn
  have hn1 : ¬ non < 0 := by omega
  have hn2 : ¬ n ≤ non := by omega
  have hl40 := (Gr.err_zero he).2.2.2.2.1
  rw [he] at HR HC
  clear he
  replace HR := Lib.hid HR; replace HC := Lib.hid HC; replace HO := Lib.hid HO; replace HM := Lib.hid HM
  clear h hF
  have hst := (St.init w).alloc #[.int .i64 t, .int .i64 n, .slice ap l.length cp] 24
  go_enter Try.func7, Try.ntmps7
  go_wp2_with (fail)
  go_at_call 34
  refine (HR.out _ hst.bel).mono ?_
  rintro e w1 ⟨rfl, hb1⟩
  replace hst := hst.call hb1
  clear hb1
  obtain ⟨x0, x1, x2, _, _, _⟩ := hst.cel3
  go_wp2_with (fail)
  go_at_call 35
  refine (HO.out _ hst.bel).mono ?_
  rintro e w2 ⟨v2, rfl, ho2, hb2⟩
  obtain ⟨a2, c2, rfl⟩ := ho2.isLen
  rw [List.length_map] at ho2 ⊢
  have hst2 := (hst.pushOwn hb2 ho2).get2
  clear hb2 ho2 hst x0 x1 x2
  obtain ⟨x0, x1, x2, _, _, _⟩ := hst2.cel3
  go_wp2_with (fail)
  go_at_call 36
  refine (HM.out _ hst2.bel).mono ?_
  rintro e w3 ⟨am, nm, cm, fp, rfl, ho3⟩
  have hst3 := (hst2.joined ho3).alloc #[.int .i64 t, .int .i64 n, .slice am nm cm] 24
  clear ho3 hst2 x0 x1 x2
  obtain ⟨x0, x1, x2⟩ := hst3.at3 2 rfl
  go_wp2_with (fail)
  go_at_call 37
  refine (HC.out _ hst3.bel).mono ?_
  rintro e w4 ⟨rfl, hb4⟩
  have hst4 := hst3.call hb4
  clear hb4 hst3 x0 x1 x2
  obtain ⟨x0, x1, x2⟩ := hst4.at3 2 rfl
  obtain ⟨y0, y1, y2⟩ := hst4.at3 0 rfl
  go_wp2_with (fail)
  have HK : Hid (∀ w', St w w' [aCel w3.heap.size 24 #[.int .i64 t, .int .i64 n, .slice am nm cm], aEnc Enc.prods fp [.slice am nm cm] (Gr.mir l), aCel w.heap.size 24 #[.int .i64 t, .int .i64 n, .slice ap l.length cp], aOwn 3 1 (.slice a2 (Gr.ofGo non l 0).length c2) ((Gr.ofGo non l 0).map (Value.int .i64))] → w'.cell? ⟨w3.heap.size, 0, none⟩ = some (.int .i64 t) ∧ w'.cell? ⟨w3.heap.size, 1, none⟩ = some (.int .i64 n) ∧ w'.cell? ⟨w3.heap.size, 2, none⟩ = some (.slice am nm cm) ∧ w'.cell? ⟨w.heap.size, 0, none⟩ = some (.int .i64 t) ∧ w'.cell? ⟨w.heap.size, 1, none⟩ = some (.int .i64 n) ∧ w'.cell? ⟨w.heap.size, 2, none⟩ = some (.slice ap l.length cp) ∧ St w w' [aCel w3.heap.size 24 #[.int .i64 t, .int .i64 n, .slice am nm cm], aEnc Enc.prods fp [.slice am nm cm] (Gr.mir l), aCel w.heap.size 24 #[.int .i64 t, .int .i64 n, .slice ap l.length cp], aOwn 3 1 (.slice a2 (Gr.ofGo non l 0).length c2) ((Gr.ofGo non l 0).map (Value.int .i64))]) := Lib.hid (fun w' h => by
    have h1 := h.at3 0 rfl
    have h2 := h.at3 2 rfl
    exact ⟨h1.1, h1.2.1, h1.2.2, h2.1, h2.2.1, h2.2.2, h⟩)
  have HK2 : Hid (∀ w' w'' fq vs, St w w' [aCel w3.heap.size 24 #[.int .i64 t, .int .i64 n, .slice am nm cm], aEnc Enc.prods fp [.slice am nm cm] (Gr.mir l), aCel w.heap.size 24 #[.int .i64 t, .int .i64 n, .slice ap l.length cp], aOwn 3 1 (.slice a2 (Gr.ofGo non l 0).length c2) ((Gr.ofGo non l 0).map (Value.int .i64))] → St w' w'' [aEnc Enc.prods fq vs (Gr.mir l)] → St w w'' [aCel w3.heap.size 24 #[.int .i64 t, .int .i64 n, .slice am nm cm], aEnc Enc.prods fp [.slice am nm cm] (Gr.mir l), aCel w.heap.size 24 #[.int .i64 t, .int .i64 n, .slice ap l.length cp], aOwn 3 1 (.slice a2 (Gr.ofGo non l 0).length c2) ((Gr.ofGo non l 0).map (Value.int .i64))] ∧ Enc.prods.R (fun b => b < w''.heap.size) w'' vs (Gr.mir l) ∧ Enc.prods.R (fun b => b < w''.heap.size) w'' [.slice am nm cm] (Gr.mir l)) := Lib.hid (fun w' w'' fq vs h1 h2 => by
    have h3 := h1.joined h2
    exact ⟨h3.drop, h3.encAt 0 rfl, h3.encAt 2 rfl⟩)
  have HST := Lib.hid hst4
  clear hst4 x0 x1 x2 y0 y1 y2
  go_region_held3 (fun w' => w'.cell? ⟨w3.heap.size, 0, none⟩ = some (.int .i64 t) ∧ w'.cell? ⟨w3.heap.size, 1, none⟩ = some (.int .i64 n) ∧ w'.cell? ⟨w3.heap.size, 2, none⟩ = some (.slice am nm cm) ∧ w'.cell? ⟨w.heap.size, 0, none⟩ = some (.int .i64 t) ∧ w'.cell? ⟨w.heap.size, 1, none⟩ = some (.int .i64 n) ∧ w'.cell? ⟨w.heap.size, 2, none⟩ = some (.slice ap l.length cp) ∧ St w w' [aCel w3.heap.size 24 #[.int .i64 t, .int .i64 n, .slice am nm cm], aEnc Enc.prods fp [.slice am nm cm] (Gr.mir l), aCel w.heap.size 24 #[.int .i64 t, .int .i64 n, .slice ap l.length cp], aOwn 3 1 (.slice a2 (Gr.ofGo non l 0).length c2) ((Gr.ofGo non l 0).map (Value.int .i64))]) (first | exact HK.out _ HST.out.drew | exact HK.out _ HST2 | exact HK.out _ HST3)
    (first
      | (go_at_call 39; have hh := (‹_ ∧ _ ∧ _ ∧ _ ∧ _ ∧ _ ∧ St w _ _›).2.2.2.2.2.2; refine (HT.out _ hh.bel).mono ?_; rintro e w8 ⟨a8, n8, c8, f8, rfl, ho8⟩; have h28 := HK2.out _ _ _ _ hh ho8; have HST2 := h28.1; have HE8 := Lib.hid h28.2; clear hh ho8 h28)
      | (go_at_call 38; have hh := (‹_ ∧ _ ∧ _ ∧ _ ∧ _ ∧ _ ∧ St w _ _›).2.2.2.2.2.2; refine (sameGram_any t n (Gr.mir l) _ (fun _ h => h) (fun _ h => h) HE8.out.2 HE8.out.1).mono ?_; rintro e w9 ⟨rfl, hb9⟩; have HST3 := hh.call hb9; clear hh hb9))
  have hst5 := (‹_ ∧ _ ∧ _ ∧ _ ∧ _ ∧ _ ∧ St w _ _›).2.2.2.2.2.2
  clear HST HK HK2
  obtain ⟨x0, x1, x2⟩ := hst5.at3 2 rfl
  go_wp2_with (fail)
  have hst6 := hst5.nilOwn 3 1
  have HST6 := Lib.hid hst6
  clear hst5 hst6 x0 x1 x2
  generalize hR : Gr.ofGo non l 0 = R at *
  have HR0 : Hid ([] ++ Gr.ofGo non (l.drop 0) 0 = R) := Lib.hid (by rw [← hR]; rfl)
  have HRL := Gr.ofGo_len non l 0
  rw [hR] at HRL
  have HRW : Hid (∀ x ∈ R, (Lit.int .i64 x).wf = true) := Lib.hid (by rw [← hR]; exact Gr.ofGo_wf non l 0 (by omega))
  clear hR
  go_loopw [10, 11, 72] (fun o _ i wr => CfgRel non l R (w3.heap.size) w.heap.size t n (.slice am nm cm) (.slice ap l.length cp) (.slice a2 R.length c2) fp w o i wr) (fun _ _ i _ => l.length - (intOf i).toNat)
  case atStart => exact ⟨0, [], by omega, rfl, by simp, HST6.out, HR0⟩
  case round =>
    clear HST6 HR0
    obtain ⟨k, out, hk, rfl, hol, hst, hout⟩ := hrel
    obtain ⟨x0, x1, x2⟩ := hst.at3 3 rfl
    by_cases hlt : k < l.length
    · obtain ⟨rfl, hb, _⟩ := M2.out (by omega)
      obtain ⟨vb, p1, p2, p3, p4⟩ := M3.out k hlt
      have q1 := (hst.bel.cell (p := ⟨b, off + k * 2, none⟩) hb).trans p1
      have HO := Lib.hid hout.out
      clear p1 p2 p3 hout
      generalize hp1 : (l.getD k (0, [])).1 = p1 at *
      by_cases hpn : p1 = non
      · have HN : Hid (out ++ [(k : Int)] ++ Gr.ofGo non (l.drop (k + 1)) (k + 1) = R) := Lib.hid (by rw [← HO.out, Gr.ofGo_yes hlt (by rw [hp1]; exact hpn), List.append_assoc]; rfl)
        have hq : (p1 == non) = true := by rw [beq_iff_eq]; exact hpn
        clear hp1 hpn
        go_wp2_with (at_builtin; refine St.app1n intE rfl (.tmp 83) (.tmp 85) rfl rfl hst (.int .i64 (k : Int)) rfl _ 1 rfl (by simp) rfl (int_one _) (by rw [List.length_map]; unfold maxLen; omega) (by rw [List.length_map]; omega) ?_; intro g3 n3 cap3 w4 hst4; clear hst)
        go_roundw
        case rel => exact ⟨k + 1, out ++ [(k : Int)], by omega, by go_num, by simp; omega, by rw [List.map_append]; exact hst4, HN⟩
        case measure => simp [intOf]; omega
      · have HN : Hid (out ++ Gr.ofGo non (l.drop (k + 1)) (k + 1) = R) := Lib.hid (by rw [← HO.out, Gr.ofGo_no hlt (by rw [hp1]; exact hpn)])
        have hq : (p1 == non) = false := by rw [beq_eq_false_iff_ne]; exact hpn
        clear hp1 hpn
        go_wp2
        go_roundw
        case rel => exact ⟨k + 1, out, by omega, by go_num, by omega, hst, HN⟩
        case measure => simp [intOf]; omega
    · obtain rfl : k = l.length := by omega
      have ho := hout.out
      rw [List.drop_length, Gr.ofGo_end, List.append_nil] at ho
      subst ho
      clear hout
      have e1 := Own.sl (hst.ownAt 0 rfl) HRW.out
      have e2 := Own.sl (hst.ownAt 4 rfl) HRW.out
      have E1 := Lib.hid e1; have E2 := Lib.hid e2
      clear e1 e2
      go_wp2_with (fail)
      go_at_call 40
      refine (eqInts _ E2.out E1.out).mono ?_
      rintro e w10 ⟨rfl, hb10⟩
      have hst10 := hst.call hb10
      go_wp2_with (fail)
      go_ret
      exact ⟨by simp, hst10.bel⟩

theorem cfgSays_walk (cs : Array Value) (g : Int × Int × List (Int × List (Int × Int))) (non : Int) (w : World) (h : Rd Enc.gram (fun b => b < w.heap.size) w (.agg cs) g) (hcs : (Value.agg cs).cells.toList = cs.toList) :
    Calls Try.prog 7 #[.agg cs, .int .i64 non] w fun e w' => e = .returned (.bool true) ∧ Below w.heap.size w w' := by
  unfold Rd at h
  rw [hcs] at h
  obtain ⟨vp, rfl, hp, _, _⟩ := gram_cells h
  by_cases he : Gr.err g.1 g.2.1 g.2.2 = 0
  · by_cases h0 : non < 0
    · exact cfgSays_lo _ _ _ _ w _ (fun _ h => h) hp non he h0
    · by_cases h1 : g.2.1 ≤ non
      · exact cfgSays_hi _ _ _ _ w _ (fun _ h => h) hp non he h0 h1
      · exact cfgSays_ok _ _ _ _ w _ (fun _ h => h) hp non he (by omega) (by omega)
  · exact cfgSays_bad _ _ _ _ w _ (fun _ h => h) hp non he
end Go.Proofs.Ytkgpipokfoadiaa
