/-
  Of of package facts.
-/
import Derived.Test.YtldapomcjfkeeaaFcPlain
import Derived.Test.YtldapomcjfkeeaaMakes
namespace Go.Proofs.Ytldapomcjfkeeaa
set_option linter.unusedVariables false
set_option linter.unusedSimpArgs false
open Go.ChangeShapes Go.WideShapes Go.ChangeAt Go.RowKit

def RetFc (l : List Fc.Pr) (N : Nat) (w : World) (e : Ending) (w' : World) : Prop := ∃ gE gF gW gR gM E Fs W R M, e = .returned (.tuple #[.agg #[.slice (some ⟨gE, 0, none⟩) N N, .slice (some ⟨gF, 0, none⟩) N N, .slice (some ⟨gW, 0, none⟩) N N, .slice (some ⟨gR, 0, none⟩) N N, .slice (some ⟨gM, 0, none⟩) N N], .int .i64 0]) ∧ Hid (Fc.Good l N E Fs W R M) ∧
  St w w' [Fc.aB (.slice (some ⟨gE, 0, none⟩) N N) E, Fc.aU (.slice (some ⟨gF, 0, none⟩) N N) Fs, Fc.aU (.slice (some ⟨gW, 0, none⟩) N N) W, Fc.aB (.slice (some ⟨gR, 0, none⟩) N N) R, Fc.aB (.slice (some ⟨gM, 0, none⟩) N N) M]
def Fc.mks (N : Nat) : List Mk := [.make 1 16 N 4 (.bool false), .make 3 18 N 85 (.int .u64 0), .make 5 20 N 85 (.int .u64 0), .make 7 22 N 4 (.bool false), .make 9 24 N 4 (.bool false), .cel 11 6 88 #[.slice none 0 0, .slice none 0 0, .slice none 0 0, .slice none 0 0, .slice none 0 0]]

set_option maxRecDepth 100000 in
set_option maxHeartbeats 1600000 in
theorem fcOf_bad (t n : Int) (vp : Value) (l : List Fc.Pr) (w : World) (F : Nat → Prop) (hF : ∀ b, F b → b < w.heap.size) (h : Enc.prods.R F w [vp] l) (he : Gr.err t n l ≠ 0) :
    Calls Try.prog 42 #[.agg #[.int .i64 t, .int .i64 n, vp]] w fun e w' => e = .returned (.tuple #[.agg #[.slice none 0 0, .slice none 0 0, .slice none 0 0, .slice none 0 0, .slice none 0 0], .int .i64 (Gr.err t n l)]) ∧ Below w.heap.size w w' := by
  have HC := Lib.hid (fun (w' : World) (hb : Below w.heap.size w w') => cfgCheck_any t n vp l w' F (fun b hb' => Nat.lt_of_lt_of_le (hF b hb') hb.size) (Enc.prods.mono h (fun _ h => h) (fun b hb' => hb.block b (hF b hb'))))
  have hne : ((Gr.err t n l : Int) != 0) = true := by rw [bne_iff_ne]; exact he
  obtain ⟨E, hE⟩ : ∃ E, Gr.err t n l = E := ⟨_, rfl⟩
  rw [hE] at HC hne ⊢
  clear h hF he hE
  go_enter Try.func42, Try.ntmps42
  go_wp2_with (fail)
  go_at_call 102
  refine (HC.out _ (((Below.refl _ _).alloc (Nat.le_refl _) _).alloc (by simp) _)).mono ?_
  rintro e w1 ⟨rfl, hb1⟩
  have hb := (((Below.refl w.heap.size w).alloc (Nat.le_refl _) (.cells #[.int .i64 t, .int .i64 n, vp] 68)).alloc (by simp) (.cells #[.slice none 0 0, .slice none 0 0, .slice none 0 0, .slice none 0 0, .slice none 0 0] 88)).trans (hb1.mono (by simp; omega))
  obtain ⟨r0, r1, r2, r3, r4⟩ := (((St.init w).alloc #[.int .i64 t, .int .i64 n, vp] 68).alloc #[.slice none 0 0, .slice none 0 0, .slice none 0 0, .slice none 0 0, .slice none 0 0] 88).call hb1 |>.at5 0 rfl
  have hst := (((St.init w).alloc #[.int .i64 t, .int .i64 n, vp] 68).alloc #[.slice none 0 0, .slice none 0 0, .slice none 0 0, .slice none 0 0, .slice none 0 0] 88).call hb1
  simp only [World.size_alloc] at hst r0 r1 r2 r3 r4
  have k0 := hst.celFree 0
  have k1 := hst.celFree 1
  have k2 := hst.celFree 2
  have k3 := hst.celFree 3
  have k4 := hst.celFree 4
  have hst2 := ((((hst.setCel 0 (.slice none 0 0)).setCel 1 (.slice none 0 0)).setCel 2 (.slice none 0 0)).setCel 3 (.slice none 0 0)).setCel 4 (.slice none 0 0)
  have HST := Lib.hid hst2
  obtain ⟨s0, s1, s2, s3, s4⟩ := hst2.at5 (v0 := .slice none 0 0) (v1 := .slice none 0 0) (v2 := .slice none 0 0) (v3 := .slice none 0 0) (v4 := .slice none 0 0) 0 rfl
  clear hst hst2 hb1 hb HC
  go_wp2
  refine bodyPost_ret (v := .tuple #[.agg #[.slice none 0 0, .slice none 0 0, .slice none 0 0, .slice none 0 0, .slice none 0 0], .int .i64 E]) (by simp [results, Try.results42, go_sem, s0, s1, s2, s3, s4]) rfl ?_
  exact ⟨rfl, HST.out.bel⟩

set_option maxRecDepth 100000 in
set_option maxHeartbeats 1600000 in
theorem fcOf_ok (t n : Int) (vp : Value) (l : List Fc.Pr) (w : World) (F : Nat → Prop) (hF : ∀ b, F b → b < w.heap.size) (h : Enc.prods.R F w [vp] l) (he : Gr.err t n l = 0) :
    Calls Try.prog 42 #[.agg #[.int .i64 t, .int .i64 n, vp]] w (RetFc l n.toNat w) := by
  have HC := Lib.hid (fun (w' : World) (hb : Below w.heap.size w w') => cfgCheck_any t n vp l w' F (fun b hb' => Nat.lt_of_lt_of_le (hF b hb') hb.size) (Enc.prods.mono h (fun _ h => h) (fun b hb' => hb.block b (hF b hb'))))
  have hok := Fc.okP_of he
  obtain ⟨z1, z2, z3, z4, hl40, -⟩ := Gr.err_zero he
  obtain ⟨N, rfl⟩ := Int.eq_ofNat_of_zero_le (show 0 ≤ n by omega)
  rw [Int.toNat_natCast] at hok ⊢
  have hN : 0 < N := by omega
  have hN20 : N ≤ 20 := by omega
  have HOK := Lib.hid hok; have HP := Lib.hid h; have HL := Lib.hid hl40; have HN := Lib.hid hN; have HN20 := Lib.hid hN20; have HF := Lib.hid hF
  rw [he] at HC
  clear h hF he hok hl40
  have HST := Lib.hid (((St.init w).alloc #[.int .i64 t, .int .i64 N, vp] 68).alloc #[.slice none 0 0, .slice none 0 0, .slice none 0 0, .slice none 0 0, .slice none 0 0] 88)
  simp only [World.size_alloc] at HST
  go_enter Try.func42, Try.ntmps42
  go_wp2_with (fail)
  go_at_call 102
  refine (HC.out _ HST.out.bel).mono ?_
  rintro e w1 ⟨rfl, hb1⟩
  have hst := HST.out.call hb1
  have HST := Lib.hid hst
  obtain ⟨g0, g1, g2⟩ := hst.at3 1 rfl
  clear hst hb1 HC
  go_wp2
  refine wp_region_any (by kernel_rfl) ?_
  have HSTD := Lib.hid HST.out.drew
  change wpAny _ _ _ _ _ _ _ w1.drew
  refine wpAny_take (i := 0) (v := ?_) rfl (by kernel_rfl) (by kernel_rfl) (by kernel_rfl) (fun _ _ _ h => h) (Or.inl ⟨by rfl, ?_⟩) ?_
  rotate_left; focus (intro w; go_simp; try (with_reducible rfl); done)
  try simp only [List.getElem_toArray, List.getElem_cons_zero, List.getElem_cons_succ, Act.put, List.setIfInBounds_toArray, List.set_cons_zero, List.set_cons_succ]
  refine wpAny_take (i := 2) (v := ?_) rfl (by kernel_rfl) (by kernel_rfl) (by kernel_rfl) (fun _ _ _ h => h) (Or.inl ⟨by rfl, ?_⟩) ?_
  rotate_left; focus (intro w; go_simp; try (with_reducible rfl); done)
  try simp only [List.getElem_toArray, List.getElem_cons_zero, List.getElem_cons_succ, Act.put, List.setIfInBounds_toArray, List.set_cons_zero, List.set_cons_succ]
  refine wpAny_take (i := 4) (v := ?_) rfl (by kernel_rfl) (by kernel_rfl) (by kernel_rfl) (fun _ _ _ h => h) (Or.inl ⟨by rfl, ?_⟩) ?_
  rotate_left; focus (intro w; go_simp; try (with_reducible rfl); done)
  try simp only [List.getElem_toArray, List.getElem_cons_zero, List.getElem_cons_succ, Act.put, List.setIfInBounds_toArray, List.set_cons_zero, List.set_cons_succ]
  refine wpAny_take (i := 6) (v := ?_) rfl (by kernel_rfl) (by kernel_rfl) (by kernel_rfl) (fun _ _ _ h => h) (Or.inl ⟨by rfl, ?_⟩) ?_
  rotate_left; focus (intro w; go_simp; try (with_reducible rfl); done)
  try simp only [List.getElem_toArray, List.getElem_cons_zero, List.getElem_cons_succ, Act.put, List.setIfInBounds_toArray, List.set_cons_zero, List.set_cons_succ]
  refine wpAny_take (i := 8) (v := ?_) rfl (by kernel_rfl) (by kernel_rfl) (by kernel_rfl) (fun _ _ _ h => h) (Or.inl ⟨by rfl, ?_⟩) ?_
  rotate_left; focus (intro w; go_simp; try (with_reducible rfl); done)
  try simp only [List.getElem_toArray, List.getElem_cons_zero, List.getElem_cons_succ, Act.put, List.setIfInBounds_toArray, List.set_cons_zero, List.set_cons_succ]
  refine St.makes (w0 := w) (Fc.mks N) [[1, 3, 5, 7, 9], [1, 3, 5, 7, 9, 11]] 2 HSTD.out rfl (by kernel_rfl) (by kernel_rfl) (by kernel_rfl) ?_ ?_
  · intro m hm
    simp only [Fc.mks, List.mem_cons, List.not_mem_nil, or_false] at hm
    have h64 : (8 : Int) * N ≤ 140737488355328 := by have := HN20.out; omega
    have h1 : (1 : Int) * N ≤ 140737488355328 := by have := HN20.out; omega
    rcases hm with rfl | rfl | rfl | rfl | rfl | rfl
    · exact Mk.does_make rfl rfl rfl rfl Try.underlying54 (by kernel_rfl) rfl (by decide) h1 rfl rfl
    · exact Mk.does_make rfl rfl rfl rfl Try.underlying86 (by kernel_rfl) rfl (by decide) h64 rfl rfl
    · exact Mk.does_make rfl rfl rfl rfl Try.underlying86 (by kernel_rfl) rfl (by decide) h64 rfl rfl
    · exact Mk.does_make rfl rfl rfl rfl Try.underlying54 (by kernel_rfl) rfl (by decide) h1 rfl rfl
    · exact Mk.does_make rfl rfl rfl rfl Try.underlying54 (by kernel_rfl) rfl (by decide) h1 rfl rfl
    · exact Mk.does_cel rfl rfl rfl (fun b w => by kernel_rfl)
  · intro js hjs k ds hds hk w5 hst5
    simp only [List.mem_cons, List.not_mem_nil, or_false] at hjs
    rcases hjs with rfl | rfl
    case' inl =>
      obtain ⟨gE, d1, rfl, h1⟩ := Mk.split (hds.trans rfl)
      obtain ⟨gF, d2, rfl, h2⟩ := Mk.split h1
      obtain ⟨gW, d3, rfl, h3⟩ := Mk.split h2
      obtain ⟨gR, d4, rfl, h4⟩ := Mk.split h3
      obtain ⟨gM, d5, rfl, h5⟩ := Mk.split h4
      obtain rfl := Mk.done h5
      obtain rfl : k = 1 := by simp [Fc.mks] at hk; omega
      clear hds h1 h2 h3 h4 h5 hk
      simp only [Mk.lst, Mk.puts, List.map_cons, List.map_nil, List.foldl_cons, List.foldl_nil, Mk.make, Mk.cel, Act.put, List.setIfInBounds_toArray, List.set_cons_zero, List.set_cons_succ]
      refine wpAny_take (i := 10) (v := ?_) rfl (by kernel_rfl) (by kernel_rfl) (by kernel_rfl) (fun _ _ _ h => h) (Or.inl ⟨by rfl, ?_⟩) ?_
      rotate_left; focus (intro w; go_simp; try (with_reducible rfl); done)
      try simp only [List.getElem_toArray, List.getElem_cons_zero, List.getElem_cons_succ, Act.put, List.setIfInBounds_toArray, List.set_cons_zero, List.set_cons_succ]
      refine wpAny_ready (rs := [11]) (by kernel_rfl) (by simp) ?_
      refine AllReady.cons rfl (fun K hK => ?_) AllReady.nil
      go_simp
      refine hK _ _ ?_
      clear hK K
      have hst6 := Lib.hid (hst5.alloc #[.slice none 0 0, .slice none 0 0, .slice none 0 0, .slice none 0 0, .slice none 0 0] 88)
      generalize w5.heap.size = gB at *
      generalize w5.alloc (.cells #[.slice none 0 0, .slice none 0 0, .slice none 0 0, .slice none 0 0, .slice none 0 0] 88) = W at *
      clear hst5
      obtain ⟨x0, x1, x2, x3, x4⟩ := hst6.out.at5 0 rfl
      have f0 := hst6.out.celFree 0
      have f1 := hst6.out.celFree 1
      have f2 := hst6.out.celFree 2
      have f3 := hst6.out.celFree 3
      have f4 := hst6.out.celFree 4
      refine wpAny_ready (rs := [12]) (by kernel_rfl) (by simp) ?_
      refine AllReady.cons rfl (fun K hK => ?_) AllReady.nil
      go_simp
      refine hK _ _ ?_
      clear hK K x0 x1 x2 x3 x4 f0 f1 f2 f3 f4
      have hst7 := ((((hst6.out.setCel 0 (.slice (some ⟨gE, 0, none⟩) N N)).setCel 1 (.slice (some ⟨gF, 0, none⟩) N N)).setCel 2 (.slice (some ⟨gW, 0, none⟩) N N)).setCel 3 (.slice (some ⟨gR, 0, none⟩) N N)).setCel 4 (.slice (some ⟨gM, 0, none⟩) N N)
      refine wpAny_done (by kernel_rfl) ?_ _
      generalize (((((W.setCell ⟨gB, 0, none⟩ (.slice (some ⟨gE, 0, none⟩) N N)).setCell ⟨gB, 1, none⟩ (.slice (some ⟨gF, 0, none⟩) N N)).setCell ⟨gB, 2, none⟩ (.slice (some ⟨gW, 0, none⟩) N N)).setCell ⟨gB, 3, none⟩ (.slice (some ⟨gR, 0, none⟩) N N)).setCell ⟨gB, 4, none⟩ (.slice (some ⟨gM, 0, none⟩) N N)) = W7 at *
      clear hst6
      have HST := Lib.hid (hst7.pick (ρ := aCel gB 88 #[.slice (some ⟨gE, 0, none⟩) N N, .slice (some ⟨gF, 0, none⟩) N N, .slice (some ⟨gW, 0, none⟩) N N, .slice (some ⟨gR, 0, none⟩) N N, .slice (some ⟨gM, 0, none⟩) N N] :: aOwn 85 1 (.slice (some ⟨gF, 0, none⟩) N N) (List.replicate N (.int .u64 0)) :: aOwn 85 1 (.slice (some ⟨gW, 0, none⟩) N N) (List.replicate N (.int .u64 0)) :: aOwn 4 1 (.slice (some ⟨gR, 0, none⟩) N N) (List.replicate N (.bool false)) :: aOwn 4 1 (.slice (some ⟨gM, 0, none⟩) N N) (List.replicate N (.bool false)) :: aOwn 4 1 (.slice (some ⟨gE, 0, none⟩) N N) (List.replicate N (.bool false)) :: [aCel (w.heap.size + 1) 88 #[.slice none 0 0, .slice none 0 0, .slice none 0 0, .slice none 0 0, .slice none 0 0], aCel w.heap.size 68 #[.int .i64 t, .int .i64 N, vp]]) [0, 2, 3, 4, 5, 1, 6, 7] 8 rfl rfl)
      clear hst7
    case' inr =>
      obtain ⟨gE, d1, rfl, h1⟩ := Mk.split (hds.trans rfl)
      obtain ⟨gF, d2, rfl, h2⟩ := Mk.split h1
      obtain ⟨gW, d3, rfl, h3⟩ := Mk.split h2
      obtain ⟨gR, d4, rfl, h4⟩ := Mk.split h3
      obtain ⟨gM, d5, rfl, h5⟩ := Mk.split h4
      obtain ⟨gB, d6, rfl, h6⟩ := Mk.split h5
      obtain rfl := Mk.done h6
      obtain rfl : k = 0 := by simp [Fc.mks] at hk; omega
      clear hds h1 h2 h3 h4 h5 h6 hk
      simp only [Mk.lst, Mk.puts, List.map_cons, List.map_nil, List.foldl_cons, List.foldl_nil, Mk.make, Mk.cel, Act.put, List.setIfInBounds_toArray, List.set_cons_zero, List.set_cons_succ]
      refine wpAny_take (i := 10) (v := ?_) rfl (by kernel_rfl) (by kernel_rfl) (by kernel_rfl) (fun _ _ _ h => h) (Or.inl ⟨by rfl, ?_⟩) ?_
      rotate_left; focus (intro w; go_simp; try (with_reducible rfl); done)
      try simp only [List.getElem_toArray, List.getElem_cons_zero, List.getElem_cons_succ, Act.put, List.setIfInBounds_toArray, List.set_cons_zero, List.set_cons_succ]
      have hst6 := Lib.hid (hst5.pick (ρ := aCel gB 88 #[.slice none 0 0, .slice none 0 0, .slice none 0 0, .slice none 0 0, .slice none 0 0] :: aOwn 85 1 (.slice (some ⟨gF, 0, none⟩) N N) (List.replicate N (.int .u64 0)) :: aOwn 85 1 (.slice (some ⟨gW, 0, none⟩) N N) (List.replicate N (.int .u64 0)) :: aOwn 4 1 (.slice (some ⟨gR, 0, none⟩) N N) (List.replicate N (.bool false)) :: aOwn 4 1 (.slice (some ⟨gM, 0, none⟩) N N) (List.replicate N (.bool false)) :: aOwn 4 1 (.slice (some ⟨gE, 0, none⟩) N N) (List.replicate N (.bool false)) :: [aCel (w.heap.size + 1) 88 #[.slice none 0 0, .slice none 0 0, .slice none 0 0, .slice none 0 0, .slice none 0 0], aCel w.heap.size 68 #[.int .i64 t, .int .i64 N, vp]]) [5, 1, 2, 3, 4, 0, 6, 7] 8 rfl rfl)
      generalize w5 = W at *
      clear hst5
      obtain ⟨x0, x1, x2, x3, x4⟩ := hst6.out.at5 0 rfl
      have f0 := hst6.out.celFree 0
      have f1 := hst6.out.celFree 1
      have f2 := hst6.out.celFree 2
      have f3 := hst6.out.celFree 3
      have f4 := hst6.out.celFree 4
      refine wpAny_ready (rs := [12]) (by kernel_rfl) (by simp) ?_
      refine AllReady.cons rfl (fun K hK => ?_) AllReady.nil
      go_simp
      refine hK _ _ ?_
      clear hK K x0 x1 x2 x3 x4 f0 f1 f2 f3 f4
      have hst7 := ((((hst6.out.setCel 0 (.slice (some ⟨gE, 0, none⟩) N N)).setCel 1 (.slice (some ⟨gF, 0, none⟩) N N)).setCel 2 (.slice (some ⟨gW, 0, none⟩) N N)).setCel 3 (.slice (some ⟨gR, 0, none⟩) N N)).setCel 4 (.slice (some ⟨gM, 0, none⟩) N N)
      refine wpAny_done (by kernel_rfl) ?_ _
      generalize (((((W.setCell ⟨gB, 0, none⟩ (.slice (some ⟨gE, 0, none⟩) N N)).setCell ⟨gB, 1, none⟩ (.slice (some ⟨gF, 0, none⟩) N N)).setCell ⟨gB, 2, none⟩ (.slice (some ⟨gW, 0, none⟩) N N)).setCell ⟨gB, 3, none⟩ (.slice (some ⟨gR, 0, none⟩) N N)).setCell ⟨gB, 4, none⟩ (.slice (some ⟨gM, 0, none⟩) N N)) = W7 at *
      clear hst6
      have HST := Lib.hid hst7
      clear hst7
    all_goals
      have hst8 : St w W7 (aOwn 4 1 (.slice (some ⟨gR, 0, none⟩) N N) ((List.replicate N false).map Value.bool) :: aOwn 85 1 (.slice (some ⟨gW, 0, none⟩) N N) ((List.replicate N 0).map Fc.uV) :: aOwn 85 1 (.slice (some ⟨gF, 0, none⟩) N N) ((List.replicate N 0).map Fc.uV) :: aOwn 4 1 (.slice (some ⟨gM, 0, none⟩) N N) ((List.replicate N false).map Value.bool) :: aOwn 4 1 (.slice (some ⟨gE, 0, none⟩) N N) ((List.replicate N false).map Value.bool) :: aCel gB 88 #[.slice (some ⟨gE, 0, none⟩) N N, .slice (some ⟨gF, 0, none⟩) N N, .slice (some ⟨gW, 0, none⟩) N N, .slice (some ⟨gR, 0, none⟩) N N, .slice (some ⟨gM, 0, none⟩) N N] :: [aCel (w.heap.size + 1) 88 #[.slice none 0 0, .slice none 0 0, .slice none 0 0, .slice none 0 0, .slice none 0 0], aCel w.heap.size 68 #[.int .i64 t, .int .i64 N, vp]]) := by
        simp only [List.map_replicate]
        exact HST.out.pick [3, 2, 1, 4, 5, 0, 6, 7] 8 rfl rfl
      clear HST
      have HST := Lib.hid hst8
      obtain ⟨c1, c2⟩ := hst8.cellOwn (f := Value.bool) (fun _ => rfl) 0 (by simp; exact HN.out) false
      obtain ⟨x0, x1, x2, x3, x4⟩ := hst8.at5 5 rfl
      have hn0 : (0 : Int) < N := by have := HN.out; omega
      have hst9 := (hst8.setOwn (f := Value.bool) (fun _ => rfl) 0 true).get2
      have hst10 := (hst9.setOwn (f := Fc.uV) (fun _ => rfl) 0 9223372036854775808)
      obtain ⟨c3, c4⟩ := hst9.cellOwn (f := Fc.uV) (fun _ => rfl) 0 (by simp; exact HN.out) 0
      obtain ⟨y0, y1, y2, y3, y4⟩ := hst9.at5 5 rfl
      have HST := Lib.hid hst10
      clear hst8 hst9 hst10
      go_wp2
      clear c1 c2 c3 c4 x0 x1 x2 x3 x4 y0 y1 y2 y3 y4 hn0
      have hst11 := HST.out.pick (ρ := Fc.aB (.slice (some ⟨gR, 0, none⟩) N N) ((List.replicate N false).set 0 true) :: Fc.aB (.slice (some ⟨gM, 0, none⟩) N N) (List.replicate N false) :: Fc.aB (.slice (some ⟨gE, 0, none⟩) N N) (List.replicate N false) :: Fc.aU (.slice (some ⟨gF, 0, none⟩) N N) (List.replicate N 0) :: Fc.aU (.slice (some ⟨gW, 0, none⟩) N N) ((List.replicate N 0).set 0 9223372036854775808) :: aCel gB 88 #[.slice (some ⟨gE, 0, none⟩) N N, .slice (some ⟨gF, 0, none⟩) N N, .slice (some ⟨gW, 0, none⟩) N N, .slice (some ⟨gR, 0, none⟩) N N, .slice (some ⟨gM, 0, none⟩) N N] :: [aCel (w.heap.size + 1) 88 #[.slice none 0 0, .slice none 0 0, .slice none 0 0, .slice none 0 0, .slice none 0 0], aCel w.heap.size 68 #[.int .i64 t, .int .i64 N, vp]]) [1, 3, 4, 2, 0, 5, 6, 7] 8 rfl rfl
      clear HST
      have HST := Lib.hid hst11
      clear hst11
      go_loopg [34] (3 * N - Fc.cnt3 (List.replicate N false, List.replicate N false, (List.replicate N false).set 0 true)) (fun gk v wr => ∃ (E M R : List Bool), gk = 3 * N - Fc.cnt3 (E, M, R) ∧ Hid (Fc.Und l N E M R) ∧ St w wr (Fc.aB (.slice (some ⟨gR, 0, none⟩) N N) R :: Fc.aB (.slice (some ⟨gM, 0, none⟩) N N) M :: Fc.aB (.slice (some ⟨gE, 0, none⟩) N N) E :: Fc.aU (.slice (some ⟨gF, 0, none⟩) N N) (List.replicate N 0) :: Fc.aU (.slice (some ⟨gW, 0, none⟩) N N) ((List.replicate N 0).set 0 9223372036854775808) :: aCel gB 88 #[.slice (some ⟨gE, 0, none⟩) N N, .slice (some ⟨gF, 0, none⟩) N N, .slice (some ⟨gW, 0, none⟩) N N, .slice (some ⟨gR, 0, none⟩) N N, .slice (some ⟨gM, 0, none⟩) N N] :: [aCel (w.heap.size + 1) 88 #[.slice none 0 0, .slice none 0 0, .slice none 0 0, .slice none 0 0, .slice none 0 0], aCel w.heap.size 68 #[.int .i64 t, .int .i64 N, vp]]))
      case atStart => exact ⟨_, _, _, rfl, Lib.hid (Fc.Und.init HN.out), HST.out⟩
      case round =>
        clear HST
        obtain ⟨E, M, R, hgk, HU, hst⟩ := hrel
        have HGK := Lib.hid hgk
        have HST := Lib.hid hst
        clear hgk hst
        obtain ⟨x0, x1, x2, x3, x4⟩ := HST.out.at5 5 rfl
        obtain ⟨p0, p1, p2⟩ := HST.out.at3 7 rfl
        go_wp2_with (fail)
        go_at_call 104
        refine (fcRound_any w _ t N vp _ _ l N gE N N gM N N gR N N E M R _ F HP.out HL.out HOK.out HU.out.e HU.out.m HU.out.r rfl rfl rfl (hst := HST.out)).mono ?_
        rintro e w8 ⟨m, rfl, hpg, hst8⟩
        have HPG := Lib.hid hpg
        have HUN := Lib.hid HU.out.next
        have HST := Lib.hid hst8
        clear hpg hst8 x0 x1 x2 x3 x4 p0 p1 p2
        cases m
        · have he := HPG.out.1 rfl
          simp only [Prod.mk.injEq] at he
          obtain ⟨he1, he2, he3⟩ := he
          rw [he1, he2, he3] at HST
          have HE1 := Lib.hid he1; have HE2 := Lib.hid he2; have HE3 := Lib.hid he3
          clear he1 he2 he3
          obtain ⟨x0, x1, x2, x3, x4⟩ := HST.out.at5 5 rfl
          obtain ⟨p0, p1, p2⟩ := HST.out.at3 7 rfl
          have HST := Lib.hid (HST.out.pick (ρ := _ :: _ :: _ :: _ :: _ :: _ :: _ :: [_]) [3, 4, 1, 2, 0, 5, 6, 7] 8 rfl rfl)
          go_wp2_with (fail)
          go_at_call 105
          refine (fcSets_any w _ t N vp l N gE N N gF N N gW N N gM N N _ E M _ _ _ F HP.out HL.out HOK.out HU.out.e HU.out.m (by simp) (by simp) rfl rfl rfl rfl (fun i => by rw [Fc.getD_rep]; decide) (fun i => by rw [Fc.getD_rep0 HN.out]; split <;> decide) (hst := HST.out)).mono ?_
          rintro e w9 ⟨j, q, rfl, hF, hW, hst9⟩
          have HG := Lib.hid (Fc.Good.of HOK.out HN.out HU.out HE1.out HE2.out HE3.out hF hW)
          generalize Fc.iter (Fc.fol E (Fc.iter (Fc.rdF E M l) j (List.replicate N 0)) l) q ((List.replicate N 0).set 0 9223372036854775808) = Wf at *
          generalize Fc.iter (Fc.rdF E M l) j (List.replicate N 0) = Ff at *
          clear hF hW x0 x1 x2 x3 x4 p0 p1 p2 HST
          obtain ⟨x0, x1, x2, x3, x4⟩ := hst9.at5 5 rfl
          obtain ⟨y0, y1, y2, y3, y4⟩ := hst9.at5 6 rfl
          have HST := Lib.hid hst9
          have k0 := (hst9.nth 6 rfl).celFree 0
          have k1 := (hst9.nth 6 rfl).celFree 1
          have k2 := (hst9.nth 6 rfl).celFree 2
          have k3 := (hst9.nth 6 rfl).celFree 3
          have k4 := (hst9.nth 6 rfl).celFree 4
          clear hst9
          go_wp2
          have hst10 := (((((HST.out.pick [6, 0, 1, 2, 3, 4, 5, 7] 8 rfl rfl).setCel 0 (.slice (some ⟨gE, 0, none⟩) N N)).setCel 1 (.slice (some ⟨gF, 0, none⟩) N N)).setCel 2 (.slice (some ⟨gW, 0, none⟩) N N)).setCel 3 (.slice (some ⟨gR, 0, none⟩) N N)).setCel 4 (.slice (some ⟨gM, 0, none⟩) N N)
          generalize (((((w9.setCell ⟨w.heap.size + 1, 0, none⟩ (.slice (some ⟨gE, 0, none⟩) N N)).setCell ⟨w.heap.size + 1, 1, none⟩ (.slice (some ⟨gF, 0, none⟩) N N)).setCell ⟨w.heap.size + 1, 2, none⟩ (.slice (some ⟨gW, 0, none⟩) N N)).setCell ⟨w.heap.size + 1, 3, none⟩ (.slice (some ⟨gR, 0, none⟩) N N)).setCell ⟨w.heap.size + 1, 4, none⟩ (.slice (some ⟨gM, 0, none⟩) N N)) = W10 at *
          have hst11 := hst10.pick (ρ := [Fc.aB (.slice (some ⟨gE, 0, none⟩) N N) E, Fc.aU (.slice (some ⟨gF, 0, none⟩) N N) Ff, Fc.aU (.slice (some ⟨gW, 0, none⟩) N N) Wf, Fc.aB (.slice (some ⟨gR, 0, none⟩) N N) R, Fc.aB (.slice (some ⟨gM, 0, none⟩) N N) M]) [4, 1, 2, 5, 3] 8 rfl rfl
          obtain ⟨r0, r1, r2, r3, r4⟩ := hst10.at5 (v0 := .slice (some ⟨gE, 0, none⟩) N N) (v1 := .slice (some ⟨gF, 0, none⟩) N N) (v2 := .slice (some ⟨gW, 0, none⟩) N N) (v3 := .slice (some ⟨gR, 0, none⟩) N N) (v4 := .slice (some ⟨gM, 0, none⟩) N N) 0 rfl
          refine bodyPost_ret (v := .tuple #[.agg #[.slice (some ⟨gE, 0, none⟩) N N, .slice (some ⟨gF, 0, none⟩) N N, .slice (some ⟨gW, 0, none⟩) N N, .slice (some ⟨gR, 0, none⟩) N N, .slice (some ⟨gM, 0, none⟩) N N], .int .i64 0]) (by simp [results, Try.results42, go_sem, r0, r1, r2, r3, r4]) rfl ?_
          exact ⟨gE, gF, gW, gR, gM, E, Ff, Wf, R, M, rfl, HG, hst11⟩
        · have hlt := HPG.out.2 rfl
          have hU := HUN.out
          have hle := Fc.cnt3_le (s := (Fc.rdA false l E, Fc.rdA true l M, Fc.rdR l R)) hU.e hU.m hU.r
          have HLT := Lib.hid hlt; have HLE := Lib.hid hle
          clear hlt hle hU HPG
          go_wp2
          go_roundg (3 * N - Fc.cnt3 (Fc.rdA false l E, Fc.rdA true l M, Fc.rdR l R))
          case measure =>
            have h1 := HLT.out; have h2 := HLE.out; have h3 := HGK.out
            rw [h3]
            omega
          case rel => exact ⟨_, _, _, rfl, HUN, HST.out⟩
end Go.Proofs.Ytldapomcjfkeeaa
