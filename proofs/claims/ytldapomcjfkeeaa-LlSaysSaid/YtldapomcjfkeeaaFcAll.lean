/-
  AllFacts of the reference.
-/
import Derived.Test.YtldapomcjfkeeaaFcAllN
import Derived.Test.YtldapomcjfkeeaaFcRBeg
import Derived.Test.YtldapomcjfkeeaaFcEq
import Derived.Test.YtldapomcjfkeeaaMakes
import Derived.Laws.EntriesVeiled
namespace Go.Proofs.Ytldapomcjfkeeaa
set_option linter.unusedVariables false
set_option linter.unusedSimpArgs false
open Go.ChangeShapes Go.WideShapes Go.ChangeAt Go.RowKit

def RetFr (l : List Fc.Pr) (N : Nat) (w : World) (e : Ending) (w' : World) : Prop := ∃ gE gF gW gR gM E Fs W R M, e = .returned (.agg #[.slice (some ⟨gE, 0, none⟩) N N, .slice (some ⟨gF, 0, none⟩) N N, .slice (some ⟨gW, 0, none⟩) N N, .slice (some ⟨gR, 0, none⟩) N N, .slice (some ⟨gM, 0, none⟩) N N]) ∧ Hid (Fc.Good l N E Fs W R M) ∧
  St w w' [Fc.aB (.slice (some ⟨gE, 0, none⟩) N N) E, Fc.aU (.slice (some ⟨gF, 0, none⟩) N N) Fs, Fc.aU (.slice (some ⟨gW, 0, none⟩) N N) W, Fc.aB (.slice (some ⟨gR, 0, none⟩) N N) R, Fc.aB (.slice (some ⟨gM, 0, none⟩) N N) M]
def Fc.rks (N : Nat) : List Mk := [.make 1 20 N 4 (.bool false), .make 3 22 N 4 (.bool false), .make 5 24 N 4 (.bool false), .make 7 26 N 85 (.int .u64 0), .make 9 28 N 85 (.int .u64 0), .cel 11 4 88 #[.slice none 0 0, .slice none 0 0, .slice none 0 0, .slice none 0 0, .slice none 0 0]]
theorem Fc.callC {c : Nat} {fn : Func} (hf : Try.prog.funcs[c]? = some fn) (hn : (fn.name == "runtime.NumGoroutine") = false) (hb : fn.body.isNone = false) (args : Array Value) (W : World) : (callFunc c args).run Try.prog W = .ok (.enter c args) W := by
  have hn2 : ¬ fn.name = "runtime.NumGoroutine" := fun e => by rw [e] at hn; simp at hn
  have hb2 : ¬ fn.body = none := fun e => by rw [e] at hb; cases hb
  simp [callFunc, go_sem, hf, hn2, hb2]

def Fc.encU : Enc Nat := (Enc.int .u64).via (fun n : Nat => (n : Int))
theorem Fc.encU_of {F : Nat → Prop} {w : World} {n : Nat} (h : n < 2 ^ 64) : Fc.encU.R F w (Fc.uV n).cells.toList n := by
  refine ⟨rfl, ?_⟩
  simp [Lit.wf, IntKind.min, IntKind.max, IntKind.signed, IntKind.bits]
  omega
theorem Fc.mem_lt {W : List Nat} {K : Nat} (h : ∀ i, W.getD i 0 < K) : ∀ a ∈ W, a < K := fun a ha => by
  obtain ⟨i, hi, rfl⟩ := List.getElem_of_mem ha
  have := h i
  rw [List.getD_eq_getElem?_getD, List.getElem?_eq_getElem hi] at this
  exact this
theorem Fc.u64E : ET Try.prog 86 85 1 8 := ET.mk' Try.underlying86 (z := .int .u64 0) (by kernel_rfl) rfl (by decide)
/-- Two ways that meet. -/
theorem Fc.share {P A : Nat → Nat → Nat → Nat → Nat → Nat → World → Prop} {G : Prop} (h1 : (∀ a b c d e f W, A a b c d e f W → P a b c d e f W) → G) (h2 : ∀ a b c d e f W, A a b c d e f W → P a b c d e f W) : G := h1 h2

set_option maxRecDepth 100000 in
set_option maxHeartbeats 4000000 in
theorem fcRef_any (t n : Int) (vp : Value) (l : List Fc.Pr) (w : World) (F : Nat → Prop) (h : Enc.prods.R F w [vp] l) (he : Gr.err t n l = 0) :
    Calls Try.prog 45 #[.agg #[.int .i64 t, .int .i64 n, vp]] w (RetFr l n.toNat w) := by
  have hok := Fc.okP_of he
  obtain ⟨z1, z2, z3, z4, hl40, hz6⟩ := Gr.err_zero he
  obtain ⟨N, rfl⟩ := Int.eq_ofNat_of_zero_le (show 0 ≤ n by omega)
  obtain ⟨t, rfl⟩ := Int.eq_ofNat_of_zero_le z1
  rw [Int.toNat_natCast] at hok ⊢
  have hT : ∀ p ∈ l, ∀ x ∈ p.2, x.1 = 1 → x.2.toNat < t := fun p hp x hx h1 => by
    rcases Gr.right_iff.1 ((hz6 p hp).2.2.2 x hx) with ⟨-, a, b⟩ | ⟨a, -⟩ <;> omega
  have hN : 0 < N := by omega
  have hN20 : N ≤ 20 := by omega
  have hT30 : (t : Int) ≤ 30 := by omega
  have HT := Lib.hid hT
  have HP := Lib.hid h
  obtain ⟨ap, bp, op, cp, rfl, -, p3, p4⟩ := slProds h
  have P3 := Lib.hid p3; have P4 := Lib.hid p4
  have HOK := Lib.hid hok; have HL := Lib.hid hl40; have HN := Lib.hid hN; have HN20 := Lib.hid hN20
  clear h he hok hl40 hT p3 p4 hz6
  have HST := Lib.hid (((St.init w).alloc #[.int .i64 t, .int .i64 N, .slice ap l.length cp] 68).alloc #[.slice none 0 0, .slice none 0 0, .slice none 0 0, .slice none 0 0, .slice none 0 0] 88)
  simp only [World.size_alloc] at HST
  obtain ⟨g0, g1, g2⟩ := HST.out.at3 1 rfl
  go_enter Try.func45, Try.ntmps45
  go_wp2
  clear g0 g1 g2
  refine wp_region_any (by kernel_rfl) ?_
  have HSTD := Lib.hid HST.out.drew
  generalize hW1 : (w.alloc (.cells #[.int .i64 t, .int .i64 N, .slice ap l.length cp] 68)).alloc (.cells #[.slice none 0 0, .slice none 0 0, .slice none 0 0, .slice none 0 0, .slice none 0 0] 88) = w1 at *
  clear hW1
  change wpAny _ _ _ _ _ _ _ w1.drew
  refine wpAny_take (i := 0) (v := ?_) rfl (by kernel_rfl) (by kernel_rfl) (by kernel_rfl) (fun _ _ _ h => h) (Or.inl ⟨by rfl, ?_⟩) ?_
  rotate_left; focus (intro w; go_simp; try (with_reducible rfl); done)
  try simp only [List.getElem_toArray, List.getElem_cons_zero, List.getElem_cons_succ, Act.put, List.setIfInBounds_toArray, List.set_cons_zero, List.set_cons_succ]
  refine wpAny_take (i := 2) (v := ?_) rfl (by kernel_rfl) (by kernel_rfl) (by kernel_rfl) (fun _ _ _ h => h) (Or.inl ⟨by rfl, ?_⟩) ?_
  rotate_left; focus (intro w; go_simp; try (with_reducible rfl); done)
  try simp only [List.getElem_toArray, List.getElem_cons_zero, List.getElem_cons_succ, Act.put, List.setIfInBounds_toArray, List.set_cons_zero, List.set_cons_succ]
  refine wpAny_take (i := 4) (v := ?_) rfl (by kernel_rfl) (by kernel_rfl) (by kernel_rfl) (fun _ _ _ h => h) (Or.inl ⟨by rfl, ?_⟩) ?_
  rotate_left; focus (intro w; go_simp; try (with_reducible rfl); done)
  try simp only [List.getElem_toArray, List.getElem_cons_zero, List.getElem_cons_succ, Act.put, List.setIfInBounds_toArray, List.set_cons_zero, List.set_cons_succ]
  refine wpAny_take (i := 6) (v := ?_) rfl (by kernel_rfl) (by kernel_rfl) (by kernel_rfl) (fun _ _ _ h => h) (Or.inl ⟨by rfl, ?_⟩) ?_
  rotate_left; focus (intro w; go_simp; try (with_reducible rfl); done)
  try simp only [List.getElem_toArray, List.getElem_cons_zero, List.getElem_cons_succ, Act.put, List.setIfInBounds_toArray, List.set_cons_zero, List.set_cons_succ]
  refine wpAny_take (i := 8) (v := ?_) rfl (by kernel_rfl) (by kernel_rfl) (by kernel_rfl) (fun _ _ _ h => h) (Or.inl ⟨by rfl, ?_⟩) ?_
  rotate_left; focus (intro w; go_simp; try (with_reducible rfl); done)
  try simp only [List.getElem_toArray, List.getElem_cons_zero, List.getElem_cons_succ, Act.put, List.setIfInBounds_toArray, List.set_cons_zero, List.set_cons_succ]
  refine St.makes (w0 := w) (Fc.rks N) [[1, 3, 5, 7, 9], [1, 3, 5, 7, 9, 11]] 2 HSTD.out rfl (by kernel_rfl) (by kernel_rfl) (by kernel_rfl) ?_ ?_
  · intro m hm
    simp only [Fc.rks, List.mem_cons, List.not_mem_nil, or_false] at hm
    have h64 : (8 : Int) * N ≤ 140737488355328 := by have := HN20.out; omega
    have h1 : (1 : Int) * N ≤ 140737488355328 := by have := HN20.out; omega
    rcases hm with rfl | rfl | rfl | rfl | rfl | rfl
    · exact Mk.does_make rfl rfl rfl rfl Try.underlying54 (by kernel_rfl) rfl (by decide) h1 rfl rfl
    · exact Mk.does_make rfl rfl rfl rfl Try.underlying54 (by kernel_rfl) rfl (by decide) h1 rfl rfl
    · exact Mk.does_make rfl rfl rfl rfl Try.underlying54 (by kernel_rfl) rfl (by decide) h1 rfl rfl
    · exact Mk.does_make rfl rfl rfl rfl Try.underlying86 (by kernel_rfl) rfl (by decide) h64 rfl rfl
    · exact Mk.does_make rfl rfl rfl rfl Try.underlying86 (by kernel_rfl) rfl (by decide) h64 rfl rfl
    · exact Mk.does_cel rfl rfl rfl (fun b w => by kernel_rfl)
  refine Fc.share (P := ?PSh) (A := fun gE gM gR gF gW gB W => St w W (aCel gB 88 #[.slice (some ⟨gE, 0, none⟩) N N, .slice (some ⟨gF, 0, none⟩) N N, .slice (some ⟨gW, 0, none⟩) N N, .slice (some ⟨gR, 0, none⟩) N N, .slice (some ⟨gM, 0, none⟩) N N] :: aOwn 4 1 (.slice (some ⟨gE, 0, none⟩) N N) (List.replicate N (.bool false)) :: aOwn 4 1 (.slice (some ⟨gM, 0, none⟩) N N) (List.replicate N (.bool false)) :: aOwn 4 1 (.slice (some ⟨gR, 0, none⟩) N N) (List.replicate N (.bool false)) :: aOwn 85 1 (.slice (some ⟨gF, 0, none⟩) N N) (List.replicate N (.int .u64 0)) :: aOwn 85 1 (.slice (some ⟨gW, 0, none⟩) N N) (List.replicate N (.int .u64 0)) :: [aCel (w.heap.size + 1) 88 #[.slice none 0 0, .slice none 0 0, .slice none 0 0, .slice none 0 0, .slice none 0 0], aCel w.heap.size 68 #[.int .i64 t, .int .i64 N, .slice ap l.length cp]])) (fun REST => ?h1) ?h2
  case h1 =>
    intro js hjs k ds hds hk w5 hst5
    simp only [List.mem_cons, List.not_mem_nil, or_false] at hjs
    rcases hjs with rfl | rfl
    case' inl =>
      obtain ⟨gE, d1, rfl, h1⟩ := Mk.split (hds.trans rfl)
      obtain ⟨gM, d2, rfl, h2⟩ := Mk.split h1
      obtain ⟨gR, d3, rfl, h3⟩ := Mk.split h2
      obtain ⟨gF, d4, rfl, h4⟩ := Mk.split h3
      obtain ⟨gW, d5, rfl, h5⟩ := Mk.split h4
      obtain rfl := Mk.done h5
      obtain rfl : k = 1 := by simp [Fc.rks] at hk; omega
      clear hds h1 h2 h3 h4 h5 hk
      simp only [Mk.lst, Mk.puts, List.map_cons, List.map_nil, List.foldl_cons, List.foldl_nil, Mk.make, Mk.cel, Act.put, List.setIfInBounds_toArray, List.set_cons_zero, List.set_cons_succ]
      refine wpAny_take (i := 10) (v := ?_) rfl (by kernel_rfl) (by kernel_rfl) (by kernel_rfl) (fun _ _ _ h => h) (Or.inl ⟨by rfl, ?_⟩) ?_
      rotate_left; focus (intro w; go_simp; try (with_reducible rfl); done)
      try simp only [List.getElem_toArray, List.getElem_cons_zero, List.getElem_cons_succ, Act.put, List.setIfInBounds_toArray, List.set_cons_zero, List.set_cons_succ]
      refine wpAny_ready (rs := [11]) (by kernel_rfl) (by simp) ?_
      refine AllReady.cons rfl (fun K hK => ?_) AllReady.nil
      go_simp
      refine hK _ _ ?_
      clear hK K
      have hst6 := Lib.hid (hst5.alloc #[.slice none 0 0, .slice none 0 0, .slice none 0 0, .slice none 0 0, .slice none 0 0] 88)
      generalize w5.heap.size = gB at *
      generalize w5.alloc (.cells #[.slice none 0 0, .slice none 0 0, .slice none 0 0, .slice none 0 0, .slice none 0 0] 88) = W at *
      clear hst5
      obtain ⟨x0, x1, x2, x3, x4⟩ := hst6.out.at5 0 rfl
      have f0 := hst6.out.celFree 0
      have f1 := hst6.out.celFree 1
      have f2 := hst6.out.celFree 2
      have f3 := hst6.out.celFree 3
      have f4 := hst6.out.celFree 4
      refine wpAny_ready (rs := [12]) (by kernel_rfl) (by simp) ?_
      refine AllReady.cons rfl (fun K hK => ?_) AllReady.nil
      go_simp
      refine hK _ _ ?_
      clear hK K x0 x1 x2 x3 x4 f0 f1 f2 f3 f4
      have hst7 := ((((hst6.out.setCel 0 (.slice (some ⟨gE, 0, none⟩) N N)).setCel 1 (.slice (some ⟨gF, 0, none⟩) N N)).setCel 2 (.slice (some ⟨gW, 0, none⟩) N N)).setCel 3 (.slice (some ⟨gR, 0, none⟩) N N)).setCel 4 (.slice (some ⟨gM, 0, none⟩) N N)
      refine wpAny_done (by kernel_rfl) ?_ _
      generalize (((((W.setCell ⟨gB, 0, none⟩ (.slice (some ⟨gE, 0, none⟩) N N)).setCell ⟨gB, 1, none⟩ (.slice (some ⟨gF, 0, none⟩) N N)).setCell ⟨gB, 2, none⟩ (.slice (some ⟨gW, 0, none⟩) N N)).setCell ⟨gB, 3, none⟩ (.slice (some ⟨gR, 0, none⟩) N N)).setCell ⟨gB, 4, none⟩ (.slice (some ⟨gM, 0, none⟩) N N)) = W7 at *
      clear hst6
      exact REST gE gM gR gF gW gB W7 (hst7.pick (ρ := aCel gB 88 #[.slice (some ⟨gE, 0, none⟩) N N, .slice (some ⟨gF, 0, none⟩) N N, .slice (some ⟨gW, 0, none⟩) N N, .slice (some ⟨gR, 0, none⟩) N N, .slice (some ⟨gM, 0, none⟩) N N] :: aOwn 4 1 (.slice (some ⟨gE, 0, none⟩) N N) (List.replicate N (.bool false)) :: aOwn 4 1 (.slice (some ⟨gM, 0, none⟩) N N) (List.replicate N (.bool false)) :: aOwn 4 1 (.slice (some ⟨gR, 0, none⟩) N N) (List.replicate N (.bool false)) :: aOwn 85 1 (.slice (some ⟨gF, 0, none⟩) N N) (List.replicate N (.int .u64 0)) :: aOwn 85 1 (.slice (some ⟨gW, 0, none⟩) N N) (List.replicate N (.int .u64 0)) :: [aCel (w.heap.size + 1) 88 #[.slice none 0 0, .slice none 0 0, .slice none 0 0, .slice none 0 0, .slice none 0 0], aCel w.heap.size 68 #[.int .i64 t, .int .i64 N, .slice ap l.length cp]]) [0, 1, 2, 3, 4, 5, 6, 7] 8 rfl rfl)
    case' inr =>
      obtain ⟨gE, d1, rfl, h1⟩ := Mk.split (hds.trans rfl)
      obtain ⟨gM, d2, rfl, h2⟩ := Mk.split h1
      obtain ⟨gR, d3, rfl, h3⟩ := Mk.split h2
      obtain ⟨gF, d4, rfl, h4⟩ := Mk.split h3
      obtain ⟨gW, d5, rfl, h5⟩ := Mk.split h4
      obtain ⟨gB, d6, rfl, h6⟩ := Mk.split h5
      obtain rfl := Mk.done h6
      obtain rfl : k = 0 := by simp [Fc.rks] at hk; omega
      clear hds h1 h2 h3 h4 h5 h6 hk
      simp only [Mk.lst, Mk.puts, List.map_cons, List.map_nil, List.foldl_cons, List.foldl_nil, Mk.make, Mk.cel, Act.put, List.setIfInBounds_toArray, List.set_cons_zero, List.set_cons_succ]
      refine wpAny_take (i := 10) (v := ?_) rfl (by kernel_rfl) (by kernel_rfl) (by kernel_rfl) (fun _ _ _ h => h) (Or.inl ⟨by rfl, ?_⟩) ?_
      rotate_left; focus (intro w; go_simp; try (with_reducible rfl); done)
      try simp only [List.getElem_toArray, List.getElem_cons_zero, List.getElem_cons_succ, Act.put, List.setIfInBounds_toArray, List.set_cons_zero, List.set_cons_succ]
      have hst6 := Lib.hid (hst5.pick (ρ := aCel gB 88 #[.slice none 0 0, .slice none 0 0, .slice none 0 0, .slice none 0 0, .slice none 0 0] :: aOwn 4 1 (.slice (some ⟨gE, 0, none⟩) N N) (List.replicate N (.bool false)) :: aOwn 4 1 (.slice (some ⟨gM, 0, none⟩) N N) (List.replicate N (.bool false)) :: aOwn 4 1 (.slice (some ⟨gR, 0, none⟩) N N) (List.replicate N (.bool false)) :: aOwn 85 1 (.slice (some ⟨gF, 0, none⟩) N N) (List.replicate N (.int .u64 0)) :: aOwn 85 1 (.slice (some ⟨gW, 0, none⟩) N N) (List.replicate N (.int .u64 0)) :: [aCel (w.heap.size + 1) 88 #[.slice none 0 0, .slice none 0 0, .slice none 0 0, .slice none 0 0, .slice none 0 0], aCel w.heap.size 68 #[.int .i64 t, .int .i64 N, .slice ap l.length cp]]) [5, 0, 1, 2, 3, 4, 6, 7] 8 rfl rfl)
      generalize w5 = W at *
      clear hst5
      obtain ⟨x0, x1, x2, x3, x4⟩ := hst6.out.at5 0 rfl
      have f0 := hst6.out.celFree 0
      have f1 := hst6.out.celFree 1
      have f2 := hst6.out.celFree 2
      have f3 := hst6.out.celFree 3
      have f4 := hst6.out.celFree 4
      refine wpAny_ready (rs := [12]) (by kernel_rfl) (by simp) ?_
      refine AllReady.cons rfl (fun K hK => ?_) AllReady.nil
      go_simp
      refine hK _ _ ?_
      clear hK K x0 x1 x2 x3 x4 f0 f1 f2 f3 f4
      have hst7 := ((((hst6.out.setCel 0 (.slice (some ⟨gE, 0, none⟩) N N)).setCel 1 (.slice (some ⟨gF, 0, none⟩) N N)).setCel 2 (.slice (some ⟨gW, 0, none⟩) N N)).setCel 3 (.slice (some ⟨gR, 0, none⟩) N N)).setCel 4 (.slice (some ⟨gM, 0, none⟩) N N)
      refine wpAny_done (by kernel_rfl) ?_ _
      generalize (((((W.setCell ⟨gB, 0, none⟩ (.slice (some ⟨gE, 0, none⟩) N N)).setCell ⟨gB, 1, none⟩ (.slice (some ⟨gF, 0, none⟩) N N)).setCell ⟨gB, 2, none⟩ (.slice (some ⟨gW, 0, none⟩) N N)).setCell ⟨gB, 3, none⟩ (.slice (some ⟨gR, 0, none⟩) N N)).setCell ⟨gB, 4, none⟩ (.slice (some ⟨gM, 0, none⟩) N N)) = W7 at *
      clear hst6
      exact REST gE gM gR gF gW gB W7 hst7
  case h2 =>
    intro gE gM gR gF gW gB W7 hst7
    have HST := Lib.hid hst7
    clear hst7
    have hst8 : St w W7 [Fc.aB (.slice (some ⟨gE, 0, none⟩) N N) (List.replicate N false), Fc.aB (.slice (some ⟨gM, 0, none⟩) N N) (List.replicate N false), Fc.aB (.slice (some ⟨gR, 0, none⟩) N N) (List.replicate N false), Fc.aU (.slice (some ⟨gF, 0, none⟩) N N) (List.replicate N 0), Fc.aU (.slice (some ⟨gW, 0, none⟩) N N) (List.replicate N 0), aCel gB 88 #[.slice (some ⟨gE, 0, none⟩) N N, .slice (some ⟨gF, 0, none⟩) N N, .slice (some ⟨gW, 0, none⟩) N N, .slice (some ⟨gR, 0, none⟩) N N, .slice (some ⟨gM, 0, none⟩) N N], aCel (w.heap.size + 1) 88 #[.slice none 0 0, .slice none 0 0, .slice none 0 0, .slice none 0 0, .slice none 0 0], aCel w.heap.size 68 #[.int .i64 t, .int .i64 N, .slice ap l.length cp]] := by
      unfold Fc.aB Fc.aU
      simp only [List.map_replicate]
      exact HST.out.pick [1, 2, 3, 4, 5, 0, 6, 7] 8 rfl rfl
    clear HST HSTD
    have HST := Lib.hid hst8
    obtain ⟨x0, x1, x2, x3, x4⟩ := hst8.at5 5 rfl
    obtain ⟨g0, g1, g2⟩ := hst8.at3 7 rfl
    clear hst8
    go_wp2_with (fail)
    go_at_call 109
    refine (fcFix_any w _ t N _ l N 110 gE N N #[.pointer (some ⟨gB, 0, none⟩)] (Fc.holdA false) (List.replicate N false) [aCel gB 88 #[.slice (some ⟨gE, 0, none⟩) N N, .slice (some ⟨gF, 0, none⟩) N N, .slice (some ⟨gW, 0, none⟩) N N, .slice (some ⟨gR, 0, none⟩) N N, .slice (some ⟨gM, 0, none⟩) N N], Fc.aB (.slice (some ⟨gM, 0, none⟩) N N) (List.replicate N false), Fc.aB (.slice (some ⟨gR, 0, none⟩) N N) (List.replicate N false), Fc.aU (.slice (some ⟨gF, 0, none⟩) N N) (List.replicate N 0), Fc.aU (.slice (some ⟨gW, 0, none⟩) N N) (List.replicate N 0), aCel (w.heap.size + 1) 88 #[.slice none 0 0, .slice none 0 0, .slice none 0 0, .slice none 0 0, .slice none 0 0], aCel w.heap.size 68 #[.int .i64 t, .int .i64 N, .slice ap l.length cp]] F HP.out HL.out HOK.out (by simp) rfl (Fc.callC Try.func110 (by kernel_rfl) (by kernel_rfl)) (fun W Y A p vb hY hb hp hs => ?_) (HST.out.pick [0, 5, 1, 2, 3, 4, 6, 7] 8 rfl rfl)).mono ?_
    · refine (fcC1_any w W gB N N gE p.1 vb _ _ _ _ p.2 Y _ F (by rw [hY]) hb (fun x hx => ?_) (hs.pick [0, 2, 1] 3 rfl rfl)).mono ?_
      · rw [hY]
        rcases (HOK.out p hp).2.2 x hx with ⟨a, b, -⟩ | ⟨a, b, c⟩
        · exact .inl ⟨a, b⟩
        · exact .inr ⟨a, b, c⟩
      · rintro e w' ⟨rfl, hs'⟩
        exact ⟨rfl, hs'.pick [0, 2, 1] 3 rfl rfl⟩
    rintro e w9 ⟨E, rfl, hEl, hEf, hEq, hst9⟩
    have HE := Lib.hid (Fc.LA_fix HOK.out hEl hEf hEq)
    have HEl := Lib.hid hEl
    have hst10 := hst9.pick (ρ := [Fc.aB (.slice (some ⟨gE, 0, none⟩) N N) E, Fc.aB (.slice (some ⟨gM, 0, none⟩) N N) (List.replicate N false), Fc.aB (.slice (some ⟨gR, 0, none⟩) N N) (List.replicate N false), Fc.aU (.slice (some ⟨gF, 0, none⟩) N N) (List.replicate N 0), Fc.aU (.slice (some ⟨gW, 0, none⟩) N N) (List.replicate N 0), aCel gB 88 #[.slice (some ⟨gE, 0, none⟩) N N, .slice (some ⟨gF, 0, none⟩) N N, .slice (some ⟨gW, 0, none⟩) N N, .slice (some ⟨gR, 0, none⟩) N N, .slice (some ⟨gM, 0, none⟩) N N], aCel (w.heap.size + 1) 88 #[.slice none 0 0, .slice none 0 0, .slice none 0 0, .slice none 0 0, .slice none 0 0], aCel w.heap.size 68 #[.int .i64 t, .int .i64 N, .slice ap l.length cp]]) [0, 2, 3, 4, 5, 1, 6, 7] 8 rfl rfl
    have HST := Lib.hid hst10
    clear hst9 hEl hEf hEq x0 x1 x2 x3 x4 g0 g1 g2
    obtain ⟨x0, x1, x2, x3, x4⟩ := hst10.at5 5 rfl
    obtain ⟨g0, g1, g2⟩ := hst10.at3 7 rfl
    clear hst10
    have l0 := World.block_lt_of_cell? _ _ g0
    have l1 := World.block_lt_of_cell? _ _ x0
    have HST := Lib.hid (HST.out.alloc #[.func (.func 111) #[] #[.pointer (some ⟨gB, 0, none⟩)]] 200)
    have b5 := HST.out.celAt (i := 0) rfl
    go_wp2_with (fail)
    go_at_call 109
    generalize w9.heap.size = B5 at *
    refine (fcFix_any w _ t N _ l N 111 gM N N #[.pointer (some ⟨gB, 0, none⟩)] (Fc.holdA true) (List.replicate N false) [aCel gB 88 #[.slice (some ⟨gE, 0, none⟩) N N, .slice (some ⟨gF, 0, none⟩) N N, .slice (some ⟨gW, 0, none⟩) N N, .slice (some ⟨gR, 0, none⟩) N N, .slice (some ⟨gM, 0, none⟩) N N], Fc.aB (.slice (some ⟨gE, 0, none⟩) N N) E, Fc.aB (.slice (some ⟨gR, 0, none⟩) N N) (List.replicate N false), Fc.aU (.slice (some ⟨gF, 0, none⟩) N N) (List.replicate N 0), Fc.aU (.slice (some ⟨gW, 0, none⟩) N N) (List.replicate N 0), aCel (w.heap.size + 1) 88 #[.slice none 0 0, .slice none 0 0, .slice none 0 0, .slice none 0 0, .slice none 0 0], aCel w.heap.size 68 #[.int .i64 t, .int .i64 N, .slice ap l.length cp], aCel B5 200 #[.func (.func 111) #[] #[.pointer (some ⟨gB, 0, none⟩)]]] F HP.out HL.out HOK.out (by simp) rfl (Fc.callC Try.func111 (by kernel_rfl) (by kernel_rfl)) (fun W Y A p vb hY hb hp hs => ?_) (HST.out.pick [2, 6, 1, 3, 4, 5, 7, 8, 0] 9 rfl rfl)).mono ?_
    · refine (fcC2_any w W gB N N gM p.1 vb _ _ _ _ p.2 Y _ F (by rw [hY]) hb (fun x hx => ?_) (hs.pick [0, 2, 1] 3 rfl rfl)).mono ?_
      · rw [hY]
        rcases (HOK.out p hp).2.2 x hx with ⟨a, b, -⟩ | ⟨a, b, c⟩
        · exact .inl ⟨a, b⟩
        · exact .inr ⟨a, b, c⟩
      · rintro e w' ⟨rfl, hs'⟩
        exact ⟨rfl, hs'.pick [0, 2, 1] 3 rfl rfl⟩
    rintro e w10 ⟨M, rfl, hMl, hMf, hMq, hst11⟩
    have HM := Lib.hid (Fc.LA_fix HOK.out hMl hMf hMq)
    have HMl := Lib.hid hMl
    have hst12 := hst11.pick (ρ := [Fc.aB (.slice (some ⟨gE, 0, none⟩) N N) E, Fc.aB (.slice (some ⟨gM, 0, none⟩) N N) M, Fc.aB (.slice (some ⟨gR, 0, none⟩) N N) (List.replicate N false), Fc.aU (.slice (some ⟨gF, 0, none⟩) N N) (List.replicate N 0), Fc.aU (.slice (some ⟨gW, 0, none⟩) N N) (List.replicate N 0), aCel gB 88 #[.slice (some ⟨gE, 0, none⟩) N N, .slice (some ⟨gF, 0, none⟩) N N, .slice (some ⟨gW, 0, none⟩) N N, .slice (some ⟨gR, 0, none⟩) N N, .slice (some ⟨gM, 0, none⟩) N N], aCel (w.heap.size + 1) 88 #[.slice none 0 0, .slice none 0 0, .slice none 0 0, .slice none 0 0, .slice none 0 0], aCel w.heap.size 68 #[.int .i64 t, .int .i64 N, .slice ap l.length cp], aCel B5 200 #[.func (.func 111) #[] #[.pointer (some ⟨gB, 0, none⟩)]]]) [2, 0, 3, 4, 5, 1, 6, 7, 8] 9 rfl rfl
    clear hst11 hMl hMf hMq x0 x1 x2 x3 x4 g0 g1 g2 l0 l1 b5 HST
    have HST := Lib.hid hst12
    obtain ⟨x0, x1, x2, x3, x4⟩ := hst12.at5 5 rfl
    obtain ⟨g0, g1, g2⟩ := hst12.at3 7 rfl
    have hst13 := (show St w w10 (aOwn 4 1 (.slice (some ⟨gR, 0, none⟩) N N) ((List.replicate N false).map Value.bool) :: _) from hst12.pick [2, 0, 1, 3, 4, 5, 6, 7, 8] 9 rfl rfl)
    obtain ⟨c1, c2⟩ := hst13.cellOwn (f := Value.bool) (fun _ => rfl) 0 (by simp; exact HN.out) false
    have hst14 := (hst13.setOwn (f := Value.bool) (fun _ => rfl) 0 true).pick (ρ := [Fc.aB (.slice (some ⟨gE, 0, none⟩) N N) E, Fc.aB (.slice (some ⟨gM, 0, none⟩) N N) M, Fc.aB (.slice (some ⟨gR, 0, none⟩) N N) ((List.replicate N false).set 0 true), Fc.aU (.slice (some ⟨gF, 0, none⟩) N N) (List.replicate N 0), Fc.aU (.slice (some ⟨gW, 0, none⟩) N N) (List.replicate N 0), aCel gB 88 #[.slice (some ⟨gE, 0, none⟩) N N, .slice (some ⟨gF, 0, none⟩) N N, .slice (some ⟨gW, 0, none⟩) N N, .slice (some ⟨gR, 0, none⟩) N N, .slice (some ⟨gM, 0, none⟩) N N], aCel (w.heap.size + 1) 88 #[.slice none 0 0, .slice none 0 0, .slice none 0 0, .slice none 0 0, .slice none 0 0], aCel w.heap.size 68 #[.int .i64 t, .int .i64 N, .slice ap l.length cp], aCel B5 200 #[.func (.func 111) #[] #[.pointer (some ⟨gB, 0, none⟩)]]]) [1, 2, 0, 3, 4, 5, 6, 7, 8] 9 rfl rfl
    have HST := Lib.hid hst14
    have hn0 : (0 : Int) < N := by have := HN.out; omega
    clear hst12 hst13 hst14
    go_wp2
    clear x0 x1 x2 x3 x4 g0 g1 g2 c1 c2 hn0
    go_loopg [6] N (fun gk v wr => ∃ (k : Nat) (R : List Bool), k ≤ N ∧ gk = N - k ∧ v = .int .i64 k ∧ Hid (Fc.Rch l N k R) ∧ St w wr [Fc.aB (.slice (some ⟨gE, 0, none⟩) N N) E, Fc.aB (.slice (some ⟨gM, 0, none⟩) N N) M, Fc.aB (.slice (some ⟨gR, 0, none⟩) N N) R, Fc.aU (.slice (some ⟨gF, 0, none⟩) N N) (List.replicate N 0), Fc.aU (.slice (some ⟨gW, 0, none⟩) N N) (List.replicate N 0), aCel gB 88 #[.slice (some ⟨gE, 0, none⟩) N N, .slice (some ⟨gF, 0, none⟩) N N, .slice (some ⟨gW, 0, none⟩) N N, .slice (some ⟨gR, 0, none⟩) N N, .slice (some ⟨gM, 0, none⟩) N N], aCel (w.heap.size + 1) 88 #[.slice none 0 0, .slice none 0 0, .slice none 0 0, .slice none 0 0, .slice none 0 0], aCel w.heap.size 68 #[.int .i64 t, .int .i64 N, .slice ap l.length cp], aCel B5 200 #[.func (.func 111) #[] #[.pointer (some ⟨gB, 0, none⟩)]]])
    case atStart => exact ⟨0, _, by omega, by omega, rfl, Lib.hid (Fc.Rch.init HN.out), HST.out⟩
    case round =>
      clear HST
      obtain ⟨k, R, hk, hgk, rfl, HR, hst⟩ := hrel
      have HGK := Lib.hid hgk
      clear hgk
      have hN20 : (N : Int) ≤ 20 := by have := HN20.out; omega
      have HST := Lib.hid hst
      clear hst
      rename World => wo
      by_cases hlt : k < N
      · go_wp2
        go_loopg [7] l.length (fun gk2 v wr2 => ∃ i : Nat, i ≤ l.length ∧ gk2 = l.length - i ∧ v = .int .i64 i ∧ St w wr2 [Fc.aB (.slice (some ⟨gE, 0, none⟩) N N) E, Fc.aB (.slice (some ⟨gM, 0, none⟩) N N) M, Fc.aB (.slice (some ⟨gR, 0, none⟩) N N) (Fc.rdR (l.take i) R), Fc.aU (.slice (some ⟨gF, 0, none⟩) N N) (List.replicate N 0), Fc.aU (.slice (some ⟨gW, 0, none⟩) N N) (List.replicate N 0), aCel gB 88 #[.slice (some ⟨gE, 0, none⟩) N N, .slice (some ⟨gF, 0, none⟩) N N, .slice (some ⟨gW, 0, none⟩) N N, .slice (some ⟨gR, 0, none⟩) N N, .slice (some ⟨gM, 0, none⟩) N N], aCel (w.heap.size + 1) 88 #[.slice none 0 0, .slice none 0 0, .slice none 0 0, .slice none 0 0, .slice none 0 0], aCel w.heap.size 68 #[.int .i64 t, .int .i64 N, .slice ap l.length cp], aCel B5 200 #[.func (.func 111) #[] #[.pointer (some ⟨gB, 0, none⟩)]]])
        case atStart => exact ⟨0, by omega, by omega, rfl, HST.out⟩
        case round =>
          clear HST
          obtain ⟨i, hi, hgi, rfl, hst⟩ := hrel
          have HGI := Lib.hid hgi
          clear hgi
          obtain ⟨g0, g1, g2⟩ := hst.at3 7 rfl
          by_cases hlt2 : i < l.length
          · have hsR := Fc.rdR_step (X := R) hlt2
            have hlR := Fc.rdR_len (l := l.take i) (X := R)
            rw [HR.out.len] at hlR
            obtain ⟨rfl, _, _⟩ := P3.out (by omega)
            obtain ⟨vb, s1, s2, hbody, -⟩ := P4.out i hlt2
            have hokp := HOK.out (l.getD i (0, [])) (by rw [show l.getD i (0, []) = l[i] by simp [List.getD, List.getElem?_eq_getElem hlt2]]; exact List.getElem_mem hlt2)
            generalize l.getD i (0, []) = p at *
            obtain ⟨h0, body⟩ := p
            simp only at s1 s2 hbody hsR
            have hpb := hokp.2.2
            obtain ⟨hp0, hp1, -⟩ := hokp
            simp only at hp0 hp1 hpb
            obtain ⟨h, rfl⟩ := Int.eq_ofNat_of_zero_le hp0
            rw [Int.toNat_natCast] at hsR
            have HSR := Lib.hid hsR; have HPB := Lib.hid hpb; have HLR := Lib.hid hlR
            generalize Fc.rdR (l.take i) R = Ri at *
            have hlt3 : (i : Int) < l.length := by omega
            have hi40 : (i : Int) < 40 := by have := HL.out; omega
            obtain ⟨ab, bb, ob, cb, rfl, hbl, b3, b4⟩ := slTwo hbody
            have B3 := Lib.hid b3; have B4 := Lib.hid b4; have S1 := Lib.hid s1; have S2 := Lib.hid s2
            have hbl2 : (body.length : Int) ≤ 140737488355328 := by omega
            have HST := Lib.hid hst
            clear hst hsR hbody hpb hp0 hbl b3 b4 hlR s1 s2
            go_wp2
            clear g0 g1 g2
            go_loopg [8] body.length (fun gk3 v wr3 => ∃ j : Nat, j ≤ body.length ∧ gk3 = body.length - j ∧ v = .int .i64 j ∧ St w wr3 [Fc.aB (.slice (some ⟨gE, 0, none⟩) N N) E, Fc.aB (.slice (some ⟨gM, 0, none⟩) N N) M, Fc.aB (.slice (some ⟨gR, 0, none⟩) N N) (Fc.rR h (body.take j) Ri), Fc.aU (.slice (some ⟨gF, 0, none⟩) N N) (List.replicate N 0), Fc.aU (.slice (some ⟨gW, 0, none⟩) N N) (List.replicate N 0), aCel gB 88 #[.slice (some ⟨gE, 0, none⟩) N N, .slice (some ⟨gF, 0, none⟩) N N, .slice (some ⟨gW, 0, none⟩) N N, .slice (some ⟨gR, 0, none⟩) N N, .slice (some ⟨gM, 0, none⟩) N N], aCel (w.heap.size + 1) 88 #[.slice none 0 0, .slice none 0 0, .slice none 0 0, .slice none 0 0, .slice none 0 0], aCel w.heap.size 68 #[.int .i64 t, .int .i64 N, .slice (some ⟨bp, op, none⟩) l.length cp], aCel B5 200 #[.func (.func 111) #[] #[.pointer (some ⟨gB, 0, none⟩)]]])
            case atStart => exact ⟨0, by omega, by omega, rfl, HST.out⟩
            case round =>
              clear HST
              obtain ⟨j, hj, hgj, rfl, hst⟩ := hrel
              have HGJ := Lib.hid hgj
              clear hgj
              obtain ⟨g0, g1, g2⟩ := hst.at3 7 rfl
              have p0 := bkeep hst.bel S1.out
              have p1 := bkeep hst.bel S2.out
              by_cases hlt4 : j < body.length
              · obtain ⟨rfl, _, _⟩ := B3.out (by omega)
                obtain ⟨s1, s2, -, -⟩ := B4.out j hlt4
                have hxx := HPB.out (body.getD j (0, 0)) (by rw [show body.getD j (0, 0) = body[j] by simp [List.getD, List.getElem?_eq_getElem hlt4]]; exact List.getElem_mem hlt4)
                have hrs := Fc.rR_step (h := h) (R := Ri) hlt4
                have hlR := Fc.rR_len (h := h) (b := body.take j) (R := Ri)
                rw [HLR.out] at hlR
                generalize body.getD j (0, 0) = x at *
                generalize Fc.rR h (body.take j) Ri = Rj at *
                obtain ⟨x1, x2⟩ := x
                simp only at s1 s2 hxx hrs
                have c1 := bkeep hst.bel s1
                have c2 := bkeep hst.bel s2
                have hlt5 : (j : Int) < body.length := by omega
                have l0 := World.block_lt_of_cell? _ _ c1
                have l1 := World.block_lt_of_cell? _ _ g0
                obtain ⟨-, -, -, x3, -⟩ := hst.at5 5 rfl
                have l2 := World.block_lt_of_cell? _ _ x3
                have l3 := World.block_lt_of_cell? _ _ p0
                rcases hxx with ⟨rfl, h0, -⟩ | ⟨rfl, h0, h1⟩
                · rw [if_neg (by decide)] at hrs
                  have HRS := Lib.hid hrs
                  have HST := Lib.hid (hst.skip (.cells #[.int .i64 1, .int .i64 x2] 96))
                  clear s1 s2 hst hrs hlR
                  go_wp2
                  go_quiet (fail)
                  go_wp2
                  go_roundg (body.length - (j + 1))
                  case measure => have := HGJ.out; omega
                  case rel => exact ⟨j + 1, by omega, rfl, by go_num, by rw [HRS.out]; exact HST.out.drewN _⟩
                · obtain ⟨q, rfl⟩ := Int.eq_ofNat_of_zero_le h0
                  rw [if_pos rfl, Int.toNat_natCast] at hrs
                  have hq : q < Rj.length := by omega
                  have hh : h < Rj.length := by omega
                  have hhn : (h : Int) < N := by omega
                  have hqn : (q : Int) < N := by omega
                  have hstR := (show St w wr (aOwn 4 1 (.slice (some ⟨gR, 0, none⟩) N N) (Rj.map Value.bool) :: _) from hst.pick [2, 0, 1, 3, 4, 5, 6, 7, 8] 9 rfl rfl)
                  have r1 := (hstR.cellOwn (f := Value.bool) (fun _ => rfl) h hh false).1
                  have l4 := World.block_lt_of_cell? _ _ r1
                  obtain ⟨b, hb⟩ : ∃ b, Rj.getD h false = b := ⟨_, rfl⟩
                  rw [hb] at hrs r1
                  have HSTR := Lib.hid (hstR.skip (.cells #[.int .i64 2, .int .i64 q] 96))
                  have HRS := Lib.hid hrs
                  have HQ := Lib.hid hq
                  clear s1 s2 hst hrs hlR hb hq hh
                  cases b
                  · go_wp2
                    go_quiet (fail)
                    go_wp2
                    go_roundg (body.length - (j + 1))
                    case measure => have := HGJ.out; omega
                    case rel => exact ⟨j + 1, by omega, rfl, by go_num, by rw [HRS.out, Fc.set1_no]; exact (HSTR.out.drewN _).pick [1, 2, 0, 3, 4, 5, 6, 7, 8] 9 rfl rfl⟩
                  · go_wp2
                    go_quiet (fail)
                    have hst2 := HSTR.out.drewN nq
                    have k1 := hst2.cellOwn (f := Value.bool) (fun _ => rfl) q HQ.out false
                    have hst3 := (hst2.setOwn (f := Value.bool) (fun _ => rfl) q true).pick (ρ := [Fc.aB (.slice (some ⟨gE, 0, none⟩) N N) E, Fc.aB (.slice (some ⟨gM, 0, none⟩) N N) M, Fc.aB (.slice (some ⟨gR, 0, none⟩) N N) (Rj.set q true), Fc.aU (.slice (some ⟨gF, 0, none⟩) N N) (List.replicate N 0), Fc.aU (.slice (some ⟨gW, 0, none⟩) N N) (List.replicate N 0), aCel gB 88 #[.slice (some ⟨gE, 0, none⟩) N N, .slice (some ⟨gF, 0, none⟩) N N, .slice (some ⟨gW, 0, none⟩) N N, .slice (some ⟨gR, 0, none⟩) N N, .slice (some ⟨gM, 0, none⟩) N N], aCel (w.heap.size + 1) 88 #[.slice none 0 0, .slice none 0 0, .slice none 0 0, .slice none 0 0, .slice none 0 0], aCel w.heap.size 68 #[.int .i64 t, .int .i64 N, .slice (some ⟨bp, op, none⟩) l.length cp], aCel B5 200 #[.func (.func 111) #[] #[.pointer (some ⟨gB, 0, none⟩)]]]) [1, 2, 0, 3, 4, 5, 6, 7, 8] 9 rfl rfl
                    have HST3 := Lib.hid hst3
                    obtain ⟨k1, k2⟩ := k1
                    clear hst2 hst3
                    go_wp2
                    go_roundg (body.length - (j + 1))
                    case measure => have := HGJ.out; omega
                    case rel => exact ⟨j + 1, by omega, rfl, by go_num, by rw [HRS.out, show Fc.set1 Rj q true = Rj.set q true by simp [Fc.set1]]; exact HST3.out⟩
              · obtain rfl : j = body.length := by omega
                rw [List.take_length] at hst
                have HST := Lib.hid hst
                clear hst
                go_wp2
                go_roundg (l.length - (i + 1))
                case measure => have := HGI.out; omega
                case rel => exact ⟨i + 1, by omega, rfl, by go_num, by rw [HSR.out]; exact HST.out⟩
          · obtain rfl : i = l.length := by omega
            rw [List.take_length] at hst
            have HST := Lib.hid hst
            clear hst
            go_wp2
            go_roundg (N - (k + 1))
            case measure => have := HGK.out; omega
            case rel => exact ⟨k + 1, _, by omega, rfl, by go_num, Lib.hid HR.out.next, HST.out⟩
      · obtain rfl : N = k := by omega
        have HLRR := Lib.hid (Fc.LR_of HR.out.len HR.out.r0 (Fc.okP_body HOK.out) HR.out.le HR.out.done)
        have HRL := Lib.hid HR.out.len
        have HST := Lib.hid (HST.out.alloc #[.int .i64 0] 3)
        clear HR
        go_wp2
        generalize wo.heap.size = gT at *
        go_loopg [10] t (fun gk v wr => ∃ (u g : Nat) (Fk : List Nat), u ≤ t ∧ gk = t - u ∧ v = .pointer (some ⟨g, 0, none⟩) ∧ Hid (Fc.Upt l N E M u Fk) ∧ St w wr (aCel g 3 #[.int .i64 u] :: [Fc.aB (.slice (some ⟨gE, 0, none⟩) N N) E, Fc.aB (.slice (some ⟨gM, 0, none⟩) N N) M, Fc.aB (.slice (some ⟨gR, 0, none⟩) N N) R, Fc.aU (.slice (some ⟨gF, 0, none⟩) N N) Fk, Fc.aU (.slice (some ⟨gW, 0, none⟩) N N) (List.replicate N 0), aCel gB 88 #[.slice (some ⟨gE, 0, none⟩) N N, .slice (some ⟨gF, 0, none⟩) N N, .slice (some ⟨gW, 0, none⟩) N N, .slice (some ⟨gR, 0, none⟩) N N, .slice (some ⟨gM, 0, none⟩) N N], aCel (w.heap.size + 1) 88 #[.slice none 0 0, .slice none 0 0, .slice none 0 0, .slice none 0 0, .slice none 0 0], aCel w.heap.size 68 #[.int .i64 t, .int .i64 N, .slice ap l.length cp], aCel B5 200 #[.func (.func 111) #[] #[.pointer (some ⟨gB, 0, none⟩)]]]))
        case atStart => exact ⟨0, gT, _, by omega, by omega, rfl, Lib.hid Fc.Upt.init, HST.out⟩
        case round =>
          clear HST
          obtain ⟨u, gu, Fk, hu, hgu, rfl, HUP, hst⟩ := hrel
          have HGU := Lib.hid hgu
          clear hgu
          have HST := Lib.hid hst
          obtain ⟨g0, g1, g2⟩ := hst.at3 8 rfl
          have t0 := hst.celAt (i := 0) rfl
          clear hst
          rename World => wq
          by_cases hlu : u < t
          · have hlu2 : (u : Int) < t := by omega
            go_wp2_with (refine St.make rfl (.tmp 102) rfl Try.underlying54 (z := .bool false) (bytes := 1) (by kernel_rfl) rfl HST.out N rfl (by omega) (by decide) ?_; intro gS wS hstS; clear g0 g1 g2 t0; obtain ⟨g0, g1, g2⟩ := hstS.at3 9 rfl; have l0 := World.block_lt_of_cell? _ _ g0; have t5 := (hstS.nth 10 rfl).celAt (i := 0) rfl)
            go_at_call 109
            have hst2 := (hstS.alloc #[(.slice (some ⟨gS, 0, none⟩) N N)] 54).pick (ρ := aOwn 4 1 (.slice (some ⟨gS, 0, none⟩) N N) (List.replicate N (.bool false)) :: [aCel B5 200 #[.func (.func 111) #[] #[.pointer (some ⟨gB, 0, none⟩)]], aCel gu 3 #[.int .i64 u], aCel wS.heap.size 54 #[(.slice (some ⟨gS, 0, none⟩) N N)], aCel gB 88 #[.slice (some ⟨gE, 0, none⟩) N N, .slice (some ⟨gF, 0, none⟩) N N, .slice (some ⟨gW, 0, none⟩) N N, .slice (some ⟨gR, 0, none⟩) N N, .slice (some ⟨gM, 0, none⟩) N N], Fc.aB (.slice (some ⟨gE, 0, none⟩) N N) E, Fc.aB (.slice (some ⟨gM, 0, none⟩) N N) M, Fc.aB (.slice (some ⟨gR, 0, none⟩) N N) R, Fc.aU (.slice (some ⟨gF, 0, none⟩) N N) Fk, Fc.aU (.slice (some ⟨gW, 0, none⟩) N N) (List.replicate N 0), aCel (w.heap.size + 1) 88 #[.slice none 0 0, .slice none 0 0, .slice none 0 0, .slice none 0 0, .slice none 0 0], aCel w.heap.size 68 #[.int .i64 t, .int .i64 N, .slice ap l.length cp]]) [1, 11, 2, 0, 8, 3, 4, 5, 6, 7, 9, 10] 12 rfl rfl
            clear hstS g0 g1 g2 l0 t5
            generalize wS.heap.size = gG at *
            generalize wS.alloc (.cells #[(.slice (some ⟨gS, 0, none⟩) N N)] 54) = wT at *
            have hst3 : St w wT (Fc.aB (.slice (some ⟨gS, 0, none⟩) N N) (List.replicate N false) :: [aCel B5 200 #[.func (.func 111) #[] #[.pointer (some ⟨gB, 0, none⟩)]], aCel gu 3 #[.int .i64 u], aCel gG 54 #[(.slice (some ⟨gS, 0, none⟩) N N)], aCel gB 88 #[.slice (some ⟨gE, 0, none⟩) N N, .slice (some ⟨gF, 0, none⟩) N N, .slice (some ⟨gW, 0, none⟩) N N, .slice (some ⟨gR, 0, none⟩) N N, .slice (some ⟨gM, 0, none⟩) N N], Fc.aB (.slice (some ⟨gE, 0, none⟩) N N) E, Fc.aB (.slice (some ⟨gM, 0, none⟩) N N) M, Fc.aB (.slice (some ⟨gR, 0, none⟩) N N) R, Fc.aU (.slice (some ⟨gF, 0, none⟩) N N) Fk, Fc.aU (.slice (some ⟨gW, 0, none⟩) N N) (List.replicate N 0), aCel (w.heap.size + 1) 88 #[.slice none 0 0, .slice none 0 0, .slice none 0 0, .slice none 0 0, .slice none 0 0], aCel w.heap.size 68 #[.int .i64 t, .int .i64 N, .slice ap l.length cp]]) := by
              have e : Fc.aB (.slice (some ⟨gS, 0, none⟩) N N) (List.replicate N false) = aOwn 4 1 (.slice (some ⟨gS, 0, none⟩) N N) (List.replicate N (.bool false)) := by unfold Fc.aB; rw [List.map_replicate]
              rw [e]; exact hst2
            refine (fcFix_any w _ t N _ l N 112 gS N N #[.pointer (some ⟨B5, 0, none⟩), .pointer (some ⟨gu, 0, none⟩), .pointer (some ⟨gG, 0, none⟩), .pointer (some ⟨gB, 0, none⟩)] (Fc.holdF E M u) (List.replicate N false) [aCel B5 200 #[.func (.func 111) #[] #[.pointer (some ⟨gB, 0, none⟩)]], aCel gu 3 #[.int .i64 u], aCel gG 54 #[(.slice (some ⟨gS, 0, none⟩) N N)], aCel gB 88 #[.slice (some ⟨gE, 0, none⟩) N N, .slice (some ⟨gF, 0, none⟩) N N, .slice (some ⟨gW, 0, none⟩) N N, .slice (some ⟨gR, 0, none⟩) N N, .slice (some ⟨gM, 0, none⟩) N N], Fc.aB (.slice (some ⟨gE, 0, none⟩) N N) E, Fc.aB (.slice (some ⟨gM, 0, none⟩) N N) M, Fc.aB (.slice (some ⟨gR, 0, none⟩) N N) R, Fc.aU (.slice (some ⟨gF, 0, none⟩) N N) Fk, Fc.aU (.slice (some ⟨gW, 0, none⟩) N N) (List.replicate N 0), aCel (w.heap.size + 1) 88 #[.slice none 0 0, .slice none 0 0, .slice none 0 0, .slice none 0 0, .slice none 0 0], aCel w.heap.size 68 #[.int .i64 t, .int .i64 N, .slice ap l.length cp]] F HP.out HL.out HOK.out (by simp) rfl (Fc.callC Try.func112 (by kernel_rfl) (by kernel_rfl)) (fun W Y A p vb hY hb hp hs => ?_) hst3).mono ?_
            · refine (fcC3_any w W gB B5 gu gG N N gE N N gM N N gS u p.1 vb _ _ _ p.2 E M Y _ F (by rw [HEl.out]) (by rw [HMl.out]) (by rw [hY]) (by rw [HEl.out, HMl.out]) (by rw [hY, HEl.out]) hb (fun x hx => ?_) (hs.pick [0, 2, 3, 4, 5, 6, 7, 1] 8 rfl rfl)).mono ?_
              · rw [HEl.out]
                rcases (HOK.out p hp).2.2 x hx with ⟨a, b, -⟩ | ⟨a, b, c⟩
                · exact .inl ⟨a, b⟩
                · exact .inr ⟨a, b, c⟩
              · rintro e w' ⟨rfl, hs'⟩
                exact ⟨rfl, hs'.pick [0, 7, 1, 2, 3, 4, 5, 6] 8 rfl rfl⟩
            rintro e wU ⟨S, rfl, hSl, hSf, hSq, hst4⟩
            have HLT := Lib.hid (Fc.LT_fix HOK.out hSl hSf hSq)
            have HSl := Lib.hid hSl
            have HST := Lib.hid hst4
            clear hst2 hst3 hst4 hSl hSf hSq
            go_wp2
            go_loopg [12] N (fun gk2 v wr2 => ∃ i : Nat, i ≤ N ∧ gk2 = N - i ∧ v = .int .i64 i ∧ St w wr2 [Fc.aU (.slice (some ⟨gF, 0, none⟩) N N) (Fc.orK (2 ^ u) S Fk i), Fc.aB (.slice (some ⟨gS, 0, none⟩) N N) S, aCel gu 3 #[.int .i64 u], aCel gG 54 #[(.slice (some ⟨gS, 0, none⟩) N N)], aCel gB 88 #[.slice (some ⟨gE, 0, none⟩) N N, .slice (some ⟨gF, 0, none⟩) N N, .slice (some ⟨gW, 0, none⟩) N N, .slice (some ⟨gR, 0, none⟩) N N, .slice (some ⟨gM, 0, none⟩) N N], aCel B5 200 #[.func (.func 111) #[] #[.pointer (some ⟨gB, 0, none⟩)]], Fc.aB (.slice (some ⟨gE, 0, none⟩) N N) E, Fc.aB (.slice (some ⟨gM, 0, none⟩) N N) M, Fc.aB (.slice (some ⟨gR, 0, none⟩) N N) R, Fc.aU (.slice (some ⟨gW, 0, none⟩) N N) (List.replicate N 0), aCel (w.heap.size + 1) 88 #[.slice none 0 0, .slice none 0 0, .slice none 0 0, .slice none 0 0, .slice none 0 0], aCel w.heap.size 68 #[.int .i64 t, .int .i64 N, .slice ap l.length cp]])
            case atStart => exact ⟨0, by omega, by omega, rfl, HST.out.pick [8, 0, 2, 3, 4, 1, 5, 6, 7, 9, 10, 11] 12 rfl rfl⟩
            case round =>
              clear HST
              obtain ⟨i, hi, hgi, rfl, hst⟩ := hrel
              have HGI := Lib.hid hgi
              clear hgi
              by_cases hlt2 : i < N
              · have hlt3 : (i : Int) < N := by omega
                have hS := (show St w wr (aOwn 4 1 (.slice (some ⟨gS, 0, none⟩) N N) (S.map Value.bool) :: _) from hst.nth 1 rfl)
                have s1 := (hS.cellOwn (f := Value.bool) (fun _ => rfl) i (by rw [HSl.out]; exact hlt2) false).1
                have q1 := (hst.nth 3 rfl).celAt (i := 0) rfl
                have hor : Fc.orK (2 ^ u) S Fk (i + 1) = if S.getD i false = true then Fc.up (Fc.orK (2 ^ u) S Fk i) i (2 ^ u) else Fc.orK (2 ^ u) S Fk i := rfl
                have hol := Fc.orK_len (b := 2 ^ u) (S := S) (F := Fk) (k := i)
                have hog := Fc.orK_get (b := 2 ^ u) (S := S) (F := Fk) (k := i) (by rw [HUP.out.len]; omega) i
                rw [if_neg (by omega)] at hog
                rw [HUP.out.len] at hol
                have hfb : (Fc.orK (2 ^ u) S Fk i).getD i 0 < 18446744073709551616 := by
                  rw [hog]
                  exact Nat.lt_trans (HUP.out.lt i) (Nat.pow_lt_pow_right (a := 2) (m := u) (n := 64) (by decide) (by omega))
                generalize Fc.orK (2 ^ u) S Fk i = Fi at *
                have HOR := Lib.hid hor; have HOL := Lib.hid hol; have HFB := Lib.hid hfb
                cases hv : S.getD i false
                · rw [hv] at s1
                  have HV := Lib.hid hv
                  have HST := Lib.hid hst
                  clear hst hS hor hol hog hfb hv
                  go_wp2
                  go_roundg (N - (i + 1))
                  case measure => have := HGI.out; omega
                  case rel => exact ⟨i + 1, by omega, rfl, by go_num, by rw [HOR.out, if_neg (by rw [HV.out]; simp)]; exact HST.out⟩
                · rw [hv] at s1
                  have HV := Lib.hid hv
                  obtain ⟨f1, f2⟩ := (show St w wr.drew (aOwn 85 1 (.slice (some ⟨gF, 0, none⟩) N N) (Fi.map Fc.uV) :: _) from hst.drew).cellOwn (f := Fc.uV) (fun _ => rfl) i (by rw [hol]; exact hlt2) 0
                  have hst2 := (show St w wr.drew (aOwn 85 1 (.slice (some ⟨gF, 0, none⟩) N N) (Fi.map Fc.uV) :: _) from hst.drew).setOwn (f := Fc.uV) (fun _ => rfl) i (Fi.getD i 0 ||| 2 ^ u)
                  have hpow : 2 ^ u < 18446744073709551616 := Nat.pow_lt_pow_right (a := 2) (m := u) (n := 64) (by decide) (by omega)
                  have hbo := bits_or_u64_nat (Fi.getD i 0) (2 ^ u) hfb hpow
                  have hsh : IntKind.u64.wrap ((2 : Int) ^ u) = ((2 ^ u : Nat) : Int) := by
                    have e : ((2 : Int) ^ u) = ((2 ^ u : Nat) : Int) := by simp
                    rw [e, IntKind.wrap_u64]
                    exact Int.emod_eq_of_lt (Int.natCast_nonneg _) (Int.ofNat_lt.2 hpow)
                  rw [← hsh] at hbo
                  have hup : Fc.up Fi i (2 ^ u) = Fi.set i (Fi.getD i 0 ||| 2 ^ u) := rfl
                  rw [hv, if_pos rfl, hup] at hor
                  have HOR2 := Lib.hid hor
                  generalize (Fi.getD i 0 ||| 2 ^ u : Nat) = z at *
                  generalize Fi.getD i 0 = y at *
                  replace f1 : World.cell? wr.drew ⟨gF, i, none⟩ = some (.int .u64 (y : Int)) := f1
                  have HBO := Lib.hid hbo
                  have HST2 := Lib.hid hst2
                  obtain ⟨-, x1, -, -, -⟩ := hst.at5 4 rfl
                  have u1 := (hst.nth 2 rfl).celAt (i := 0) rfl
                  have HST := Lib.hid hst
                  clear hst hS hor hol hog hfb hv hst2 hpow hsh hup hbo HOR
                  go_wp2
                  have hst3 : St w (wr.drew.setCell ⟨gF, i, none⟩ (.int .u64 (bits .or .u64 (y : Int) (IntKind.u64.wrap ((2 : Int) ^ u))))) [Fc.aU (.slice (some ⟨gF, 0, none⟩) N N) (Fi.set i z), Fc.aB (.slice (some ⟨gS, 0, none⟩) N N) S, aCel gu 3 #[.int .i64 u], aCel gG 54 #[(.slice (some ⟨gS, 0, none⟩) N N)], aCel gB 88 #[.slice (some ⟨gE, 0, none⟩) N N, .slice (some ⟨gF, 0, none⟩) N N, .slice (some ⟨gW, 0, none⟩) N N, .slice (some ⟨gR, 0, none⟩) N N, .slice (some ⟨gM, 0, none⟩) N N], aCel B5 200 #[.func (.func 111) #[] #[.pointer (some ⟨gB, 0, none⟩)]], Fc.aB (.slice (some ⟨gE, 0, none⟩) N N) E, Fc.aB (.slice (some ⟨gM, 0, none⟩) N N) M, Fc.aB (.slice (some ⟨gR, 0, none⟩) N N) R, Fc.aU (.slice (some ⟨gW, 0, none⟩) N N) (List.replicate N 0), aCel (w.heap.size + 1) 88 #[.slice none 0 0, .slice none 0 0, .slice none 0 0, .slice none 0 0, .slice none 0 0], aCel w.heap.size 68 #[.int .i64 t, .int .i64 N, .slice ap l.length cp]] := by rw [HBO.out]; exact HST2.out
                  obtain ⟨-, x1s, -, -, -⟩ := hst3.at5 4 rfl
                  have u1s := (hst3.nth 2 rfl).celAt (i := 0) rfl
                  have HST3 := Lib.hid hst3
                  clear hst3 HST2
                  refine wp_region_held_drew (S := (fun w' => w'.cell? ⟨gB, 1, none⟩ = some (.slice (some ⟨gF, 0, none⟩) N N) ∧ w'.cell? ⟨gu, 0, none⟩ = some (.int .i64 u))) (by kernel_rfl) ?_ (fun hHeld => ?_)
                  · (try dsimp only); (first | exact ⟨x1, u1⟩ | exact ⟨x1s, u1s⟩ | go_keep)

                  refine wpAnyH_take (i := 0) (v := ?_) rfl (by kernel_rfl) (by kernel_rfl) (by kernel_rfl) (fun _ _ _ h => h) (Or.inl ⟨by rfl, ?_⟩) (by assumption) ?_
                  rotate_left; focus (intro w hSw; (try dsimp only at hSw); go_simp; try (with_reducible rfl); done)
                  try simp only [List.getElem_toArray, List.getElem_cons_zero, List.getElem_cons_succ, Act.put, List.setIfInBounds_toArray, List.set_cons_zero, List.set_cons_succ]
                  refine wpAnyH_take (i := 1) (v := ?_) rfl (by kernel_rfl) (by kernel_rfl) (by kernel_rfl) (fun _ _ _ h => h) (Or.inl ⟨by rfl, ?_⟩) (by assumption) ?_
                  rotate_left; focus (intro w hSw; (try dsimp only at hSw); go_simp; try (with_reducible rfl); done)
                  try simp only [List.getElem_toArray, List.getElem_cons_zero, List.getElem_cons_succ, Act.put, List.setIfInBounds_toArray, List.set_cons_zero, List.set_cons_succ]
                  refine wpAnyH_take (i := 2) (v := ?_) rfl (by kernel_rfl) (by kernel_rfl) (by kernel_rfl) (fun _ _ _ h => h) (Or.inl ⟨by rfl, ?_⟩) (by assumption) ?_
                  rotate_left; focus (intro w hSw; (try dsimp only at hSw); go_simp; try (with_reducible rfl); done)
                  try simp only [List.getElem_toArray, List.getElem_cons_zero, List.getElem_cons_succ, Act.put, List.setIfInBounds_toArray, List.set_cons_zero, List.set_cons_succ]
                  refine wpAnyH_take (i := 3) (v := ?_) rfl (by kernel_rfl) (by kernel_rfl) (by kernel_rfl) (fun _ _ _ h => h) (Or.inl ⟨by rfl, ?_⟩) (by assumption) ?_
                  rotate_left; focus (intro w hSw; (try dsimp only at hSw); go_simp; try (with_reducible rfl); done)
                  try simp only [List.getElem_toArray, List.getElem_cons_zero, List.getElem_cons_succ, Act.put, List.setIfInBounds_toArray, List.set_cons_zero, List.set_cons_succ]
                  refine wpAnyH_take (i := 5) (v := ?_) rfl (by kernel_rfl) (by kernel_rfl) (by kernel_rfl) (fun _ _ _ h => h) (Or.inl ⟨by rfl, ?_⟩) (by assumption) ?_
                  rotate_left; focus (intro w hSw; (try dsimp only at hSw); go_simp; try (with_reducible rfl); done)
                  try simp only [List.getElem_toArray, List.getElem_cons_zero, List.getElem_cons_succ, Act.put, List.setIfInBounds_toArray, List.set_cons_zero, List.set_cons_succ]
                  refine wpAnyH_take (i := 6) (v := ?_) rfl (by kernel_rfl) (by kernel_rfl) (by kernel_rfl) (fun _ _ _ h => h) (Or.inl ⟨by rfl, ?_⟩) (by assumption) ?_
                  rotate_left; focus (intro w hSw; (try dsimp only at hSw); go_simp; try (with_reducible rfl); done)
                  try simp only [List.getElem_toArray, List.getElem_cons_zero, List.getElem_cons_succ, Act.put, List.setIfInBounds_toArray, List.set_cons_zero, List.set_cons_succ]
                  refine wpAnyH_ready (rs := [4]) (by kernel_rfl) (by simp) ?_
                  refine AllReadyH.cons rfl (fun K hK => ?_) AllReadyH.nil
                  go_simp
                  refine hK.out _ _ ?_ (fun hHeld => ?_)
                  · (try dsimp only); (first | exact ⟨x1, u1⟩ | exact ⟨x1s, u1s⟩ | go_keep)
                  clear hK K
                  try simp only [List.getElem_toArray, List.getElem_cons_zero, List.getElem_cons_succ, Act.put, List.setIfInBounds_toArray, List.set_cons_zero, List.set_cons_succ]
                  refine wpAnyH_take (i := 7) (v := ?_) rfl (by kernel_rfl) (by kernel_rfl) (by kernel_rfl) (fun _ _ _ h => h) (Or.inl ⟨by rfl, ?_⟩) (by assumption) ?_
                  rotate_left; focus (intro w hSw; (try dsimp only at hSw); go_simp; try (with_reducible rfl); done)
                  try simp only [List.getElem_toArray, List.getElem_cons_zero, List.getElem_cons_succ, Act.put, List.setIfInBounds_toArray, List.set_cons_zero, List.set_cons_succ]
                  refine wpAnyH_take (i := 8) (v := ?_) rfl (by kernel_rfl) (by kernel_rfl) (by kernel_rfl) (fun _ _ _ h => h) (Or.inl ⟨by rfl, ?_⟩) (by assumption) ?_
                  rotate_left; focus (intro w hSw; (try dsimp only at hSw); go_simp; try (with_reducible rfl); done)
                  try simp only [List.getElem_toArray, List.getElem_cons_zero, List.getElem_cons_succ, Act.put, List.setIfInBounds_toArray, List.set_cons_zero, List.set_cons_succ]
                  refine wpAnyH_ready (rs := [9]) (by kernel_rfl) (by simp) ?_
                  refine AllReadyH.cons rfl (fun K hK => ?_) AllReadyH.nil
                  go_simp
                  refine hK.out _ _ ?_ (fun hHeld => ?_)
                  · (try dsimp only); (first | exact ⟨x1, u1⟩ | exact ⟨x1s, u1s⟩ | go_keep)
                  clear hK K
                  try simp only [List.getElem_toArray, List.getElem_cons_zero, List.getElem_cons_succ, Act.put, List.setIfInBounds_toArray, List.set_cons_zero, List.set_cons_succ]
                  refine wpAnyH_done (by kernel_rfl) ?_ _
                  clear f1 f2 x1 u1 x1s u1s
                  go_wp2
                  go_roundg (N - (i + 1))
                  case measure => have := HGI.out; omega
                  case rel => exact ⟨i + 1, by omega, rfl, by go_num, by rw [HOR2.out]; exact HST3.out⟩
              · obtain rfl : N = i := by omega
                have HST := Lib.hid ((hst.alloc #[.int .i64 ((u : Int) + 1)] 3).pick (ρ := [aCel wr.heap.size 3 #[.int .i64 ((u : Int) + 1)], Fc.aB (.slice (some ⟨gE, 0, none⟩) N N) E, Fc.aB (.slice (some ⟨gM, 0, none⟩) N N) M, Fc.aB (.slice (some ⟨gR, 0, none⟩) N N) R, Fc.aU (.slice (some ⟨gF, 0, none⟩) N N) (Fc.orK (2 ^ u) S Fk N), Fc.aU (.slice (some ⟨gW, 0, none⟩) N N) (List.replicate N 0), aCel gB 88 #[.slice (some ⟨gE, 0, none⟩) N N, .slice (some ⟨gF, 0, none⟩) N N, .slice (some ⟨gW, 0, none⟩) N N, .slice (some ⟨gR, 0, none⟩) N N, .slice (some ⟨gM, 0, none⟩) N N], aCel (w.heap.size + 1) 88 #[.slice none 0 0, .slice none 0 0, .slice none 0 0, .slice none 0 0, .slice none 0 0], aCel w.heap.size 68 #[.int .i64 t, .int .i64 N, .slice ap l.length cp], aCel B5 200 #[.func (.func 111) #[] #[.pointer (some ⟨gB, 0, none⟩)]]]) [0, 7, 8, 9, 1, 10, 5, 11, 12, 6] 13 rfl rfl)
                have u1 := (hst.nth 2 rfl).celAt (i := 0) rfl
                have HUP2 := Lib.hid (HUP.out.next HSl.out HLT.out)
                clear hst
                go_wp2
                go_roundg (t - (u + 1))
                case measure => have := HGU.out; omega
                case rel => exact ⟨u + 1, _, _, by omega, rfl, rfl, HUP2, HST.out⟩
          · obtain rfl : t = u := by omega
            have HLF := Lib.hid (HUP.out.done HT.out)
            have HFl := Lib.hid HUP.out.len
            have HFb := Lib.hid (fun i => Nat.lt_trans (HUP.out.lt i) (Nat.pow_lt_pow_right (a := 2) (m := t) (n := 64) (by decide) (by omega)))
            have hst := HST.out.pick (ρ := [Fc.aU (.slice (some ⟨gW, 0, none⟩) N N) (List.replicate N 0), Fc.aB (.slice (some ⟨gE, 0, none⟩) N N) E, Fc.aU (.slice (some ⟨gF, 0, none⟩) N N) Fk, Fc.aB (.slice (some ⟨gM, 0, none⟩) N N) M, Fc.aB (.slice (some ⟨gR, 0, none⟩) N N) R, aCel gB 88 #[.slice (some ⟨gE, 0, none⟩) N N, .slice (some ⟨gF, 0, none⟩) N N, .slice (some ⟨gW, 0, none⟩) N N, .slice (some ⟨gR, 0, none⟩) N N, .slice (some ⟨gM, 0, none⟩) N N], aCel (w.heap.size + 1) 88 #[.slice none 0 0, .slice none 0 0, .slice none 0 0, .slice none 0 0, .slice none 0 0], aCel w.heap.size 68 #[.int .i64 t, .int .i64 N, .slice ap l.length cp]]) [5, 1, 4, 2, 3, 6, 7, 8] 10 rfl rfl
            have hstU := (show St w wq (aOwn 85 1 (.slice (some ⟨gW, 0, none⟩) N N) ((List.replicate N 0).map Fc.uV) :: _) from hst)
            obtain ⟨f1, f2⟩ := hstU.cellOwn (f := Fc.uV) (fun _ => rfl) 0 (by simp; exact HN.out) 0
            obtain ⟨x0, x1, x2, x3, x4⟩ := hst.at5 5 rfl
            have hst2 := (hstU.setOwn (f := Fc.uV) (fun _ => rfl) 0 9223372036854775808)
            have hst3 : St w (wq.setCell ⟨gW, 0, none⟩ (.int .u64 9223372036854775808)) [Fc.aU (.slice (some ⟨gW, 0, none⟩) N N) ((List.replicate N 0).set 0 9223372036854775808), Fc.aB (.slice (some ⟨gE, 0, none⟩) N N) E, Fc.aU (.slice (some ⟨gF, 0, none⟩) N N) Fk, Fc.aB (.slice (some ⟨gM, 0, none⟩) N N) M, Fc.aB (.slice (some ⟨gR, 0, none⟩) N N) R, aCel gB 88 #[.slice (some ⟨gE, 0, none⟩) N N, .slice (some ⟨gF, 0, none⟩) N N, .slice (some ⟨gW, 0, none⟩) N N, .slice (some ⟨gR, 0, none⟩) N N, .slice (some ⟨gM, 0, none⟩) N N], aCel (w.heap.size + 1) 88 #[.slice none 0 0, .slice none 0 0, .slice none 0 0, .slice none 0 0, .slice none 0 0], aCel w.heap.size 68 #[.int .i64 t, .int .i64 N, .slice ap l.length cp]] := hst2
            have HST := Lib.hid (hst3.nilOwn 85 1)
            have hn0 : (0 : Int) < N := by have := HN.out; omega
            clear HUP hst hstU hst2 hst3
            go_wp2
            clear f1 f2 x0 x1 x2 x3 x4 hn0 g0 g1 g2 t0
            go_loopg [13] (Fc.room (2 ^ 64) ((List.replicate N 0).set 0 9223372036854775808) + 1) (fun gk v wr => ∃ (vw : Value) (was W : List Nat), vw = v ∧ Hid ((∃ q, W = Fc.iter (Fc.fol E Fk l) q ((List.replicate N 0).set 0 9223372036854775808)) ∧ (was = W → Fc.fol E Fk l W = W) ∧ ((was = [] ∧ gk = Fc.room (2 ^ 64) W + 1) ∨ (W = Fc.fol E Fk l was ∧ was.length = N ∧ (∀ i, was.getD i 0 < 2 ^ 64) ∧ gk = Fc.room (2 ^ 64) was))) ∧ Hid (W.length = N ∧ (∀ i, W.getD i 0 < 2 ^ 64) ∧ was.length ≤ N) ∧ St w wr [Fc.aU vw was, Fc.aU (.slice (some ⟨gW, 0, none⟩) N N) W, Fc.aB (.slice (some ⟨gE, 0, none⟩) N N) E, Fc.aU (.slice (some ⟨gF, 0, none⟩) N N) Fk, Fc.aB (.slice (some ⟨gM, 0, none⟩) N N) M, Fc.aB (.slice (some ⟨gR, 0, none⟩) N N) R, aCel gB 88 #[.slice (some ⟨gE, 0, none⟩) N N, .slice (some ⟨gF, 0, none⟩) N N, .slice (some ⟨gW, 0, none⟩) N N, .slice (some ⟨gR, 0, none⟩) N N, .slice (some ⟨gM, 0, none⟩) N N], aCel (w.heap.size + 1) 88 #[.slice none 0 0, .slice none 0 0, .slice none 0 0, .slice none 0 0, .slice none 0 0], aCel w.heap.size 68 #[.int .i64 t, .int .i64 N, .slice ap l.length cp]])
            case atStart => exact ⟨_, [], ((List.replicate N 0).set 0 9223372036854775808), rfl, Lib.hid ⟨⟨0, rfl⟩, (fun h => by have := congrArg List.length h; simp at this; have := HN.out; omega), .inl ⟨rfl, rfl⟩⟩, Lib.hid ⟨by simp, (fun i => by rw [Fc.getD_rep0 HN.out]; split <;> decide), by simp⟩, HST.out⟩
            case round =>
              clear HST
              rename World => wp
              obtain ⟨vw, was, Wk, rfl, HA, HB, hst⟩ := hrel
              have hr1 := (show Own wp 0 85 1 vw (was.map Fc.uV) from hst.ok _ (.head _)).row1 (fun _ => rfl) 0 (by have := HB.out.2.2; have := HN20.out; omega)
              have hr2 := (show Own wp 0 85 1 (.slice (some ⟨gW, 0, none⟩) N N) (Wk.map Fc.uV) from hst.ok _ (.tail _ (.head _))).row1 (fun _ => rfl) 0 (by have := HB.out.1; have := HN20.out; omega)
              obtain ⟨x0, x1, x2, x3, x4⟩ := hst.at5 6 rfl
              have HEQ := Lib.hid (eqU64 wp hr1 hr2)
              have HST := Lib.hid hst
              clear hst hr1 hr2
              obtain ⟨R', hR'⟩ : ∃ R', decide (was = Wk) = R' := ⟨_, rfl⟩
              rw [hR'] at HEQ
              have HR' := Lib.hid hR'
              clear hR'
              go_wp2_with (fail)
              go_at_call 108
              refine HEQ.out.mono ?_
              rintro e wX ⟨rfl, hbX⟩
              have HST := Lib.hid (HST.out.call hbX)
              clear hbX x0 x1 x2 x3 x4 HEQ
              obtain ⟨x0, x1, x2, x3, x4⟩ := HST.out.at5 6 rfl
              cases R'
              · have hlt2 := HA.out.2.2
                have hne : was ≠ Wk := of_decide_eq_false HR'.out
                obtain ⟨hrl, hrm⟩ := Fc.fol_room (E := E) HFb.out HOK.out (W := Wk) HB.out.1 HB.out.2.1
                have hmeas : Fc.room (2 ^ 64) Wk < gk := by
                  rcases hlt2 with ⟨-, h⟩ | ⟨h1, h2, h3, h4⟩
                  · omega
                  · obtain ⟨-, h5⟩ := Fc.fol_room (E := E) HFb.out HOK.out (W := was) h2 h3
                    rw [← h1] at h5
                    rw [h4]; exact h5 (fun e => hne e.symm)
                have HME := Lib.hid hmeas
                have hencW : (Fc.encU.sl 8).R (fun b => b ∈ (Value.slice (some ⟨gW, 0, none⟩) N N).ownBlock.toList) wX [(.slice (some ⟨gW, 0, none⟩) N N)] Wk := Own.enc (f := Fc.uV) (HST.out.ok _ (.tail _ (.head _))) rfl (fun a ha => Fc.encU_of (Fc.mem_lt HB.out.2.1 a ha)) (fun b hb => hb) (by have := HB.out.1; have := HN20.out; omega)
                have hroom : ((([] : List Value).length + Wk.length : Nat) : Int) * (8 : Nat) ≤ 140737488355328 := by have := HB.out.1; have := HN20.out; simp only [List.length_nil]; omega
                have hroom2 : ((([] : List Value).length + Wk.length : Nat) : Int) ≤ 140737488355328 := by have := HB.out.1; have := HN20.out; simp only [List.length_nil]; omega
                have hstn := HST.out.drop.nilOwn 85 1
                clear hlt2 hne hrl hrm hmeas HST
                go_wp2_with (refine St.appSl Fc.u64E rfl (.const (.slice none 0 0)) (.tmp 136) rfl rfl hstn (En := Fc.encU) rfl hencW rfl Fc.uV (fun _ _ _ h => h.1) (fun a q hq => by simp [Fc.uV, Value.cells] at hq; subst hq; rfl) hroom hroom2 ?_; intro vw2 wY hst2; clear hstn hencW x0 x1 x2 x3 x4)
                have HST := Lib.hid (show St w wY [Fc.aU vw2 Wk, Fc.aU (.slice (some ⟨gW, 0, none⟩) N N) Wk, Fc.aB (.slice (some ⟨gE, 0, none⟩) N N) E, Fc.aU (.slice (some ⟨gF, 0, none⟩) N N) Fk, Fc.aB (.slice (some ⟨gM, 0, none⟩) N N) M, Fc.aB (.slice (some ⟨gR, 0, none⟩) N N) R, aCel gB 88 #[.slice (some ⟨gE, 0, none⟩) N N, .slice (some ⟨gF, 0, none⟩) N N, .slice (some ⟨gW, 0, none⟩) N N, .slice (some ⟨gR, 0, none⟩) N N, .slice (some ⟨gM, 0, none⟩) N N], aCel (w.heap.size + 1) 88 #[.slice none 0 0, .slice none 0 0, .slice none 0 0, .slice none 0 0, .slice none 0 0], aCel w.heap.size 68 #[.int .i64 t, .int .i64 N, .slice ap l.length cp]] from hst2)
                clear hst2 hroom hroom2
                go_loopg [14] l.length (fun gk2 v wr2 => ∃ (i : Nat) (Wi : List Nat), i ≤ l.length ∧ gk2 = l.length - i ∧ v = .int .i64 i ∧ Hid (Wi = Fc.fol E Fk (l.take i) Wk) ∧ Hid (Wi.length = N ∧ (∀ j, Wi.getD j 0 < 2 ^ 64)) ∧ St w wr2 [Fc.aU vw2 Wk, Fc.aU (.slice (some ⟨gW, 0, none⟩) N N) Wi, Fc.aB (.slice (some ⟨gE, 0, none⟩) N N) E, Fc.aU (.slice (some ⟨gF, 0, none⟩) N N) Fk, Fc.aB (.slice (some ⟨gM, 0, none⟩) N N) M, Fc.aB (.slice (some ⟨gR, 0, none⟩) N N) R, aCel gB 88 #[.slice (some ⟨gE, 0, none⟩) N N, .slice (some ⟨gF, 0, none⟩) N N, .slice (some ⟨gW, 0, none⟩) N N, .slice (some ⟨gR, 0, none⟩) N N, .slice (some ⟨gM, 0, none⟩) N N], aCel (w.heap.size + 1) 88 #[.slice none 0 0, .slice none 0 0, .slice none 0 0, .slice none 0 0, .slice none 0 0], aCel w.heap.size 68 #[.int .i64 t, .int .i64 N, .slice ap l.length cp]])
                case atStart => exact ⟨0, Wk, by omega, by omega, rfl, Lib.hid rfl, Lib.hid ⟨HB.out.1, HB.out.2.1⟩, HST.out⟩
                case round =>
                  clear HST
                  obtain ⟨i, Wi, hi, hgi, rfl, HWI, HLB, hst⟩ := hrel
                  have HGI := Lib.hid hgi
                  clear hgi
                  obtain ⟨g0, g1, g2⟩ := hst.at3 8 rfl
                  by_cases hlt2 : i < l.length
                  · have hsF := Fc.fol_step (E := E) (F := Fk) (X := Wk) hlt2
                    rw [← HWI.out] at hsF
                    obtain ⟨rfl, _, _⟩ := P3.out (by omega)
                    obtain ⟨vb, s1, s2, hbody, -⟩ := P4.out i hlt2
                    have hokp := HOK.out (l.getD i (0, [])) (by rw [show l.getD i (0, []) = l[i] by simp [List.getD, List.getElem?_eq_getElem hlt2]]; exact List.getElem_mem hlt2)
                    generalize l.getD i (0, []) = p at *
                    obtain ⟨h0, body⟩ := p
                    simp only at s1 s2 hbody hsF
                    have hpb := hokp.2.2
                    obtain ⟨hp0, hp1, -⟩ := hokp
                    simp only at hp0 hp1 hpb
                    obtain ⟨h, rfl⟩ := Int.eq_ofNat_of_zero_le hp0
                    rw [Int.toNat_natCast] at hsF
                    have HSF := Lib.hid hsF; have HBODY := Lib.hid hbody; have HPB := Lib.hid hpb
                    have hlt3 : (i : Int) < l.length := by omega
                    have hi40 : (i : Int) < 40 := by have := HL.out; omega
                    have s1 := bkeep hst.bel s1
                    have s2 := bkeep hst.bel s2
                    obtain ⟨ab, bb, ob, cb, rfl, hbl, b3, b4⟩ := slTwo hbody
                    have B3 := Lib.hid b3; have B4 := Lib.hid b4
                    have hbl2 : (body.length : Int) ≤ 140737488355328 := by omega
                    have HST := Lib.hid (hst.alloc #[.int .i64 h, .slice ab body.length cb] 186)
                    clear hst hsF hbody hpb hp0 hbl b3 b4
                    rename World => wz
                    go_wp2
                    clear g0 g1 g2 s1 s2
                    go_loopg [16] body.length (fun gk3 v wr3 => ∃ (d : Nat) (Wd : List Nat), d ≤ body.length ∧ gk3 = body.length - d ∧ v = .int .i64 d ∧ Hid (Wd.length = N ∧ (∀ j, Wd.getD j 0 < 2 ^ 64)) ∧ Hid (Fc.folB E Fk h (body.drop d) Wd = Fc.folB E Fk h body Wi) ∧ St w wr3 [aCel wz.heap.size 186 #[.int .i64 h, .slice ab body.length cb], Fc.aU vw2 Wk, Fc.aU (.slice (some ⟨gW, 0, none⟩) N N) Wd, Fc.aB (.slice (some ⟨gE, 0, none⟩) N N) E, Fc.aU (.slice (some ⟨gF, 0, none⟩) N N) Fk, Fc.aB (.slice (some ⟨gM, 0, none⟩) N N) M, Fc.aB (.slice (some ⟨gR, 0, none⟩) N N) R, aCel gB 88 #[.slice (some ⟨gE, 0, none⟩) N N, .slice (some ⟨gF, 0, none⟩) N N, .slice (some ⟨gW, 0, none⟩) N N, .slice (some ⟨gR, 0, none⟩) N N, .slice (some ⟨gM, 0, none⟩) N N], aCel (w.heap.size + 1) 88 #[.slice none 0 0, .slice none 0 0, .slice none 0 0, .slice none 0 0, .slice none 0 0], aCel w.heap.size 68 #[.int .i64 t, .int .i64 N, .slice (some ⟨bp, op, none⟩) l.length cp]])
                    case atStart => exact ⟨0, Wi, by omega, by omega, rfl, HLB, Lib.hid rfl, HST.out⟩
                    case round =>
                      clear HST
                      obtain ⟨d, Wd, hd, hgd, rfl, HLD, HFB, hst⟩ := hrel
                      have HGD := Lib.hid hgd
                      clear hgd
                      obtain ⟨p0, p1⟩ := hst.at2 0 rfl
                      by_cases hlt4 : d < body.length
                      · obtain ⟨rfl, _, _⟩ := B3.out (by omega)
                        obtain ⟨s1, s2, -, -⟩ := B4.out d hlt4
                        have hdr := Fc.drop_at hlt4 (0, 0)
                        have hxx := HPB.out (body.getD d (0, 0)) (by rw [show body.getD d (0, 0) = body[d] by simp [List.getD, List.getElem?_eq_getElem hlt4]]; exact List.getElem_mem hlt4)
                        have hfb := HFB.out
                        rw [hdr, Fc.folB_cons] at hfb
                        generalize body.getD d (0, 0) = x at *
                        obtain ⟨x1, x2⟩ := x
                        simp only at s1 s2 hxx hfb
                        have c1 := bkeep hst.bel s1
                        have c2 := bkeep hst.bel s2
                        have hlt5 : (d : Int) < body.length := by omega
                        rcases hxx with ⟨rfl, h0, -⟩ | ⟨rfl, h0, h1⟩
                        · rw [if_neg (by decide)] at hfb
                          have HFB2 := Lib.hid hfb
                          have HST := Lib.hid hst
                          clear s1 s2 hst hfb hdr HFB
                          go_wp2
                          go_roundg (body.length - (d + 1))
                          case measure => have := HGD.out; omega
                          case rel => exact ⟨d + 1, Wd, by omega, rfl, by go_num, HLD, HFB2, HST.out⟩
                        · obtain ⟨y, rfl⟩ := Int.eq_ofNat_of_zero_le h0
                          rw [if_pos rfl, Int.toNat_natCast] at hfb
                          have hy : y < Wd.length := by rw [HLD.out.1]; omega
                          have hh : h < Wd.length := by rw [HLD.out.1]; omega
                          have hhn : (h : Int) < N := by omega
                          have hyn : (y : Int) < N := by omega
                          have hencb : (Enc.two.sl 16).R F w [Go.sliced (some ⟨bb, ob, none⟩) (d + 1) body.length cb 2] (body.drop (d + 1)) := by
                            have := Enc.sliced HBODY.out (d + 1) body.length (by omega) (Nat.le_refl _)
                            rw [List.take_length] at this
                            exact this
                          have hbg := Fc.beg_lt (E := E) (b := Wd.getD h 0) (body := body.drop (d + 1)) HFb.out (HLD.out.2 h) (fun x hx h1 => by rcases HPB.out x (List.mem_of_mem_drop hx) with ⟨-, a, b⟩ | ⟨a, -⟩ <;> omega)
                          have hbc : body.length ≤ cb := by
                            obtain ⟨_, _, _, _, hq, hle, _⟩ := HBODY.out
                            simp only [List.cons.injEq, Value.slice.injEq, and_true, true_and] at hq
                            omega
                          have hs1 : ∀ W, (Instr.slice 84 (.slice (some ⟨bb, ob, none⟩) body.length cb) (some (.int .i64 ((d : Int) + 1))) none none).run Try.prog W = .ok (Go.sliced (some ⟨bb, ob, none⟩) (d + 1) body.length cb 2) W := fun W => by
                            have hsz : (sizeOf (Try.prog.elem 84)).run Try.prog W = .ok 2 W := by kernel_rfl
                            have := run_slice_l (P := Try.prog) W 84 (some ⟨bb, ob, none⟩) body.length cb (by kernel_rfl) .i64 (d + 1) (by omega) (by omega)
                            rw [hsz] at this
                            exact this
                          have HBEG := Lib.hid fun W μ hs => fcRBeg_any w gE N N gF N N (.slice (some ⟨gW, 0, none⟩) N N) (.slice (some ⟨gR, 0, none⟩) N N) (.slice (some ⟨gM, 0, none⟩) N N) E Fk (Wd.getD h 0) F (by rw [HEl.out]) (by rw [HFl.out]) (by rw [HFl.out, HEl.out]) (fun i => HFb.out i) (HLD.out.2 h) (body.drop (d + 1)) (Go.sliced (some ⟨bb, ob, none⟩) (d + 1) body.length cb 2) W μ hencb (fun x hx => by rw [HEl.out]; rcases HPB.out x (List.mem_of_mem_drop hx) with ⟨a, b, c⟩ | ⟨a, b, c⟩; exact .inl ⟨a, b, by omega⟩; exact .inr ⟨a, b, c⟩) hs
                          generalize Go.sliced (some ⟨bb, ob, none⟩) (d + 1) body.length cb 2 = V1 at hs1 HBEG
                          have hup : Fc.up Wd y (Fc.beg E Fk (Wd.getD h 0) (body.drop (d + 1))) = Wd.set y (Wd.getD y 0 ||| Fc.beg E Fk (Wd.getD h 0) (body.drop (d + 1))) := rfl
                          have hul := Fc.up_lt (k := 64) (W := Wd) (i := y) HLD.out.2 hbg
                          have hbo := bits_or_u64_nat (Wd.getD y 0) (Fc.beg E Fk (Wd.getD h 0) (body.drop (d + 1))) (HLD.out.2 y) hbg
                          have HHC := Lib.hid fun (W : World) (hs : St w W (Fc.aU (.slice (some ⟨gW, 0, none⟩) N N) Wd :: [])) => (show W.cell? ⟨gW, h, none⟩ = some (.int .u64 ((Wd.getD h 0 : Nat) : Int)) from ((show St w W (aOwn 85 1 (.slice (some ⟨gW, 0, none⟩) N N) (Wd.map Fc.uV) :: []) from hs).cellOwn (f := Fc.uV) (fun _ => rfl) h hh 0).1)
                          have HYC := Lib.hid fun (W : World) (hs : St w W (Fc.aU (.slice (some ⟨gW, 0, none⟩) N N) Wd :: [])) => (show W.cell? ⟨gW, y, none⟩ = some (.int .u64 ((Wd.getD y 0 : Nat) : Int)) ∧ W.frozen? ⟨gW, y, none⟩ = false from ((show St w W (aOwn 85 1 (.slice (some ⟨gW, 0, none⟩) N N) (Wd.map Fc.uV) :: []) from hs).cellOwn (f := Fc.uV) (fun _ => rfl) y hy 0))
                          rw [hup] at hfb hul
                          generalize Fc.beg E Fk (Wd.getD h 0) (body.drop (d + 1)) = bg at *
                          generalize (Wd.getD y 0 ||| bg : Nat) = z at *
                          generalize Wd.getD y 0 = yv at *
                          generalize Wd.getD h 0 = hv at *
                          have HBO := Lib.hid hbo; have HFB2 := Lib.hid hfb; have HUL := Lib.hid hul
                          have hwr : IntKind.i64.wrap (↑d + 1) = ↑d + 1 := IntWalk.i64_in _ (by omega)
                          have hwr0 : (0 : Int) ≤ ↑d + 1 := by omega
                          have hwr1 : ((d : Int) + 1).toNat = d + 1 := by omega
                          have hwr2 : (d : Int) + 1 ≤ body.length := by omega
                          have HSTD := Lib.hid (hst.drew.pick (ρ := [Fc.aB (.slice (some ⟨gE, 0, none⟩) N N) E, Fc.aU (.slice (some ⟨gF, 0, none⟩) N N) Fk, Fc.aU (.slice (some ⟨gW, 0, none⟩) N N) Wd, aCel wz.heap.size 186 #[.int .i64 h, .slice (some ⟨bb, ob, none⟩) body.length cb], Fc.aU vw2 Wk, Fc.aB (.slice (some ⟨gM, 0, none⟩) N N) M, Fc.aB (.slice (some ⟨gR, 0, none⟩) N N) R, aCel gB 88 #[.slice (some ⟨gE, 0, none⟩) N N, .slice (some ⟨gF, 0, none⟩) N N, .slice (some ⟨gW, 0, none⟩) N N, .slice (some ⟨gR, 0, none⟩) N N, .slice (some ⟨gM, 0, none⟩) N N], aCel (w.heap.size + 1) 88 #[.slice none 0 0, .slice none 0 0, .slice none 0 0, .slice none 0 0, .slice none 0 0], aCel w.heap.size 68 #[.int .i64 t, .int .i64 N, .slice (some ⟨bp, op, none⟩) l.length cp]]) [3, 4, 2, 0, 1, 5, 6, 7, 8, 9] 10 rfl rfl)
                          have hC := HHC.out _ (HSTD.out.nth 2 rfl)
                          obtain ⟨yC, yF⟩ := HYC.out _ (HSTD.out.nth 2 rfl)
                          obtain ⟨x0, x1, x2, x3, x4⟩ := HSTD.out.at5 7 rfl
                          have S2 := Lib.hid s2
                          clear s1 s2 hst hfb hdr HFB hy hh hbg hencb hbc hup hul hbo
                          go_wp2
                          refine wp_region_held_drew (S := (fun w' => w'.cell? ⟨gB, 0, none⟩ = some (.slice (some ⟨gE, 0, none⟩) N N) ∧ w'.cell? ⟨gB, 1, none⟩ = some (.slice (some ⟨gF, 0, none⟩) N N) ∧ w'.cell? ⟨gB, 2, none⟩ = some (.slice (some ⟨gW, 0, none⟩) N N) ∧ w'.cell? ⟨gB, 3, none⟩ = some (.slice (some ⟨gR, 0, none⟩) N N) ∧ w'.cell? ⟨gB, 4, none⟩ = some (.slice (some ⟨gM, 0, none⟩) N N) ∧ w'.cell? ⟨wz.heap.size, 0, none⟩ = some (.int .i64 h) ∧ w'.cell? ⟨wz.heap.size, 1, none⟩ = some (.slice (some ⟨bb, ob, none⟩) body.length cb) ∧ w'.cell? ⟨bb, ob + d * 2 + 1, none⟩ = some (.int .i64 y))) (by kernel_rfl) ?_ (fun hHeld => ?_)
                          · (try dsimp only); (first | exact ⟨x0, x1, x2, x3, x4, p0, p1, c2⟩ | exact ⟨y0, y1, y2, y3, y4, q0, q1, cc2⟩ | go_keep)

                          refine wpAnyH_take (i := 0) (v := ?_) rfl (by kernel_rfl) (by kernel_rfl) (by kernel_rfl) (fun _ _ _ h => h) (Or.inl ⟨by rfl, ?_⟩) (by assumption) ?_
                          rotate_left; focus (intro w hSw; (try dsimp only at hSw); go_simp; try (with_reducible rfl); done)
                          try simp only [List.getElem_toArray, List.getElem_cons_zero, List.getElem_cons_succ, Act.put, List.setIfInBounds_toArray, List.set_cons_zero, List.set_cons_succ]
                          refine wpAnyH_take (i := 1) (v := ?_) rfl (by kernel_rfl) (by kernel_rfl) (by kernel_rfl) (fun _ _ _ h => h) (Or.inl ⟨by rfl, ?_⟩) (by assumption) ?_
                          rotate_left; focus (intro w hSw; (try dsimp only at hSw); go_simp; try (with_reducible rfl); done)
                          try simp only [List.getElem_toArray, List.getElem_cons_zero, List.getElem_cons_succ, Act.put, List.setIfInBounds_toArray, List.set_cons_zero, List.set_cons_succ]
                          refine wpAnyH_take (i := 2) (v := ?_) rfl (by kernel_rfl) (by kernel_rfl) (by kernel_rfl) (fun _ _ _ h => h) (Or.inl ⟨by rfl, ?_⟩) (by assumption) ?_
                          rotate_left; focus (intro w hSw; (try dsimp only at hSw); go_simp; try (with_reducible rfl); done)
                          try simp only [List.getElem_toArray, List.getElem_cons_zero, List.getElem_cons_succ, Act.put, List.setIfInBounds_toArray, List.set_cons_zero, List.set_cons_succ]
                          refine wpAnyH_take (i := 3) (v := ?_) rfl (by kernel_rfl) (by kernel_rfl) (by kernel_rfl) (fun _ _ _ h => h) (Or.inl ⟨by rfl, ?_⟩) (by assumption) ?_
                          rotate_left; focus (intro w hSw; (try dsimp only at hSw); go_simp; try (with_reducible rfl); done)
                          try simp only [List.getElem_toArray, List.getElem_cons_zero, List.getElem_cons_succ, Act.put, List.setIfInBounds_toArray, List.set_cons_zero, List.set_cons_succ]
                          refine wpAnyH_take (i := 4) (v := ?_) rfl (by kernel_rfl) (by kernel_rfl) (by kernel_rfl) (fun _ _ _ h => h) (Or.inl ⟨by rfl, ?_⟩) (by assumption) ?_
                          rotate_left; focus (intro w hSw; (try dsimp only at hSw); go_simp; try (with_reducible rfl); done)
                          try simp only [List.getElem_toArray, List.getElem_cons_zero, List.getElem_cons_succ, Act.put, List.setIfInBounds_toArray, List.set_cons_zero, List.set_cons_succ]
                          refine wpAnyH_take (i := 5) (v := ?_) rfl (by kernel_rfl) (by kernel_rfl) (by kernel_rfl) (fun _ _ _ h => h) (Or.inl ⟨by rfl, ?_⟩) (by assumption) ?_
                          rotate_left; focus (intro w hSw; (try dsimp only at hSw); go_simp; try (with_reducible rfl); done)
                          try simp only [List.getElem_toArray, List.getElem_cons_zero, List.getElem_cons_succ, Act.put, List.setIfInBounds_toArray, List.set_cons_zero, List.set_cons_succ]
                          refine wpAnyH_take (i := 6) (v := ?_) rfl (by kernel_rfl) (by kernel_rfl) (by kernel_rfl) (fun _ _ _ h => h) (Or.inl ⟨by rfl, ?_⟩) (by assumption) ?_
                          rotate_left; focus (intro w hSw; (try dsimp only at hSw); go_simp; try (with_reducible rfl); done)
                          try simp only [List.getElem_toArray, List.getElem_cons_zero, List.getElem_cons_succ, Act.put, List.setIfInBounds_toArray, List.set_cons_zero, List.set_cons_succ]
                          refine wpAnyH_take (i := 7) (v := ?_) rfl (by kernel_rfl) (by kernel_rfl) (by kernel_rfl) (fun _ _ _ h => h) (Or.inl ⟨by rfl, ?_⟩) (by assumption) ?_
                          rotate_left; focus (intro w hSw; (try dsimp only at hSw); go_simp; try (with_reducible rfl); done)
                          try simp only [List.getElem_toArray, List.getElem_cons_zero, List.getElem_cons_succ, Act.put, List.setIfInBounds_toArray, List.set_cons_zero, List.set_cons_succ]
                          refine wpAnyH_take (i := 8) (v := ?_) rfl (by kernel_rfl) (by kernel_rfl) (by kernel_rfl) (fun _ _ _ h => h) (Or.inl ⟨by rfl, ?_⟩) (by assumption) ?_
                          rotate_left; focus (intro w hSw; (try dsimp only at hSw); go_simp; try (with_reducible rfl); done)
                          try simp only [List.getElem_toArray, List.getElem_cons_zero, List.getElem_cons_succ, Act.put, List.setIfInBounds_toArray, List.set_cons_zero, List.set_cons_succ]
                          refine wpAnyH_take (i := 10) (v := ?_) rfl (by kernel_rfl) (by kernel_rfl) (by kernel_rfl) (fun _ _ _ h => h) (Or.inl ⟨by rfl, ?_⟩) (by assumption) ?_
                          rotate_left; focus (intro w hSw; (try dsimp only at hSw); go_simp; try (with_reducible rfl); done)
                          try simp only [List.getElem_toArray, List.getElem_cons_zero, List.getElem_cons_succ, Act.put, List.setIfInBounds_toArray, List.set_cons_zero, List.set_cons_succ]
                          refine wpAnyH_take (i := 11) (v := ?_) rfl (by kernel_rfl) (by kernel_rfl) (by kernel_rfl) (fun _ _ _ h => h) (Or.inl ⟨by rfl, ?_⟩) (by assumption) ?_
                          rotate_left; focus (intro w hSw; (try dsimp only at hSw); go_simp; try (with_reducible rfl); done)
                          try simp only [List.getElem_toArray, List.getElem_cons_zero, List.getElem_cons_succ, Act.put, List.setIfInBounds_toArray, List.set_cons_zero, List.set_cons_succ]
                          refine wpAnyH_take (i := 12) (v := ?_) rfl (by kernel_rfl) (by kernel_rfl) (by kernel_rfl) (fun _ _ _ h => h) (Or.inl ⟨by rfl, ?_⟩) (by assumption) ?_
                          rotate_left; focus (intro w hSw; (try dsimp only at hSw); go_simp; try (with_reducible rfl); done)
                          try simp only [List.getElem_toArray, List.getElem_cons_zero, List.getElem_cons_succ, Act.put, List.setIfInBounds_toArray, List.set_cons_zero, List.set_cons_succ]
                          refine wpAnyH_take (i := 13) (v := ?_) rfl (by kernel_rfl) (by kernel_rfl) (by kernel_rfl) (fun _ _ _ h => h) (Or.inl ⟨by rfl, ?_⟩) (by assumption) ?_
                          rotate_left; focus (intro w hSw; (try dsimp only at hSw); go_simp; try (with_reducible rfl); done)
                          try simp only [List.getElem_toArray, List.getElem_cons_zero, List.getElem_cons_succ, Act.put, List.setIfInBounds_toArray, List.set_cons_zero, List.set_cons_succ]
                          refine wpAnyH_take (i := 14) (v := ?_) rfl (by kernel_rfl) (by kernel_rfl) (by kernel_rfl) (fun _ _ _ h => h) (Or.inl ⟨by rfl, ?_⟩) (by assumption) ?_
                          rotate_left; focus (intro w hSw; (try dsimp only at hSw); go_simp; try (with_reducible rfl); done)
                          try simp only [List.getElem_toArray, List.getElem_cons_zero, List.getElem_cons_succ, Act.put, List.setIfInBounds_toArray, List.set_cons_zero, List.set_cons_succ]
                          refine wpAnyH_take (i := 15) (v := ?_) rfl (by kernel_rfl) (by kernel_rfl) (by kernel_rfl) (fun _ _ _ h => h) (Or.inl ⟨by rfl, ?_⟩) (by assumption) ?_
                          rotate_left; focus (intro w hSw; (try dsimp only at hSw); go_simp; try (with_reducible rfl); done)
                          try simp only [List.getElem_toArray, List.getElem_cons_zero, List.getElem_cons_succ, Act.put, List.setIfInBounds_toArray, List.set_cons_zero, List.set_cons_succ]
                          refine wpAnyH_take (i := 16) (v := ?_) rfl (by kernel_rfl) (by kernel_rfl) (by kernel_rfl) (fun _ _ _ h => h) (Or.inl ⟨by rfl, ?_⟩) (by assumption) ?_
                          rotate_left; focus (intro w hSw; (try dsimp only at hSw); go_simp; try (with_reducible rfl); done)
                          try simp only [List.getElem_toArray, List.getElem_cons_zero, List.getElem_cons_succ, Act.put, List.setIfInBounds_toArray, List.set_cons_zero, List.set_cons_succ]
                          refine wpAnyH_take (i := 17) (v := ?_) rfl (by kernel_rfl) (by kernel_rfl) (by kernel_rfl) (fun _ _ _ h => h) (Or.inl ⟨by rfl, ?_⟩) (by assumption) ?_
                          rotate_left; focus (intro w hSw; (try dsimp only at hSw); go_simp; try (with_reducible rfl); done)
                          try simp only [List.getElem_toArray, List.getElem_cons_zero, List.getElem_cons_succ, Act.put, List.setIfInBounds_toArray, List.set_cons_zero, List.set_cons_succ]
                          refine wpAnyH_take (i := 18) (v := ?_) rfl (by kernel_rfl) (by kernel_rfl) (by kernel_rfl) (fun _ _ _ h => h) (Or.inl ⟨by rfl, ?_⟩) (by assumption) ?_
                          rotate_left; focus (intro w hSw; (try dsimp only at hSw); go_simp; try (with_reducible rfl); done)
                          try simp only [List.getElem_toArray, List.getElem_cons_zero, List.getElem_cons_succ, Act.put, List.setIfInBounds_toArray, List.set_cons_zero, List.set_cons_succ]
                          refine wpAnyH_take (i := 19) (v := ?_) rfl (by kernel_rfl) (by kernel_rfl) (by kernel_rfl) (fun _ _ _ h => h) (Or.inl ⟨by rfl, ?_⟩) (by assumption) ?_
                          rotate_left; focus (intro w hSw; (try dsimp only at hSw); go_simp; try (with_reducible rfl); done)
                          try simp only [List.getElem_toArray, List.getElem_cons_zero, List.getElem_cons_succ, Act.put, List.setIfInBounds_toArray, List.set_cons_zero, List.set_cons_succ]
                          refine wpAnyH_take (i := 20) (v := ?_) rfl (by kernel_rfl) (by kernel_rfl) (by kernel_rfl) (fun _ _ _ h => h) (Or.inl ⟨by rfl, ?_⟩) (by assumption) ?_
                          rotate_left; focus (intro w hSw; (try dsimp only at hSw); go_simp; try (with_reducible rfl); done)
                          try simp only [List.getElem_toArray, List.getElem_cons_zero, List.getElem_cons_succ, Act.put, List.setIfInBounds_toArray, List.set_cons_zero, List.set_cons_succ]
                          refine wpAnyH_ready (rs := [9, 21]) (by kernel_rfl) (by simp) ?_
                          refine AllReadyH.cons rfl (fun K hK => ?_) (AllReadyH.cons rfl (fun K hK => ?_) (AllReadyH.nil))
                          · skip
                            go_simp
                            refine hK.out _ _ ?_ (fun hHeld => ?_)
                            · (try dsimp only); (first | exact ⟨x0, x1, x2, x3, x4, p0, p1, c2⟩ | exact ⟨y0, y1, y2, y3, y4, q0, q1, cc2⟩ | go_keep)
                            clear hK K
                            try simp only [List.getElem_toArray, List.getElem_cons_zero, List.getElem_cons_succ, Act.put, List.setIfInBounds_toArray, List.set_cons_zero, List.set_cons_succ]
                            refine wpAnyH_ready (rs := [21]) (by kernel_rfl) (by simp) ?_
                            refine AllReadyH.cons rfl (fun K hK => ?_) (AllReadyH.nil)
                            go_simp
                            refine hK.out _ _ ?_ (fun hHeld => ?_)
                            · (try dsimp only); (first | exact ⟨x0, x1, x2, x3, x4, p0, p1, c2⟩ | exact ⟨y0, y1, y2, y3, y4, q0, q1, cc2⟩ | go_keep)
                            clear hK K
                            try simp only [List.getElem_toArray, List.getElem_cons_zero, List.getElem_cons_succ, Act.put, List.setIfInBounds_toArray, List.set_cons_zero, List.set_cons_succ]
                            refine wpAnyH_ready (rs := [22]) (by kernel_rfl) (by simp) ?_
                            refine AllReadyH.cons rfl (fun K hK => ?_) (AllReadyH.nil)
                            go_simp
                            (go_at_call 49; refine (HBEG.out _ _ HSTD.out).mono ?_; rintro e w8 ⟨rfl, hst8⟩; obtain ⟨x0, x1, x2, x3, x4⟩ := hst8.at5 7 rfl; obtain ⟨p0, p1⟩ := hst8.at2 3 rfl; have c2 := bkeep hst8.bel S2.out; obtain ⟨yC, yF⟩ := HYC.out _ (hst8.nth 2 rfl); have hst9 := (show St w w8 (aOwn 85 1 (.slice (some ⟨gW, 0, none⟩) N N) (Wd.map Fc.uV) :: _) from hst8.pick [2, 0, 1, 3, 4, 5, 6, 7, 8, 9] 10 rfl rfl).setOwn (f := Fc.uV) (fun _ => rfl) y z; have hst9 := (show St w (w8.setCell ⟨gW, y, none⟩ (.int .u64 (bits .or .u64 (yv : Int) (bg : Int)))) _ from by rw [HBO.out]; exact hst9); obtain ⟨y0, y1, y2, y3, y4⟩ := hst9.at5 7 rfl; obtain ⟨q0, q1⟩ := hst9.at2 3 rfl; have cc2 := bkeep hst9.bel S2.out; have HST9 := Lib.hid hst9; clear hst8 hst9)
                            refine hK.out _ _ ?_ (fun hHeld => ?_)
                            · (try dsimp only); (first | exact ⟨x0, x1, x2, x3, x4, p0, p1, c2⟩ | exact ⟨y0, y1, y2, y3, y4, q0, q1, cc2⟩ | go_keep)
                            clear hK K
                            try simp only [List.getElem_toArray, List.getElem_cons_zero, List.getElem_cons_succ, Act.put, List.setIfInBounds_toArray, List.set_cons_zero, List.set_cons_succ]
                            refine wpAnyH_take (i := 23) (v := ?_) rfl (by kernel_rfl) (by kernel_rfl) (by kernel_rfl) (fun _ _ _ h => h) (Or.inl ⟨by rfl, ?_⟩) (by assumption) ?_
                            rotate_left; focus (intro w hSw; (try dsimp only at hSw); go_simp; try (with_reducible rfl); done)
                            try simp only [List.getElem_toArray, List.getElem_cons_zero, List.getElem_cons_succ, Act.put, List.setIfInBounds_toArray, List.set_cons_zero, List.set_cons_succ]
                            refine wpAnyH_take (i := 24) (v := ?_) rfl (by kernel_rfl) (by kernel_rfl) (by kernel_rfl) (fun _ _ _ h => h) (Or.inl ⟨by rfl, ?_⟩) (by assumption) ?_
                            rotate_left; focus (intro w hSw; (try dsimp only at hSw); go_simp; try (with_reducible rfl); done)
                            try simp only [List.getElem_toArray, List.getElem_cons_zero, List.getElem_cons_succ, Act.put, List.setIfInBounds_toArray, List.set_cons_zero, List.set_cons_succ]
                            refine wpAnyH_ready (rs := [25]) (by kernel_rfl) (by simp) ?_
                            refine AllReadyH.cons rfl (fun K hK => ?_) AllReadyH.nil
                            go_simp
                            refine hK.out _ _ ?_ (fun hHeld => ?_)
                            · (try dsimp only); (first | exact ⟨x0, x1, x2, x3, x4, p0, p1, c2⟩ | exact ⟨y0, y1, y2, y3, y4, q0, q1, cc2⟩ | go_keep)
                            clear hK K
                            try simp only [List.getElem_toArray, List.getElem_cons_zero, List.getElem_cons_succ, Act.put, List.setIfInBounds_toArray, List.set_cons_zero, List.set_cons_succ]
                            refine wpAnyH_done (by kernel_rfl) ?_ _
                            (clear HBEG HHC HYC hs1 hwr hwr1; go_wp2; go_roundg (body.length - (d + 1)); (case measure => (have := HGD.out; omega)); (case rel => exact ⟨d + 1, _, by omega, rfl, by go_num, Lib.hid ⟨by rw [List.length_set]; exact HLD.out.1, HUL.out⟩, HFB2, HST9.out.pick [3, 4, 0, 1, 2, 5, 6, 7, 8, 9] 10 rfl rfl⟩))
                          · skip
                            go_simp
                            refine hK.out _ _ ?_ (fun hHeld => ?_)
                            · (try dsimp only); (first | exact ⟨x0, x1, x2, x3, x4, p0, p1, c2⟩ | exact ⟨y0, y1, y2, y3, y4, q0, q1, cc2⟩ | go_keep)
                            clear hK K
                            try simp only [List.getElem_toArray, List.getElem_cons_zero, List.getElem_cons_succ, Act.put, List.setIfInBounds_toArray, List.set_cons_zero, List.set_cons_succ]
                            refine wpAnyH_ready (rs := [9, 22]) (by kernel_rfl) (by simp) ?_
                            refine AllReadyH.cons rfl (fun K hK => ?_) (AllReadyH.cons rfl (fun K hK => ?_) (AllReadyH.nil))
                            · skip
                              go_simp
                              refine hK.out _ _ ?_ (fun hHeld => ?_)
                              · (try dsimp only); (first | exact ⟨x0, x1, x2, x3, x4, p0, p1, c2⟩ | exact ⟨y0, y1, y2, y3, y4, q0, q1, cc2⟩ | go_keep)
                              clear hK K
                              try simp only [List.getElem_toArray, List.getElem_cons_zero, List.getElem_cons_succ, Act.put, List.setIfInBounds_toArray, List.set_cons_zero, List.set_cons_succ]
                              refine wpAnyH_ready (rs := [22]) (by kernel_rfl) (by simp) ?_
                              refine AllReadyH.cons rfl (fun K hK => ?_) (AllReadyH.nil)
                              go_simp
                              (go_at_call 49; refine (HBEG.out _ _ HSTD.out).mono ?_; rintro e w8 ⟨rfl, hst8⟩; obtain ⟨x0, x1, x2, x3, x4⟩ := hst8.at5 7 rfl; obtain ⟨p0, p1⟩ := hst8.at2 3 rfl; have c2 := bkeep hst8.bel S2.out; obtain ⟨yC, yF⟩ := HYC.out _ (hst8.nth 2 rfl); have hst9 := (show St w w8 (aOwn 85 1 (.slice (some ⟨gW, 0, none⟩) N N) (Wd.map Fc.uV) :: _) from hst8.pick [2, 0, 1, 3, 4, 5, 6, 7, 8, 9] 10 rfl rfl).setOwn (f := Fc.uV) (fun _ => rfl) y z; have hst9 := (show St w (w8.setCell ⟨gW, y, none⟩ (.int .u64 (bits .or .u64 (yv : Int) (bg : Int)))) _ from by rw [HBO.out]; exact hst9); obtain ⟨y0, y1, y2, y3, y4⟩ := hst9.at5 7 rfl; obtain ⟨q0, q1⟩ := hst9.at2 3 rfl; have cc2 := bkeep hst9.bel S2.out; have HST9 := Lib.hid hst9; clear hst8 hst9)
                              refine hK.out _ _ ?_ (fun hHeld => ?_)
                              · (try dsimp only); (first | exact ⟨x0, x1, x2, x3, x4, p0, p1, c2⟩ | exact ⟨y0, y1, y2, y3, y4, q0, q1, cc2⟩ | go_keep)
                              clear hK K
                              try simp only [List.getElem_toArray, List.getElem_cons_zero, List.getElem_cons_succ, Act.put, List.setIfInBounds_toArray, List.set_cons_zero, List.set_cons_succ]
                              refine wpAnyH_take (i := 23) (v := ?_) rfl (by kernel_rfl) (by kernel_rfl) (by kernel_rfl) (fun _ _ _ h => h) (Or.inl ⟨by rfl, ?_⟩) (by assumption) ?_
                              rotate_left; focus (intro w hSw; (try dsimp only at hSw); go_simp; try (with_reducible rfl); done)
                              try simp only [List.getElem_toArray, List.getElem_cons_zero, List.getElem_cons_succ, Act.put, List.setIfInBounds_toArray, List.set_cons_zero, List.set_cons_succ]
                              refine wpAnyH_take (i := 24) (v := ?_) rfl (by kernel_rfl) (by kernel_rfl) (by kernel_rfl) (fun _ _ _ h => h) (Or.inl ⟨by rfl, ?_⟩) (by assumption) ?_
                              rotate_left; focus (intro w hSw; (try dsimp only at hSw); go_simp; try (with_reducible rfl); done)
                              try simp only [List.getElem_toArray, List.getElem_cons_zero, List.getElem_cons_succ, Act.put, List.setIfInBounds_toArray, List.set_cons_zero, List.set_cons_succ]
                              refine wpAnyH_ready (rs := [25]) (by kernel_rfl) (by simp) ?_
                              refine AllReadyH.cons rfl (fun K hK => ?_) AllReadyH.nil
                              go_simp
                              refine hK.out _ _ ?_ (fun hHeld => ?_)
                              · (try dsimp only); (first | exact ⟨x0, x1, x2, x3, x4, p0, p1, c2⟩ | exact ⟨y0, y1, y2, y3, y4, q0, q1, cc2⟩ | go_keep)
                              clear hK K
                              try simp only [List.getElem_toArray, List.getElem_cons_zero, List.getElem_cons_succ, Act.put, List.setIfInBounds_toArray, List.set_cons_zero, List.set_cons_succ]
                              refine wpAnyH_done (by kernel_rfl) ?_ _
                              (clear HBEG HHC HYC hs1 hwr hwr1; go_wp2; go_roundg (body.length - (d + 1)); (case measure => (have := HGD.out; omega)); (case rel => exact ⟨d + 1, _, by omega, rfl, by go_num, Lib.hid ⟨by rw [List.length_set]; exact HLD.out.1, HUL.out⟩, HFB2, HST9.out.pick [3, 4, 0, 1, 2, 5, 6, 7, 8, 9] 10 rfl rfl⟩))
                            · skip
                              go_simp
                              (go_at_call 49; refine (HBEG.out _ _ HSTD.out).mono ?_; rintro e w8 ⟨rfl, hst8⟩; obtain ⟨x0, x1, x2, x3, x4⟩ := hst8.at5 7 rfl; obtain ⟨p0, p1⟩ := hst8.at2 3 rfl; have c2 := bkeep hst8.bel S2.out; obtain ⟨yC, yF⟩ := HYC.out _ (hst8.nth 2 rfl); have hst9 := (show St w w8 (aOwn 85 1 (.slice (some ⟨gW, 0, none⟩) N N) (Wd.map Fc.uV) :: _) from hst8.pick [2, 0, 1, 3, 4, 5, 6, 7, 8, 9] 10 rfl rfl).setOwn (f := Fc.uV) (fun _ => rfl) y z; have hst9 := (show St w (w8.setCell ⟨gW, y, none⟩ (.int .u64 (bits .or .u64 (yv : Int) (bg : Int)))) _ from by rw [HBO.out]; exact hst9); obtain ⟨y0, y1, y2, y3, y4⟩ := hst9.at5 7 rfl; obtain ⟨q0, q1⟩ := hst9.at2 3 rfl; have cc2 := bkeep hst9.bel S2.out; have HST9 := Lib.hid hst9; clear hst8 hst9)
                              refine hK.out _ _ ?_ (fun hHeld => ?_)
                              · (try dsimp only); (first | exact ⟨x0, x1, x2, x3, x4, p0, p1, c2⟩ | exact ⟨y0, y1, y2, y3, y4, q0, q1, cc2⟩ | go_keep)
                              clear hK K
                              try simp only [List.getElem_toArray, List.getElem_cons_zero, List.getElem_cons_succ, Act.put, List.setIfInBounds_toArray, List.set_cons_zero, List.set_cons_succ]
                              refine wpAnyH_ready (rs := [9]) (by kernel_rfl) (by simp) ?_
                              refine AllReadyH.cons rfl (fun K hK => ?_) (AllReadyH.nil)
                              go_simp
                              refine hK.out _ _ ?_ (fun hHeld => ?_)
                              · (try dsimp only); (first | exact ⟨x0, x1, x2, x3, x4, p0, p1, c2⟩ | exact ⟨y0, y1, y2, y3, y4, q0, q1, cc2⟩ | go_keep)
                              clear hK K
                              try simp only [List.getElem_toArray, List.getElem_cons_zero, List.getElem_cons_succ, Act.put, List.setIfInBounds_toArray, List.set_cons_zero, List.set_cons_succ]
                              refine wpAnyH_take (i := 23) (v := ?_) rfl (by kernel_rfl) (by kernel_rfl) (by kernel_rfl) (fun _ _ _ h => h) (Or.inl ⟨by rfl, ?_⟩) (by assumption) ?_
                              rotate_left; focus (intro w hSw; (try dsimp only at hSw); go_simp; try (with_reducible rfl); done)
                              try simp only [List.getElem_toArray, List.getElem_cons_zero, List.getElem_cons_succ, Act.put, List.setIfInBounds_toArray, List.set_cons_zero, List.set_cons_succ]
                              refine wpAnyH_take (i := 24) (v := ?_) rfl (by kernel_rfl) (by kernel_rfl) (by kernel_rfl) (fun _ _ _ h => h) (Or.inl ⟨by rfl, ?_⟩) (by assumption) ?_
                              rotate_left; focus (intro w hSw; (try dsimp only at hSw); go_simp; try (with_reducible rfl); done)
                              try simp only [List.getElem_toArray, List.getElem_cons_zero, List.getElem_cons_succ, Act.put, List.setIfInBounds_toArray, List.set_cons_zero, List.set_cons_succ]
                              refine wpAnyH_ready (rs := [25]) (by kernel_rfl) (by simp) ?_
                              refine AllReadyH.cons rfl (fun K hK => ?_) AllReadyH.nil
                              go_simp
                              refine hK.out _ _ ?_ (fun hHeld => ?_)
                              · (try dsimp only); (first | exact ⟨x0, x1, x2, x3, x4, p0, p1, c2⟩ | exact ⟨y0, y1, y2, y3, y4, q0, q1, cc2⟩ | go_keep)
                              clear hK K
                              try simp only [List.getElem_toArray, List.getElem_cons_zero, List.getElem_cons_succ, Act.put, List.setIfInBounds_toArray, List.set_cons_zero, List.set_cons_succ]
                              refine wpAnyH_done (by kernel_rfl) ?_ _
                              (clear HBEG HHC HYC hs1 hwr hwr1; go_wp2; go_roundg (body.length - (d + 1)); (case measure => (have := HGD.out; omega)); (case rel => exact ⟨d + 1, _, by omega, rfl, by go_num, Lib.hid ⟨by rw [List.length_set]; exact HLD.out.1, HUL.out⟩, HFB2, HST9.out.pick [3, 4, 0, 1, 2, 5, 6, 7, 8, 9] 10 rfl rfl⟩))
                      · obtain rfl : d = body.length := by omega
                        have hfb := HFB.out
                        rw [List.drop_length] at hfb
                        have hw : Wd = Fc.folB E Fk h body Wi := hfb
                        rw [← HSF.out] at hw
                        have HW := Lib.hid hw
                        have HST := Lib.hid hst
                        clear hst hfb hw
                        go_wp2
                        go_roundg (l.length - (i + 1))
                        case measure => have := HGI.out; omega
                        case rel => exact ⟨i + 1, Wd, by omega, rfl, by go_num, HW, HLD, HST.out.drop⟩
                  · obtain rfl : l.length = i := by omega
                    have hw := HWI.out
                    rw [List.take_length] at hw
                    have HW := Lib.hid hw
                    have HST := Lib.hid hst
                    clear hst hw
                    go_wp2
                    go_roundg (Fc.room (2 ^ 64) Wk)
                    case measure => exact HME.out
                    case rel => exact ⟨vw2, Wk, Wi, rfl, Lib.hid ⟨(by obtain ⟨q, hq⟩ := HA.out.1; exact ⟨q + 1, by rw [Fc.iter_add, ← hq]; exact HW.out⟩), (fun e => by rw [← e]; rw [← HW.out, e]), .inr ⟨HW.out, HB.out.1, HB.out.2.1, rfl⟩⟩, Lib.hid ⟨HLB.out.1, HLB.out.2, by rw [HB.out.1]; exact Nat.le_refl _⟩, HST.out⟩
              · have heq := of_decide_eq_true HR'.out
                have hfw := HA.out.2.1 heq
                obtain ⟨q, hq⟩ := HA.out.1
                have HG : Hid (Fc.Good l N E Fk Wk R M) := Lib.hid ⟨⟨HE.out, HM.out, HLRR.out, HLF.out, ⟨⟨q, hq⟩, hfw⟩⟩, HEl.out, HFl.out, HB.out.1, HRL.out, HMl.out, HFb.out, HB.out.2.1⟩
                obtain ⟨y0, y1, y2, y3, y4⟩ := HST.out.at5 7 rfl
                have k0 := (HST.out.nth 7 rfl).celFree 0
                have k1 := (HST.out.nth 7 rfl).celFree 1
                have k2 := (HST.out.nth 7 rfl).celFree 2
                have k3 := (HST.out.nth 7 rfl).celFree 3
                have k4 := (HST.out.nth 7 rfl).celFree 4
                have hst10 := (((((HST.out.pick (ρ := [aCel (w.heap.size + 1) 88 #[.slice none 0 0, .slice none 0 0, .slice none 0 0, .slice none 0 0, .slice none 0 0], Fc.aB (.slice (some ⟨gE, 0, none⟩) N N) E, Fc.aU (.slice (some ⟨gF, 0, none⟩) N N) Fk, Fc.aU (.slice (some ⟨gW, 0, none⟩) N N) Wk, Fc.aB (.slice (some ⟨gR, 0, none⟩) N N) R, Fc.aB (.slice (some ⟨gM, 0, none⟩) N N) M]) [7, 2, 3, 1, 5, 4] 9 rfl rfl).setCel 0 (.slice (some ⟨gE, 0, none⟩) N N)).setCel 1 (.slice (some ⟨gF, 0, none⟩) N N)).setCel 2 (.slice (some ⟨gW, 0, none⟩) N N)).setCel 3 (.slice (some ⟨gR, 0, none⟩) N N)).setCel 4 (.slice (some ⟨gM, 0, none⟩) N N)
                clear heq hfw hq
                have HST10 := Lib.hid hst10
                clear hst10
                go_wp2
                generalize (((((wX.setCell ⟨w.heap.size + 1, 0, none⟩ (.slice (some ⟨gE, 0, none⟩) N N)).setCell ⟨w.heap.size + 1, 1, none⟩ (.slice (some ⟨gF, 0, none⟩) N N)).setCell ⟨w.heap.size + 1, 2, none⟩ (.slice (some ⟨gW, 0, none⟩) N N)).setCell ⟨w.heap.size + 1, 3, none⟩ (.slice (some ⟨gR, 0, none⟩) N N)).setCell ⟨w.heap.size + 1, 4, none⟩ (.slice (some ⟨gM, 0, none⟩) N N)) = W10 at *
                have hst10 := HST10.out
                obtain ⟨r0, r1, r2, r3, r4⟩ := hst10.at5 (v0 := .slice (some ⟨gE, 0, none⟩) N N) (v1 := .slice (some ⟨gF, 0, none⟩) N N) (v2 := .slice (some ⟨gW, 0, none⟩) N N) (v3 := .slice (some ⟨gR, 0, none⟩) N N) (v4 := .slice (some ⟨gM, 0, none⟩) N N) 0 rfl
                refine bodyPost_ret (v := .agg #[.slice (some ⟨gE, 0, none⟩) N N, .slice (some ⟨gF, 0, none⟩) N N, .slice (some ⟨gW, 0, none⟩) N N, .slice (some ⟨gR, 0, none⟩) N N, .slice (some ⟨gM, 0, none⟩) N N]) (by simp [results, Try.results45, go_sem, r0, r1, r2, r3, r4]) rfl ?_
                exact ⟨gE, gF, gW, gR, gM, E, Fk, Wk, R, M, rfl, HG, hst10.drop⟩
end Go.Proofs.Ytldapomcjfkeeaa
