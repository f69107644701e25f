/-
  Tree of the reference: is a tree one of a grammar?
-/
import Derived.Test.YtldapomcjfkeeaaTrNode
import Derived.Laws.EntriesVeiled
namespace Go.Proofs.Ytldapomcjfkeeaa
set_option linter.unusedVariables false
set_option linter.unusedSimpArgs false
open Go.ChangeShapes Go.WideShapes Go.ChangeAt Go.RowKit

namespace Tr
theorem callC {c : Nat} {fn : Func} (hf : Try.prog.funcs[c]? = some fn) (hn : (fn.name == "runtime.NumGoroutine") = false) (hb : fn.body.isNone = false) (args : Array Value) (W : World) : (callFunc c args).run Try.prog W = .ok (.enter c args) W := by
  have hn2 : ¬ fn.name = "runtime.NumGoroutine" := fun e => by rw [e] at hn; simp at hn
  have hb2 : ¬ fn.body = none := fun e => by rw [e] at hb; cases hb
  simp [callFunc, go_sem, hf, hn2, hb2]
abbrev fnV (gN gL gK gG : Nat) : Value := .func (.func 92) #[] #[.pointer (some ⟨gN, 0, none⟩), .pointer (some ⟨gL, 0, none⟩), .pointer (some ⟨gG, 0, none⟩), .pointer (some ⟨gK, 0, none⟩)]
abbrev env (gN gL gK gG : Nat) (T : TypeId) (tg ng : Int) (vp : Value) (s : S2) (μ : List Asrt) : List Asrt := aCel gN 3 #[.int .i64 s.1] :: aCel gL 3 #[.int .i64 s.2] :: aCel gK T #[fnV gN gL gK gG] :: aCel gG 68 #[.int .i64 tg, .int .i64 ng, vp] :: μ
end Tr
theorem Tr.cel1 {w0 w : World} {μ : List Asrt} {g : Nat} {T : TypeId} {v0 : Value} (h : St w0 w μ) (i : Nat) (hA : μ[i]? = some (aCel g T #[v0])) : w.cell? ⟨g, 0, none⟩ = some v0 ∧ w.frozen? ⟨g, 0, none⟩ = false := ⟨(h.nth i hA).celAt rfl, (h.nth i hA).celFree 0⟩

set_option maxRecDepth 100000 in
set_option maxHeartbeats 8000000 in
theorem trLook_any (w0 : World) (gN gL gK gG : Nat) (T : TypeId) (tg ng : Int) (vp : Value) (l : List (Int × List (Int × Int))) (F : Nat → Prop) (hp : Enc.prods.R F w0 [vp] l) (hl : l.length ≤ 40) (hb8 : ∀ p ∈ l, p.2.length ≤ 8) :
    ∀ (n : Nat) (t : Tr) (cs : Array Value) (x : Int × Int) (deep : Int) (s : Tr.S2) (μ : List Asrt) (w : World), (Tr.enc n).R F w0 cs.toList t → Tr.In s → 1 ≤ deep → deep ≤ 101 → St w0 w (Tr.env gN gL gK gG T tg ng vp s μ) →
      Calls Try.prog 92 #[.agg cs, .agg #[.int .i64 x.1, .int .i64 x.2], .int .i64 deep, .pointer (some ⟨gN, 0, none⟩), .pointer (some ⟨gL, 0, none⟩), .pointer (some ⟨gG, 0, none⟩), .pointer (some ⟨gK, 0, none⟩)] w fun e w' => e = .returned (.int .i64 (Tr.look l n t x deep s).1) ∧ St w0 w' (Tr.env gN gL gK gG T tg ng vp (Tr.look l n t x deep s).2 μ) := by
  have hcf := fun args W => Tr.callC (c := 92) Try.func92 (by kernel_rfl) (by kernel_rfl) args W
  obtain ⟨ap, bp, op, cp, rfl, -, p3, p4⟩ := slProds hp
  have P3 := Lib.hid p3; have P4 := Lib.hid p4; have HL := Lib.hid hl; have HB8 := Lib.hid hb8
  clear p3 p4 hp hl hb8
  intro n
  induction n with
  | zero => intro t cs x deep s μ w h; exact h.elim
  | succ n ih =>
    intro t cs x deep s μ w ht hin hd0 hd1 hst
    obtain ⟨m, hm, vk, hcs, ⟨hp0, hp1⟩, ⟨hk0, hk1⟩, hk⟩ := Tr.opened ht
    obtain rfl : n = m := by omega
    obtain rfl : cs = #[.int .i64 t.prod, .int .i64 t.tok, vk] := Array.toList_inj.1 hcs
    obtain ⟨ak, bk, ok, ck, rfl, hkl, k3, k4⟩ := Tr.kidsAt hk
    obtain ⟨x1, x2⟩ := x
    obtain ⟨s1, s2⟩ := s
    obtain ⟨hi0, hi1, hi2, hi3⟩ := hin
    simp only at hi0 hi1 hi2 hi3
    have hO := Tr.look_out (l := l) (n := n + 1) (t := t) (x := (x1, x2)) (deep := deep) (s := (s1, s2)) ⟨hi0, hi1, hi2, hi3⟩
    obtain ⟨R, hLK⟩ : ∃ R, Tr.look l (n + 1) t (x1, x2) deep (s1, s2) = R := ⟨_, rfl⟩
    rw [hLK] at hO ⊢
    rw [Tr.look] at hLK
    have hbig := (hst.alloc #[.int .i64 t.prod, .int .i64 t.tok, .slice ak t.kids.length ck] 71).alloc #[.int .i64 x1, .int .i64 x2] 96
    simp only [World.size_alloc] at hbig
    obtain ⟨q3, q5⟩ := Tr.cel1 hbig 2 rfl
    simp only at q3
    have hs1 := (hbig.get3).setCel 0 (.int .i64 (s1 + 1))
    have HS1 := Lib.hid (show St w0 (((w.alloc (.cells #[.int .i64 t.prod, .int .i64 t.tok, .slice ak t.kids.length ck] 71)).alloc (.cells #[.int .i64 x1, .int .i64 x2] 96)).setCell ⟨gN, 0, none⟩ (.int .i64 (s1 + 1))) (aCel gN 3 #[.int .i64 (s1 + 1)] :: aCel (w.heap.size + 1) 96 #[.int .i64 x1, .int .i64 x2] :: aCel w.heap.size 71 #[.int .i64 t.prod, .int .i64 t.tok, .slice ak t.kids.length ck] :: aCel gL 3 #[.int .i64 s2] :: aCel gK T #[Tr.fnV gN gL gK gG] :: aCel gG 68 #[.int .i64 tg, .int .i64 ng, .slice ap l.length cp] :: μ) from hs1)
    have HO := Lib.hid hO
    have K3 := Lib.hid k3; have K4 := Lib.hid k4; have IH := Lib.hid ih
    clear hst hbig hs1 hO k3 k4 ih hk ht hm hcs
    have hbN : Tr.badN l t (x1, x2) = (t.prod < 0 ∨ (l.length : Int) ≤ t.prod ∨ (l.getD t.prod.toNat (0, [])).1 ≠ x2 ∨ t.tok ≠ 0 ∨ t.kids.length ≠ (l.getD t.prod.toNat (0, [])).2.length) := rfl
    have hbT : Tr.badT t s2 = (t.prod ≠ -1 ∨ t.tok ≠ s2 ∨ t.kids.length ≠ 0) := rfl
    simp only [hbN, hbT] at hLK
    have HLK := Lib.hid hLK
    clear hLK hbN hbT
    generalize t.prod = pr at *
    generalize t.tok = tk at *
    generalize t.kids = ks at *
    have HSP := Lib.hid (HS1.out.pick (ρ := Tr.env gN gL gK gG T tg ng (.slice ap l.length cp) (s1 + 1, s2) μ) [0, 3, 4, 5] 6 rfl rfl)
    by_cases h1 : 1000 < s1 + 1
    · have he := HLK.out
      rw [if_pos h1] at he
      subst he
      clear HLK K3 K4 IH hk0 hk1 hkl
      go_enter Try.func92, Try.ntmps92
      go_wp2
      go_ret
      exact ⟨rfl, HSP.out⟩
    by_cases h2 : 100 < deep
    · have he := HLK.out
      rw [if_neg h1, if_pos h2] at he
      subst he
      clear HLK K3 K4 IH hk0 hk1 hkl
      go_enter Try.func92, Try.ntmps92
      go_wp2
      go_ret
      exact ⟨rfl, HSP.out⟩
    obtain ⟨y0, y1⟩ := HS1.out.at2 1 rfl
    obtain ⟨z0, z1, z2⟩ := HS1.out.at3 2 rfl
    obtain ⟨q3', -⟩ := Tr.cel1 HS1.out 0 rfl
    obtain ⟨q4', q6'⟩ := Tr.cel1 HS1.out 3 rfl
    obtain ⟨g0, g1, g2⟩ := HS1.out.at3 5 rfl
    by_cases h3 : x1 = 1
    · subst h3
      clear K3 K4 IH hkl
      by_cases hb : pr = -1 ∧ tk = s2 ∧ ks.length = 0
      · obtain ⟨rfl, rfl, hb3⟩ := hb
        have he := HLK.out
        rw [if_neg h1, if_neg h2, if_pos rfl, if_neg (by omega)] at he
        subst he
        generalize ks.length = nk at *
        subst hb3
        clear HLK
        have HS9 := Lib.hid ((HS1.out.pick [3, 0, 1, 2, 4, 5] 6 rfl rfl).setCel 0 (.int .i64 (tk + 1)))
        clear HS1
        go_enter Try.func92, Try.ntmps92
        go_wp2
        go_ret
        exact ⟨rfl, HS9.out.pick [1, 0, 4, 5] 6 rfl rfl⟩
      · have he := HLK.out
        rw [if_neg h1, if_neg h2, if_pos rfl, if_pos (by omega)] at he
        subst he
        clear HLK
        by_cases hb1 : pr = -1
        · subst hb1
          by_cases hb2 : tk = s2
          · subst hb2
            have hb3 : ks.length ≠ 0 := by omega
            have hb4 : ((ks.length : Int) != 0) = true := by rw [bne_iff_ne]; omega
            clear hb
            go_enter Try.func92, Try.ntmps92
            go_wp2
            go_ret
            exact ⟨rfl, HSP.out⟩
          · have hb4 : (tk != s2) = true := by simpa using hb2
            clear hb
            go_enter Try.func92, Try.ntmps92
            go_wp2
            go_ret
            exact ⟨rfl, HSP.out⟩
        · have hb4 : (pr != -1) = true := by simpa using hb1
          clear hb
          go_enter Try.func92, Try.ntmps92
          go_wp2
          go_ret
          exact ⟨rfl, HSP.out⟩
    · have h3' : (x1 == 1) = false := by rw [beq_eq_false_iff_ne]; exact h3
      by_cases hb : pr < 0 ∨ (l.length : Int) ≤ pr ∨ (l.getD pr.toNat (0, [])).1 ≠ x2 ∨ tk ≠ 0 ∨ ks.length ≠ (l.getD pr.toNat (0, [])).2.length
      · have he := HLK.out
        rw [if_neg h1, if_neg h2, if_neg h3, if_pos hb] at he
        subst he
        clear HLK K3 K4 IH hkl
        by_cases hb1 : pr < 0
        · clear hb
          go_enter Try.func92, Try.ntmps92
          go_wp2
          go_ret
          exact ⟨rfl, HSP.out⟩
        have hb1' : decide (pr < 0) = false := decide_eq_false hb1
        obtain ⟨p, rfl⟩ := Int.eq_ofNat_of_zero_le (by omega : 0 ≤ pr)
        by_cases hb2 : (l.length : Int) ≤ p
        · clear hb
          go_enter Try.func92, Try.ntmps92
          go_wp2
          go_ret
          exact ⟨rfl, HSP.out⟩
        have hb2' : decide (l.length ≤ p) = false := decide_eq_false (by omega)
        have hlt : p < l.length := by omega
        obtain ⟨rfl, -, -⟩ := P3.out (by omega)
        obtain ⟨vb, c1, c2, hbody, -⟩ := P4.out p hlt
        obtain ⟨ab, bb, ob, cb, rfl, -, -, -⟩ := slTwo hbody
        rw [Int.toNat_natCast] at hb
        generalize l.getD p (0, []) = pp at *
        obtain ⟨h0, body⟩ := pp
        simp only at c1 c2 hb
        have c1 := bkeep HS1.out.bel c1
        have c2 := bkeep HS1.out.bel c2
        have hlt2 : (p : Int) < l.length := by omega
        clear hbody
        by_cases hb4 : tk = 0
        · subst hb4
          have HSQ := Lib.hid ((HS1.out.alloc #[.int .i64 h0, .slice ab body.length cb] 186).pick (ρ := Tr.env gN gL gK gG T tg ng (.slice (some ⟨bp, op, none⟩) l.length cp) (s1 + 1, s2) μ) [1, 4, 5, 6] 7 rfl rfl)
          obtain ⟨x0', x1'⟩ := (HS1.out.alloc #[.int .i64 h0, .slice ab body.length cb] 186).at2 0 rfl
          by_cases hb3 : h0 = x2
          · subst hb3
            have hb5 : body.length ≠ ks.length := by omega
            clear hb
            go_enter Try.func92, Try.ntmps92
            go_wp2
            go_ret
            exact ⟨rfl, HSQ.out⟩
          · have hb5 : (h0 != x2) = true := by simpa using hb3
            clear hb
            go_enter Try.func92, Try.ntmps92
            go_wp2
            go_ret
            exact ⟨rfl, HSQ.out⟩
        · have hb5 : (tk != 0) = true := by simpa using hb4
          clear hb
          go_enter Try.func92, Try.ntmps92
          go_wp2
          go_ret
          exact ⟨rfl, HSP.out⟩
      · have he := HLK.out
        rw [if_neg h1, if_neg h2, if_neg h3, if_neg hb] at he
        obtain ⟨hb1, hb2, hb3, hb4, hb5⟩ : 0 ≤ pr ∧ pr < l.length ∧ (l.getD pr.toNat (0, [])).1 = x2 ∧ tk = 0 ∧ ks.length = (l.getD pr.toNat (0, [])).2.length := by omega
        subst hb4
        clear HLK hb HSP
        obtain ⟨p, rfl⟩ := Int.eq_ofNat_of_zero_le hb1
        have hlt : p < l.length := by omega
        obtain ⟨rfl, -, -⟩ := P3.out (by omega)
        obtain ⟨vb, c1, c2, hbody, -⟩ := P4.out p hlt
        obtain ⟨ab, bb, ob, cb, rfl, hbl, b3, b4⟩ := slTwo hbody
        rw [Int.toNat_natCast] at hb3 hb5 he
        generalize l.getD p (0, []) = pp at *
        obtain ⟨h0, body⟩ := pp
        simp only at c1 c2 hb3 hb5 he b3 b4 hbl
        subst hb3
        have B3 := Lib.hid b3; have B4 := Lib.hid b4
        have HB5 := Lib.hid hb5
        have c1 := bkeep HS1.out.bel c1
        have c2 := bkeep HS1.out.bel c2
        have hlt2 : (p : Int) < l.length := by omega
        have hb6 : ((body.length : Int) != (ks.length : Int)) = false := by rw [bne_eq_false_iff_eq]; omega
        have HLK := Lib.hid he
        have hb1' : decide ((p : Int) < 0) = false := decide_eq_false (by omega)
        have hb2' : decide (l.length ≤ p) = false := decide_eq_false (by omega)
        obtain ⟨x0', x1'⟩ := (HS1.out.alloc #[.int .i64 h0, .slice ab body.length cb] 186).at2 0 rfl
        have HSB := Lib.hid (HS1.out.alloc #[.int .i64 h0, .slice ab body.length cb] 186)
        simp only [World.size_setCell, World.size_alloc] at HSB
        obtain ⟨gP, hgP⟩ : ∃ g, w.heap.size + 1 + 1 = g := ⟨_, rfl⟩
        have HGP := Lib.hid hgP
        clear hbody b3 b4 hb5 he hb1 hb2 hgP HS1
        go_enter Try.func92, Try.ntmps92
        go_wp2
        go_loopg [12] ks.length (fun gk i wr => ∃ (k : Nat) (s' : Tr.S2), k ≤ ks.length ∧ gk = ks.length - k ∧ i = .int .i64 k ∧ Tr.In s' ∧ Hid (Tr.lookK (fun k y s => Tr.look l n k y (deep + 1) s) (ks.drop k) (body.drop k) s' = R) ∧ St w0 wr (Tr.env gN gL gK gG T tg ng (.slice (some ⟨bp, op, none⟩) l.length cp) s' (aCel (w.heap.size + 1 + 1) 186 #[.int .i64 h0, .slice ab body.length cb] :: aCel w.heap.size 71 #[.int .i64 p, .int .i64 0, .slice ak ks.length ck] :: μ)))
        case atStart => exact ⟨0, (s1 + 1, s2), by omega, by omega, rfl, ⟨by simp only []; omega, by simp only []; omega, by simp only []; omega, by simp only []; omega⟩, Lib.hid HLK.out, HSB.out.pick [1, 4, 5, 6, 0, 3] 7 rfl rfl⟩
        case round =>
          clear HLK HSB z0 z1 z2 q3 q5 y0 y1 q3' q4' q6' g0 g1 g2 c1 c2 x0' x1' hb1' hb2' hb6 HGP
          obtain ⟨k, s', hk, hgk, rfl, hin', HLK, hst⟩ := hrel
          have HGK := Lib.hid hgk
          clear hgk
          by_cases hlt3 : k < ks.length
          · have hkb : k < body.length := by have := HB5.out; omega
            obtain ⟨rfl, -, -⟩ := K3.out (by omega)
            obtain ⟨ka, kc, d0, d1, d2, hkid⟩ := K4.out k hlt3
            obtain ⟨rfl, -, -⟩ := B3.out (by omega)
            obtain ⟨e0, e1, -, -⟩ := B4.out k hkb
            have he := HLK.out
            rw [Tr.lookK_at hlt3 hkb] at he
            have hcall := fun μ w' hs => IH.out (ks.getD k Tr.nil) #[.int .i64 (ks.getD k Tr.nil).prod, .int .i64 (ks.getD k Tr.nil).tok, .slice ka (ks.getD k Tr.nil).kids.length kc] (body.getD k (0, 0)) (deep + 1) s' μ w' hkid hin' (by omega) (by omega) hs
            have hout := Tr.look_out (l := l) (n := n) (t := ks.getD k Tr.nil) (x := body.getD k (0, 0)) (deep := deep + 1) (s := s') hin'
            generalize Tr.look l n (ks.getD k Tr.nil) (body.getD k (0, 0)) (deep + 1) s' = Y at *
            generalize body.getD k (0, 0) = y at *
            obtain ⟨v0, hv0⟩ : ∃ v, v = (ks.getD k Tr.nil).prod := ⟨_, rfl⟩
            obtain ⟨v1, hv1⟩ : ∃ v, v = (ks.getD k Tr.nil).tok := ⟨_, rfl⟩
            obtain ⟨v2, hv2⟩ : ∃ v, v = (ks.getD k Tr.nil).kids.length := ⟨_, rfl⟩
            simp only [← hv0, ← hv1, ← hv2] at *
            clear hv0 hv1 hv2
            obtain ⟨y1, y2⟩ := y
            simp only at e0 e1 hcall
            have D0 := Lib.hid d0; have D1 := Lib.hid d1; have D2 := Lib.hid d2; have E0 := Lib.hid e0; have E1 := Lib.hid e1; have HCALL := Lib.hid hcall; have HOUT := Lib.hid hout
            have HLK2 := Lib.hid he
            obtain ⟨Y1, Y2⟩ := Y
            have hlt4 : (k : Int) < ks.length := by omega
            have hkb4 : (k : Int) < body.length := by omega
            have hwd : IntKind.i64.wrap (deep + 1) = deep + 1 := IntWalk.i64_in _ (by omega)
            have d0 := bkeep hst.bel d0
            have d1 := bkeep hst.bel d1
            have d2 := bkeep hst.bel d2
            have e0 := bkeep hst.bel e0
            have e1 := bkeep hst.bel e1
            obtain ⟨z0, z1, z2⟩ := hst.at3 5 rfl
            obtain ⟨x0, x1'⟩ := hst.at2 4 rfl
            obtain ⟨q2, -⟩ := Tr.cel1 hst 2 rfl
            have HST := Lib.hid hst
            have HSTD := Lib.hid hst.drew
            clear hst HLK he hcall hout hkid
            go_wp2_with (fail)
            clear z0 z1 x0
            refine wp_region_held_drew (S := (fun w' => w'.cell? ⟨gK, 0, none⟩ = some (Tr.fnV gN gL gK gG) ∧ w'.cell? ⟨w.heap.size, 2, none⟩ = some (.slice (some ⟨bk, ok, none⟩) ks.length ck) ∧ w'.cell? ⟨bk, ok + k * 3, none⟩ = some (.int .i64 v0) ∧ w'.cell? ⟨bk, ok + k * 3 + 1, none⟩ = some (.int .i64 v1) ∧ w'.cell? ⟨bk, ok + k * 3 + 2, none⟩ = some (.slice ka v2 kc) ∧ w'.cell? ⟨w.heap.size + 1 + 1, 1, none⟩ = some (.slice (some ⟨bb, ob, none⟩) body.length cb) ∧ w'.cell? ⟨bb, ob + k * 2, none⟩ = some (.int .i64 y1) ∧ w'.cell? ⟨bb, ob + k * 2 + 1, none⟩ = some (.int .i64 y2))) (by kernel_rfl) ?_ (fun hHeld => ?_)
            · (try dsimp only); (first | exact ⟨q2, z2, d0, d1, d2, x1', e0, e1⟩ | go_keep)

            refine wpAnyH_take (i := 0) (v := ?_) rfl (by kernel_rfl) (by kernel_rfl) (by kernel_rfl) (fun _ _ _ h => h) (Or.inl ⟨by rfl, ?_⟩) (by assumption) ?_
            rotate_left; focus (intro w hSw; (try dsimp only at hSw); go_simp; try (with_reducible rfl); done)
            try simp only [List.getElem_toArray, List.getElem_cons_zero, List.getElem_cons_succ, Act.put, List.setIfInBounds_toArray, List.set_cons_zero, List.set_cons_succ]
            refine wpAnyH_take (i := 1) (v := ?_) rfl (by kernel_rfl) (by kernel_rfl) (by kernel_rfl) (fun _ _ _ h => h) (Or.inl ⟨by rfl, ?_⟩) (by assumption) ?_
            rotate_left; focus (intro w hSw; (try dsimp only at hSw); go_simp; try (with_reducible rfl); done)
            try simp only [List.getElem_toArray, List.getElem_cons_zero, List.getElem_cons_succ, Act.put, List.setIfInBounds_toArray, List.set_cons_zero, List.set_cons_succ]
            refine wpAnyH_take (i := 2) (v := ?_) rfl (by kernel_rfl) (by kernel_rfl) (by kernel_rfl) (fun _ _ _ h => h) (Or.inl ⟨by rfl, ?_⟩) (by assumption) ?_
            rotate_left; focus (intro w hSw; (try dsimp only at hSw); go_simp; try (with_reducible rfl); done)
            try simp only [List.getElem_toArray, List.getElem_cons_zero, List.getElem_cons_succ, Act.put, List.setIfInBounds_toArray, List.set_cons_zero, List.set_cons_succ]
            refine wpAnyH_take (i := 3) (v := ?_) rfl (by kernel_rfl) (by kernel_rfl) (by kernel_rfl) (fun _ _ _ h => h) (Or.inl ⟨by rfl, ?_⟩) (by assumption) ?_
            rotate_left; focus (intro w hSw; (try dsimp only at hSw); go_simp; try (with_reducible rfl); done)
            try simp only [List.getElem_toArray, List.getElem_cons_zero, List.getElem_cons_succ, Act.put, List.setIfInBounds_toArray, List.set_cons_zero, List.set_cons_succ]
            refine wpAnyH_take (i := 4) (v := ?_) rfl (by kernel_rfl) (by kernel_rfl) (by kernel_rfl) (fun _ _ _ h => h) (Or.inl ⟨by rfl, ?_⟩) (by assumption) ?_
            rotate_left; focus (intro w hSw; (try dsimp only at hSw); go_simp; try (with_reducible rfl); done)
            try simp only [List.getElem_toArray, List.getElem_cons_zero, List.getElem_cons_succ, Act.put, List.setIfInBounds_toArray, List.set_cons_zero, List.set_cons_succ]
            refine wpAnyH_take (i := 5) (v := ?_) rfl (by kernel_rfl) (by kernel_rfl) (by kernel_rfl) (fun _ _ _ h => h) (Or.inl ⟨by rfl, ?_⟩) (by assumption) ?_
            rotate_left; focus (intro w hSw; (try dsimp only at hSw); go_simp; try (with_reducible rfl); done)
            try simp only [List.getElem_toArray, List.getElem_cons_zero, List.getElem_cons_succ, Act.put, List.setIfInBounds_toArray, List.set_cons_zero, List.set_cons_succ]
            refine wpAnyH_take (i := 6) (v := ?_) rfl (by kernel_rfl) (by kernel_rfl) (by kernel_rfl) (fun _ _ _ h => h) (Or.inl ⟨by rfl, ?_⟩) (by assumption) ?_
            rotate_left; focus (intro w hSw; (try dsimp only at hSw); go_simp; try (with_reducible rfl); done)
            try simp only [List.getElem_toArray, List.getElem_cons_zero, List.getElem_cons_succ, Act.put, List.setIfInBounds_toArray, List.set_cons_zero, List.set_cons_succ]
            refine wpAnyH_take (i := 7) (v := ?_) rfl (by kernel_rfl) (by kernel_rfl) (by kernel_rfl) (fun _ _ _ h => h) (Or.inl ⟨by rfl, ?_⟩) (by assumption) ?_
            rotate_left; focus (intro w hSw; (try dsimp only at hSw); go_simp; try (with_reducible rfl); done)
            try simp only [List.getElem_toArray, List.getElem_cons_zero, List.getElem_cons_succ, Act.put, List.setIfInBounds_toArray, List.set_cons_zero, List.set_cons_succ]
            refine wpAnyH_take (i := 8) (v := ?_) rfl (by kernel_rfl) (by kernel_rfl) (by kernel_rfl) (fun _ _ _ h => h) (Or.inl ⟨by rfl, ?_⟩) (by assumption) ?_
            rotate_left; focus (intro w hSw; (try dsimp only at hSw); go_simp; try (with_reducible rfl); done)
            try simp only [List.getElem_toArray, List.getElem_cons_zero, List.getElem_cons_succ, Act.put, List.setIfInBounds_toArray, List.set_cons_zero, List.set_cons_succ]
            refine wpAnyH_take (i := 9) (v := ?_) rfl (by kernel_rfl) (by kernel_rfl) (by kernel_rfl) (fun _ _ _ h => h) (Or.inl ⟨by rfl, ?_⟩) (by assumption) ?_
            rotate_left; focus (intro w hSw; (try dsimp only at hSw); go_simp; try (with_reducible rfl); done)
            try simp only [List.getElem_toArray, List.getElem_cons_zero, List.getElem_cons_succ, Act.put, List.setIfInBounds_toArray, List.set_cons_zero, List.set_cons_succ]
            refine wpAnyH_take (i := 10) (v := ?_) rfl (by kernel_rfl) (by kernel_rfl) (by kernel_rfl) (fun _ _ _ h => h) (Or.inl ⟨by rfl, ?_⟩) (by assumption) ?_
            rotate_left; focus (intro w hSw; (try dsimp only at hSw); go_simp; try (with_reducible rfl); done)
            try simp only [List.getElem_toArray, List.getElem_cons_zero, List.getElem_cons_succ, Act.put, List.setIfInBounds_toArray, List.set_cons_zero, List.set_cons_succ]
            refine wpAnyH_take (i := 11) (v := ?_) rfl (by kernel_rfl) (by kernel_rfl) (by kernel_rfl) (fun _ _ _ h => h) (Or.inl ⟨by rfl, ?_⟩) (by assumption) ?_
            rotate_left; focus (intro w hSw; (try dsimp only at hSw); go_simp; try (with_reducible rfl); done)
            try simp only [List.getElem_toArray, List.getElem_cons_zero, List.getElem_cons_succ, Act.put, List.setIfInBounds_toArray, List.set_cons_zero, List.set_cons_succ]
            refine wpAnyH_take (i := 12) (v := ?_) rfl (by kernel_rfl) (by kernel_rfl) (by kernel_rfl) (fun _ _ _ h => h) (Or.inl ⟨by rfl, ?_⟩) (by assumption) ?_
            rotate_left; focus (intro w hSw; (try dsimp only at hSw); go_simp; try (with_reducible rfl); done)
            try simp only [List.getElem_toArray, List.getElem_cons_zero, List.getElem_cons_succ, Act.put, List.setIfInBounds_toArray, List.set_cons_zero, List.set_cons_succ]
            refine wpAnyH_ready (rs := [13]) (by kernel_rfl) (by simp) ?_
            refine AllReadyH.cons rfl (fun K hK => ?_) AllReadyH.nil
            go_simp
            (go_at_call 92; refine (HCALL.out _ _ HSTD.out).mono ?_; rintro e w8 ⟨rfl, hst8⟩; have HSTE := Lib.hid hst8; obtain ⟨q2, -⟩ := Tr.cel1 hst8 2 rfl; obtain ⟨z0, z1, z2⟩ := hst8.at3 5 rfl; obtain ⟨x0, x1'⟩ := hst8.at2 4 rfl; have d0 := bkeep hst8.bel D0.out; have d1 := bkeep hst8.bel D1.out; have d2 := bkeep hst8.bel D2.out; have e0 := bkeep hst8.bel E0.out; have e1 := bkeep hst8.bel E1.out; clear hst8)
            refine hK.out _ _ ?_ (fun hHeld => ?_)
            · (try dsimp only); (first | exact ⟨q2, z2, d0, d1, d2, x1', e0, e1⟩ | go_keep)
            clear hK K
            try simp only [List.getElem_toArray, List.getElem_cons_zero, List.getElem_cons_succ, Act.put, List.setIfInBounds_toArray, List.set_cons_zero, List.set_cons_succ]
            refine wpAnyH_take (i := 14) (v := ?_) rfl (by kernel_rfl) (by kernel_rfl) (by kernel_rfl) (fun _ _ _ h => h) (Or.inl ⟨by rfl, ?_⟩) (by assumption) ?_
            rotate_left; focus (intro w hSw; (try dsimp only at hSw); go_simp; try (with_reducible rfl); done)
            try simp only [List.getElem_toArray, List.getElem_cons_zero, List.getElem_cons_succ, Act.put, List.setIfInBounds_toArray, List.set_cons_zero, List.set_cons_succ]
            refine wpAnyH_done (by kernel_rfl) ?_ _
            clear d0 d1 d2 z2 x1' q2 e0 e1 HCALL HSTD D0 D1 D2 E0 E1
            have he := HLK2.out
            by_cases hy : Y1 = 0
            · subst hy
              rw [if_pos rfl] at he
              have HLK := Lib.hid he
              clear HLK2 he
              have hin2 := (HOUT.out.2.2.2.2.1 rfl)
              have hin3 : Tr.In Y2 := ⟨HOUT.out.1, hin2, HOUT.out.2.2.1, HOUT.out.2.2.2.1⟩
              clear hin2
              go_wp2
              go_roundg (ks.length - (k + 1))
              case measure => have := HGK.out; omega
              case rel => exact ⟨k + 1, Y2, by omega, rfl, by go_num, hin3, HLK, HSTE.out⟩
            · rw [if_neg hy] at he
              subst he
              have hy' : (Y1 != 0) = true := by simpa using hy
              clear HLK2
              go_wp2
              go_ret
              exact ⟨rfl, HSTE.out.pick [0, 1, 2, 3] 6 rfl rfl⟩
          · have he := HLK.out
            rw [Tr.lookK_end hlt3] at he
            subst he
            have HST := Lib.hid hst
            obtain ⟨x0, x1'⟩ := hst.at2 4 rfl
            clear hst HLK
            have hlt4 : ¬ (k : Int) < body.length := by have := HB5.out; omega
            go_wp2
            go_ret
            exact ⟨rfl, HST.out.pick [0, 1, 2, 3] 6 rfl rfl⟩
end Go.Proofs.Ytldapomcjfkeeaa
