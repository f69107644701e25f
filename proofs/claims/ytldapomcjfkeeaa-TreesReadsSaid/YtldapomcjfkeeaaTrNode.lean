/-
  node of package trees: is a tree one of a grammar?
-/
import Derived.Test.YtldapomcjfkeeaaTrRd
import Derived.Deep.LoopGhost
import Derived.Deep.QuietTactic
import Derived.BigQuiet
namespace Go.Proofs.Ytldapomcjfkeeaa
set_option linter.unusedVariables false
set_option linter.unusedSimpArgs false
open Go.ChangeShapes Go.WideShapes Go.ChangeAt Go.RowKit

theorem Tr.cel5 {w0 w : World} {μ : List Asrt} {g : Nat} {T : TypeId} {v0 v1 v2 v3 v4 : Value} (h : St w0 w μ) (i : Nat) (hA : μ[i]? = some (aCel g T #[v0, v1, v2, v3, v4])) :
    w.cell? ⟨g, 0, none⟩ = some v0 ∧ w.cell? ⟨g, 1, none⟩ = some v1 ∧ w.cell? ⟨g, 2, none⟩ = some v2 ∧ w.cell? ⟨g, 3, none⟩ = some v3 ∧ w.cell? ⟨g, 4, none⟩ = some v4 ∧ w.frozen? ⟨g, 3, none⟩ = false ∧ w.frozen? ⟨g, 4, none⟩ = false := by
  have h1 := h.nth i hA
  exact ⟨h1.celAt rfl, h1.celAt rfl, h1.celAt rfl, h1.celAt rfl, h1.celAt rfl, h1.celFree 3, h1.celFree 4⟩
namespace Tr
def walker (W : Nat) (tg ng : Int) (vp : Value) (s : S2) : Asrt := aCel W 194 #[.int .i64 tg, .int .i64 ng, vp, .int .i64 s.1, .int .i64 s.2]
theorem lookK_at {f : Tr → (Int × Int) → S2 → Int × S2} {ks : List Tr} {b : List (Int × Int)} {s : S2} {k : Nat} (h1 : k < ks.length) (h2 : k < b.length) :
    lookK f (ks.drop k) (b.drop k) s = if (f (ks.getD k nil) (b.getD k (0, 0)) s).1 = 0 then lookK f (ks.drop (k + 1)) (b.drop (k + 1)) (f (ks.getD k nil) (b.getD k (0, 0)) s).2 else f (ks.getD k nil) (b.getD k (0, 0)) s := by
  rw [Gr.drop_at ks nil k h1, Gr.drop_at b (0, 0) k h2, lookK]
  rfl
theorem lookK_end {f : Tr → (Int × Int) → S2 → Int × S2} {ks : List Tr} {b : List (Int × Int)} {s : S2} {k : Nat} (h1 : ¬ k < ks.length) : lookK f (ks.drop k) b s = (0, s) := by
  rw [List.drop_eq_nil_of_le (by omega), lookK]
end Tr

set_option maxRecDepth 100000 in
set_option maxHeartbeats 8000000 in
theorem trNode_any (w0 : World) (W : Nat) (tg ng : Int) (vp : Value) (l : List (Int × List (Int × Int))) (F : Nat → Prop) (hp : Enc.prods.R F w0 [vp] l) (hl : l.length ≤ 40) (hb8 : ∀ p ∈ l, p.2.length ≤ 8) :
    ∀ (n : Nat) (t : Tr) (cs : Array Value) (x : Int × Int) (deep : Int) (s : Tr.S2) (μ : List Asrt) (w : World), (Tr.enc n).R F w0 cs.toList t → Tr.In s → 1 ≤ deep → deep ≤ 101 → St w0 w (Tr.walker W tg ng vp s :: μ) →
      Calls Try.prog 103 #[.pointer (some ⟨W, 0, none⟩), .agg cs, .agg #[.int .i64 x.1, .int .i64 x.2], .int .i64 deep] w fun e w' => e = .returned (.int .i64 (Tr.look l n t x deep s).1) ∧ St w0 w' (Tr.walker W tg ng vp (Tr.look l n t x deep s).2 :: μ) := by
  obtain ⟨ap, bp, op, cp, rfl, -, p3, p4⟩ := slProds hp
  have P3 := Lib.hid p3; have P4 := Lib.hid p4; have HL := Lib.hid hl; have HB8 := Lib.hid hb8
  clear p3 p4 hp hl hb8
  intro n
  induction n with
  | zero => intro t cs x deep s μ w h; exact h.elim
  | succ n ih =>
    intro t cs x deep s μ w ht hin hd0 hd1 hst
    obtain ⟨m, hm, vk, hcs, ⟨hp0, hp1⟩, ⟨hk0, hk1⟩, hk⟩ := Tr.opened ht
    obtain rfl : n = m := by omega
    obtain rfl : cs = #[.int .i64 t.prod, .int .i64 t.tok, vk] := Array.toList_inj.1 hcs
    obtain ⟨ak, bk, ok, ck, rfl, hkl, k3, k4⟩ := Tr.kidsAt hk
    obtain ⟨x1, x2⟩ := x
    obtain ⟨s1, s2⟩ := s
    obtain ⟨hi0, hi1, hi2, hi3⟩ := hin
    simp only at hi0 hi1 hi2 hi3
    have hO := Tr.look_out (l := l) (n := n + 1) (t := t) (x := (x1, x2)) (deep := deep) (s := (s1, s2)) ⟨hi0, hi1, hi2, hi3⟩
    obtain ⟨R, hLK⟩ : ∃ R, Tr.look l (n + 1) t (x1, x2) deep (s1, s2) = R := ⟨_, rfl⟩
    rw [hLK] at hO ⊢
    rw [Tr.look] at hLK
    have hbig := (hst.alloc #[.int .i64 t.prod, .int .i64 t.tok, .slice ak t.kids.length ck] 71).alloc #[.int .i64 x1, .int .i64 x2] 96
    simp only [World.size_alloc] at hbig
    obtain ⟨q0, q1, q2, q3, q4, q5, q6⟩ := Tr.cel5 hbig 2 rfl
    simp only at q3 q4
    have hs1 : St w0 (((w.alloc (.cells #[.int .i64 t.prod, .int .i64 t.tok, .slice ak t.kids.length ck] 71)).alloc (.cells #[.int .i64 x1, .int .i64 x2] 96)).setCell ⟨W, 3, none⟩ (.int .i64 (s1 + 1))) (aCel W 194 #[.int .i64 tg, .int .i64 ng, .slice ap l.length cp, .int .i64 (s1 + 1), .int .i64 s2] :: aCel (w.heap.size + 1) 96 #[.int .i64 x1, .int .i64 x2] :: aCel w.heap.size 71 #[.int .i64 t.prod, .int .i64 t.tok, .slice ak t.kids.length ck] :: μ) :=
      (hbig.get3).setCel 3 (.int .i64 (s1 + 1))
    have HS1 := Lib.hid hs1
    have HO := Lib.hid hO
    have K3 := Lib.hid k3; have K4 := Lib.hid k4; have IH := Lib.hid ih
    clear hst hbig hs1 hO k3 k4 ih hk ht hm hcs
    have hbN : Tr.badN l t (x1, x2) = (t.prod < 0 ∨ (l.length : Int) ≤ t.prod ∨ (l.getD t.prod.toNat (0, [])).1 ≠ x2 ∨ t.tok ≠ 0 ∨ t.kids.length ≠ (l.getD t.prod.toNat (0, [])).2.length) := rfl
    have hbT : Tr.badT t s2 = (t.prod ≠ -1 ∨ t.tok ≠ s2 ∨ t.kids.length ≠ 0) := rfl
    simp only [hbN, hbT] at hLK
    have HLK := Lib.hid hLK
    clear hLK hbN hbT
    generalize t.prod = pr at *
    generalize t.tok = tk at *
    generalize t.kids = ks at *
    by_cases h1 : 1000 < s1 + 1
    · have he := HLK.out
      rw [if_pos h1] at he
      subst he
      clear HLK K3 K4 IH hk0 hk1 hkl
      go_enter Try.func103, Try.ntmps103
      go_wp2
      go_ret
      exact ⟨rfl, HS1.out.pick [0] 3 rfl rfl⟩
    by_cases h2 : 100 < deep
    · have he := HLK.out
      rw [if_neg h1, if_pos h2] at he
      subst he
      clear HLK K3 K4 IH hk0 hk1 hkl
      go_enter Try.func103, Try.ntmps103
      go_wp2
      go_ret
      exact ⟨rfl, HS1.out.pick [0] 3 rfl rfl⟩
    obtain ⟨y0, y1⟩ := HS1.out.at2 1 rfl
    obtain ⟨z0, z1, z2⟩ := HS1.out.at3 2 rfl
    obtain ⟨q0', q1', q2', q3', q4', -, q6'⟩ := Tr.cel5 HS1.out 0 rfl
    by_cases h3 : x1 = 1
    · subst h3
      clear K3 K4 IH hkl
      by_cases hb : pr = -1 ∧ tk = s2 ∧ ks.length = 0
      · obtain ⟨rfl, rfl, hb3⟩ := hb
        have he := HLK.out
        rw [if_neg h1, if_neg h2, if_pos rfl, if_neg (by omega)] at he
        subst he
        generalize ks.length = nk at *
        subst hb3
        clear HLK
        have HSN := Lib.hid fun n => HS1.out.drewN n
        go_enter Try.func103, Try.ntmps103
        go_wp2
        go_quiet (fail)
        have hs9 := HSN.out nq
        obtain ⟨-, -, -, -, f4, -, f6⟩ := Tr.cel5 hs9 0 rfl
        have HS9 := Lib.hid (hs9.setCel 4 (.int .i64 (tk + 1)))
        clear hs9 HSN HS1
        go_wp2
        go_ret
        exact ⟨rfl, HS9.out.pick [0] 3 rfl rfl⟩
      · have he := HLK.out
        rw [if_neg h1, if_neg h2, if_pos rfl, if_pos (by omega)] at he
        subst he
        clear HLK
        have HSN := Lib.hid fun n => (HS1.out.drewN n).pick [0] 3 rfl rfl
        by_cases hb1 : pr = -1
        · subst hb1
          by_cases hb2 : tk = s2
          · subst hb2
            have hb3 : 0 < ks.length := by omega
            have hb4 : (0 : Int) < ks.length := by omega
            clear hb
            go_enter Try.func103, Try.ntmps103
            go_wp2
            go_quiet (fail)
            go_wp2
            go_ret
            exact ⟨rfl, HSN.out _⟩
          · have hb4 : (tk != s2) = true := by simpa using hb2
            clear hb
            go_enter Try.func103, Try.ntmps103
            go_wp2
            go_quiet (fail)
            go_wp2
            go_ret
            exact ⟨rfl, HSN.out _⟩
        · have hb4 : (pr != -1) = true := by simpa using hb1
          clear hb
          go_enter Try.func103, Try.ntmps103
          go_wp2
          go_quiet (fail)
          go_wp2
          go_ret
          exact ⟨rfl, HSN.out _⟩
    · by_cases hb : pr < 0 ∨ (l.length : Int) ≤ pr ∨ (l.getD pr.toNat (0, [])).1 ≠ x2 ∨ tk ≠ 0 ∨ ks.length ≠ (l.getD pr.toNat (0, [])).2.length
      · have he := HLK.out
        rw [if_neg h1, if_neg h2, if_neg h3, if_pos hb] at he
        subst he
        clear HLK K3 K4 IH hkl
        have HSN := Lib.hid fun n => (HS1.out.drewN n).pick [0] 3 rfl rfl
        have h3' : (x1 == 1) = false := by rw [beq_eq_false_iff_ne]; exact h3
        by_cases hb1 : pr < 0
        · clear hb
          go_enter Try.func103, Try.ntmps103
          go_wp2
          go_quiet (fail)
          go_wp2
          go_ret
          exact ⟨rfl, HSN.out _⟩
        have hb1' : decide (pr < 0) = false := decide_eq_false hb1
        obtain ⟨p, rfl⟩ := Int.eq_ofNat_of_zero_le (by omega : 0 ≤ pr)
        by_cases hb2 : (l.length : Int) ≤ p
        · clear hb
          go_enter Try.func103, Try.ntmps103
          go_wp2
          go_quiet (fail)
          go_wp2
          go_ret
          exact ⟨rfl, HSN.out _⟩
        have hb2' : decide (l.length ≤ p) = false := decide_eq_false (by omega)
        have hlt : p < l.length := by omega
        obtain ⟨rfl, -, -⟩ := P3.out (by omega)
        obtain ⟨vb, c1, c2, hbody, -⟩ := P4.out p hlt
        obtain ⟨ab, bb, ob, cb, rfl, -, -, -⟩ := slTwo hbody
        rw [Int.toNat_natCast] at hb
        generalize l.getD p (0, []) = pp at *
        obtain ⟨h0, body⟩ := pp
        simp only at c1 c2 hb
        have c1 := bkeep HS1.out.bel c1
        have c2 := bkeep HS1.out.bel c2
        have hlt2 : (p : Int) < l.length := by omega
        clear hbody
        by_cases hb3 : h0 = x2
        · subst hb3
          by_cases hb4 : tk = 0
          · subst hb4
            have hb5 : ((ks.length : Int) != (body.length : Int)) = true := by rw [bne_iff_ne]; omega
            clear hb
            go_enter Try.func103, Try.ntmps103
            go_wp2
            go_quiet (fail)
            go_wp2
            go_ret
            exact ⟨rfl, HSN.out _⟩
          · have hb5 : (tk != 0) = true := by simpa using hb4
            clear hb
            go_enter Try.func103, Try.ntmps103
            go_wp2
            go_quiet (fail)
            go_wp2
            go_ret
            exact ⟨rfl, HSN.out _⟩
        · have hb5 : (h0 != x2) = true := by simpa using hb3
          clear hb
          go_enter Try.func103, Try.ntmps103
          go_wp2
          go_quiet (fail)
          go_wp2
          go_ret
          exact ⟨rfl, HSN.out _⟩
      · have he := HLK.out
        rw [if_neg h1, if_neg h2, if_neg h3, if_neg hb] at he
        have h3' : (x1 == 1) = false := by rw [beq_eq_false_iff_ne]; exact h3
        obtain ⟨hb1, hb2, hb3, hb4, hb5⟩ : 0 ≤ pr ∧ pr < l.length ∧ (l.getD pr.toNat (0, [])).1 = x2 ∧ tk = 0 ∧ ks.length = (l.getD pr.toNat (0, [])).2.length := by omega
        subst hb4
        clear HLK hb
        obtain ⟨p, rfl⟩ := Int.eq_ofNat_of_zero_le hb1
        have hlt : p < l.length := by omega
        obtain ⟨rfl, -, -⟩ := P3.out (by omega)
        obtain ⟨vb, c1, c2, hbody, -⟩ := P4.out p hlt
        obtain ⟨ab, bb, ob, cb, rfl, -, b3, b4⟩ := slTwo hbody
        rw [Int.toNat_natCast] at hb3 hb5 he
        generalize l.getD p (0, []) = pp at *
        obtain ⟨h0, body⟩ := pp
        simp only at c1 c2 hb3 hb5 he b3 b4
        subst hb3
        have C1 := Lib.hid c1; have C2 := Lib.hid c2; have B3 := Lib.hid b3; have B4 := Lib.hid b4
        have HB5 := Lib.hid hb5
        have c1 := bkeep HS1.out.bel c1
        have c2 := bkeep HS1.out.bel c2
        have hlt2 : (p : Int) < l.length := by omega
        have hb5' : ((ks.length : Int) != (body.length : Int)) = false := by rw [bne_eq_false_iff_eq]; omega
        have HLK := Lib.hid he
        have hb1' : decide ((p : Int) < 0) = false := decide_eq_false (by omega)
        have hb2' : decide (l.length ≤ p) = false := decide_eq_false (by omega)
        have HSN := Lib.hid fun n => HS1.out.drewN n
        clear hbody b3 b4 hb5 he hb1 hb2
        go_enter Try.func103, Try.ntmps103
        go_wp2
        go_quiet (fail)
        have HS2 := Lib.hid (HSN.out nq)
        clear HSN HS1 q0 q1 q2 q3 q4 q5 q6 q0' q1' q2' q3' q4' q6' y0 y1 z0 z1 z2 c1 c2 hb1' hb2' hb5'
        generalize World.drewN _ _ = w9 at *
        obtain ⟨z0, z1, z2⟩ := HS2.out.at3 2 rfl
        go_wp2
        go_loopg [112] ks.length (fun gk i wr => ∃ (k : Nat) (s' : Tr.S2), k ≤ ks.length ∧ gk = ks.length - k ∧ i = .int .i64 k ∧ Tr.In s' ∧ Hid (Tr.lookK (fun k y s => Tr.look l n k y (deep + 1) s) (ks.drop k) (body.drop k) s' = R) ∧ St w0 wr (Tr.walker W tg ng (.slice (some ⟨bp, op, none⟩) l.length cp) s' :: aCel (w.heap.size + 1) 96 #[.int .i64 x1, .int .i64 h0] :: aCel w.heap.size 71 #[.int .i64 p, .int .i64 0, .slice ak ks.length ck] :: μ))
        case atStart => exact ⟨0, (s1 + 1, s2), by omega, by omega, rfl, ⟨by simp only []; omega, by simp only []; omega, by simp only []; omega, by simp only []; omega⟩, Lib.hid HLK.out, HS2.out⟩
        case round =>
          clear HLK HS2 z0 z1 z2
          obtain ⟨k, s', hk, hgk, rfl, hin', HLK, hst⟩ := hrel
          have HGK := Lib.hid hgk
          clear hgk
          by_cases hlt3 : k < ks.length
          · have hkb : k < body.length := by have := HB5.out; omega
            obtain ⟨rfl, -, -⟩ := K3.out (by omega)
            obtain ⟨ka, kc, d0, d1, d2, hkid⟩ := K4.out k hlt3
            obtain ⟨rfl, -, -⟩ := B3.out (by omega)
            obtain ⟨e0, e1, -, -⟩ := B4.out k hkb
            have he := HLK.out
            rw [Tr.lookK_at hlt3 hkb] at he
            have hcall := fun μ w' hs => IH.out (ks.getD k Tr.nil) #[.int .i64 (ks.getD k Tr.nil).prod, .int .i64 (ks.getD k Tr.nil).tok, .slice ka (ks.getD k Tr.nil).kids.length kc] (body.getD k (0, 0)) (deep + 1) s' μ w' hkid hin' (by omega) (by omega) hs
            have hout := Tr.look_out (l := l) (n := n) (t := ks.getD k Tr.nil) (x := body.getD k (0, 0)) (deep := deep + 1) (s := s') hin'
            generalize Tr.look l n (ks.getD k Tr.nil) (body.getD k (0, 0)) (deep + 1) s' = Y at *
            generalize body.getD k (0, 0) = y at *
            obtain ⟨v0, hv0⟩ : ∃ v, v = (ks.getD k Tr.nil).prod := ⟨_, rfl⟩
            obtain ⟨v1, hv1⟩ : ∃ v, v = (ks.getD k Tr.nil).tok := ⟨_, rfl⟩
            obtain ⟨v2, hv2⟩ : ∃ v, v = (ks.getD k Tr.nil).kids.length := ⟨_, rfl⟩
            simp only [← hv0, ← hv1, ← hv2] at *
            clear hv0 hv1 hv2
            obtain ⟨y1, y2⟩ := y
            simp only at e0 e1 hcall
            have D0 := Lib.hid d0; have E0 := Lib.hid e0; have E1 := Lib.hid e1; have HCALL := Lib.hid hcall; have HOUT := Lib.hid hout
            have HLK2 := Lib.hid he
            obtain ⟨Y1, Y2⟩ := Y
            have hlt4 : (k : Int) < ks.length := by omega
            have hkb4 : (k : Int) < body.length := by omega
            have hwd : IntKind.i64.wrap (deep + 1) = deep + 1 := IntWalk.i64_in _ (by omega)
            have d0 := bkeep hst.bel d0
            have d1 := bkeep hst.bel d1
            have d2 := bkeep hst.bel d2
            obtain ⟨z0, z1, z2⟩ := hst.at3 2 rfl
            have hst2 := hst.alloc #[.int .i64 v0, .int .i64 v1, .slice ka v2 kc] 71
            have HST2 := Lib.hid hst2
            have HST := Lib.hid hst
            clear hst hst2 HLK he hcall hout hkid e0 e1
            go_wp2
            obtain ⟨x0, x1', x2'⟩ := HST2.out.at3 0 rfl
            obtain ⟨q0, q1, q2, q3, q4, -, -⟩ := Tr.cel5 HST2.out 1 rfl
            obtain ⟨z0, z1, z2⟩ := HST2.out.at3 3 rfl
            have c2 := bkeep HST2.out.bel C2.out
            have e0 := bkeep HST2.out.bel E0.out
            have e1 := bkeep HST2.out.bel E1.out
            have HSTD := Lib.hid (HST2.out.drew.pick [1, 0, 2, 3] 4 rfl rfl)
            clear q0 q1 q3 q4 z1 z2 d0 d1 d2 HST2 HST
            refine wp_region_held_drew (S := (fun w' => w'.cell? ⟨wr.heap.size, 0, none⟩ = some (.int .i64 v0) ∧ w'.cell? ⟨wr.heap.size, 1, none⟩ = some (.int .i64 v1) ∧ w'.cell? ⟨wr.heap.size, 2, none⟩ = some (.slice ka v2 kc) ∧ w'.cell? ⟨W, 2, none⟩ = some (.slice (some ⟨bp, op, none⟩) l.length cp) ∧ w'.cell? ⟨w.heap.size, 0, none⟩ = some (.int .i64 p) ∧ w'.cell? ⟨bp, op + p * 2 + 1, none⟩ = some (.slice (some ⟨bb, ob, none⟩) body.length cb) ∧ w'.cell? ⟨bb, ob + k * 2, none⟩ = some (.int .i64 y1) ∧ w'.cell? ⟨bb, ob + k * 2 + 1, none⟩ = some (.int .i64 y2))) (by kernel_rfl) ?_ (fun hHeld => ?_)
            · (try dsimp only); (first | exact ⟨x0, x1', x2', q2, z0, c2, e0, e1⟩ | go_keep)

            refine wpAnyH_take (i := 0) (v := ?_) rfl (by kernel_rfl) (by kernel_rfl) (by kernel_rfl) (fun _ _ _ h => h) (Or.inl ⟨by rfl, ?_⟩) (by assumption) ?_
            rotate_left; focus (intro w hSw; (try dsimp only at hSw); go_simp; try (with_reducible rfl); done)
            try simp only [List.getElem_toArray, List.getElem_cons_zero, List.getElem_cons_succ, Act.put, List.setIfInBounds_toArray, List.set_cons_zero, List.set_cons_succ]
            refine wpAnyH_take (i := 1) (v := ?_) rfl (by kernel_rfl) (by kernel_rfl) (by kernel_rfl) (fun _ _ _ h => h) (Or.inl ⟨by rfl, ?_⟩) (by assumption) ?_
            rotate_left; focus (intro w hSw; (try dsimp only at hSw); go_simp; try (with_reducible rfl); done)
            try simp only [List.getElem_toArray, List.getElem_cons_zero, List.getElem_cons_succ, Act.put, List.setIfInBounds_toArray, List.set_cons_zero, List.set_cons_succ]
            refine wpAnyH_take (i := 2) (v := ?_) rfl (by kernel_rfl) (by kernel_rfl) (by kernel_rfl) (fun _ _ _ h => h) (Or.inl ⟨by rfl, ?_⟩) (by assumption) ?_
            rotate_left; focus (intro w hSw; (try dsimp only at hSw); go_simp; try (with_reducible rfl); done)
            try simp only [List.getElem_toArray, List.getElem_cons_zero, List.getElem_cons_succ, Act.put, List.setIfInBounds_toArray, List.set_cons_zero, List.set_cons_succ]
            refine wpAnyH_take (i := 3) (v := ?_) rfl (by kernel_rfl) (by kernel_rfl) (by kernel_rfl) (fun _ _ _ h => h) (Or.inl ⟨by rfl, ?_⟩) (by assumption) ?_
            rotate_left; focus (intro w hSw; (try dsimp only at hSw); go_simp; try (with_reducible rfl); done)
            try simp only [List.getElem_toArray, List.getElem_cons_zero, List.getElem_cons_succ, Act.put, List.setIfInBounds_toArray, List.set_cons_zero, List.set_cons_succ]
            refine wpAnyH_take (i := 4) (v := ?_) rfl (by kernel_rfl) (by kernel_rfl) (by kernel_rfl) (fun _ _ _ h => h) (Or.inl ⟨by rfl, ?_⟩) (by assumption) ?_
            rotate_left; focus (intro w hSw; (try dsimp only at hSw); go_simp; try (with_reducible rfl); done)
            try simp only [List.getElem_toArray, List.getElem_cons_zero, List.getElem_cons_succ, Act.put, List.setIfInBounds_toArray, List.set_cons_zero, List.set_cons_succ]
            refine wpAnyH_take (i := 5) (v := ?_) rfl (by kernel_rfl) (by kernel_rfl) (by kernel_rfl) (fun _ _ _ h => h) (Or.inl ⟨by rfl, ?_⟩) (by assumption) ?_
            rotate_left; focus (intro w hSw; (try dsimp only at hSw); go_simp; try (with_reducible rfl); done)
            try simp only [List.getElem_toArray, List.getElem_cons_zero, List.getElem_cons_succ, Act.put, List.setIfInBounds_toArray, List.set_cons_zero, List.set_cons_succ]
            refine wpAnyH_take (i := 6) (v := ?_) rfl (by kernel_rfl) (by kernel_rfl) (by kernel_rfl) (fun _ _ _ h => h) (Or.inl ⟨by rfl, ?_⟩) (by assumption) ?_
            rotate_left; focus (intro w hSw; (try dsimp only at hSw); go_simp; try (with_reducible rfl); done)
            try simp only [List.getElem_toArray, List.getElem_cons_zero, List.getElem_cons_succ, Act.put, List.setIfInBounds_toArray, List.set_cons_zero, List.set_cons_succ]
            refine wpAnyH_take (i := 7) (v := ?_) rfl (by kernel_rfl) (by kernel_rfl) (by kernel_rfl) (fun _ _ _ h => h) (Or.inl ⟨by rfl, ?_⟩) (by assumption) ?_
            rotate_left; focus (intro w hSw; (try dsimp only at hSw); go_simp; try (with_reducible rfl); done)
            try simp only [List.getElem_toArray, List.getElem_cons_zero, List.getElem_cons_succ, Act.put, List.setIfInBounds_toArray, List.set_cons_zero, List.set_cons_succ]
            refine wpAnyH_take (i := 8) (v := ?_) rfl (by kernel_rfl) (by kernel_rfl) (by kernel_rfl) (fun _ _ _ h => h) (Or.inl ⟨by rfl, ?_⟩) (by assumption) ?_
            rotate_left; focus (intro w hSw; (try dsimp only at hSw); go_simp; try (with_reducible rfl); done)
            try simp only [List.getElem_toArray, List.getElem_cons_zero, List.getElem_cons_succ, Act.put, List.setIfInBounds_toArray, List.set_cons_zero, List.set_cons_succ]
            refine wpAnyH_take (i := 9) (v := ?_) rfl (by kernel_rfl) (by kernel_rfl) (by kernel_rfl) (fun _ _ _ h => h) (Or.inl ⟨by rfl, ?_⟩) (by assumption) ?_
            rotate_left; focus (intro w hSw; (try dsimp only at hSw); go_simp; try (with_reducible rfl); done)
            try simp only [List.getElem_toArray, List.getElem_cons_zero, List.getElem_cons_succ, Act.put, List.setIfInBounds_toArray, List.set_cons_zero, List.set_cons_succ]
            refine wpAnyH_take (i := 10) (v := ?_) rfl (by kernel_rfl) (by kernel_rfl) (by kernel_rfl) (fun _ _ _ h => h) (Or.inl ⟨by rfl, ?_⟩) (by assumption) ?_
            rotate_left; focus (intro w hSw; (try dsimp only at hSw); go_simp; try (with_reducible rfl); done)
            try simp only [List.getElem_toArray, List.getElem_cons_zero, List.getElem_cons_succ, Act.put, List.setIfInBounds_toArray, List.set_cons_zero, List.set_cons_succ]
            refine wpAnyH_take (i := 11) (v := ?_) rfl (by kernel_rfl) (by kernel_rfl) (by kernel_rfl) (fun _ _ _ h => h) (Or.inl ⟨by rfl, ?_⟩) (by assumption) ?_
            rotate_left; focus (intro w hSw; (try dsimp only at hSw); go_simp; try (with_reducible rfl); done)
            try simp only [List.getElem_toArray, List.getElem_cons_zero, List.getElem_cons_succ, Act.put, List.setIfInBounds_toArray, List.set_cons_zero, List.set_cons_succ]
            refine wpAnyH_take (i := 12) (v := ?_) rfl (by kernel_rfl) (by kernel_rfl) (by kernel_rfl) (fun _ _ _ h => h) (Or.inl ⟨by rfl, ?_⟩) (by assumption) ?_
            rotate_left; focus (intro w hSw; (try dsimp only at hSw); go_simp; try (with_reducible rfl); done)
            try simp only [List.getElem_toArray, List.getElem_cons_zero, List.getElem_cons_succ, Act.put, List.setIfInBounds_toArray, List.set_cons_zero, List.set_cons_succ]
            refine wpAnyH_take (i := 13) (v := ?_) rfl (by kernel_rfl) (by kernel_rfl) (by kernel_rfl) (fun _ _ _ h => h) (Or.inl ⟨by rfl, ?_⟩) (by assumption) ?_
            rotate_left; focus (intro w hSw; (try dsimp only at hSw); go_simp; try (with_reducible rfl); done)
            try simp only [List.getElem_toArray, List.getElem_cons_zero, List.getElem_cons_succ, Act.put, List.setIfInBounds_toArray, List.set_cons_zero, List.set_cons_succ]
            refine wpAnyH_take (i := 14) (v := ?_) rfl (by kernel_rfl) (by kernel_rfl) (by kernel_rfl) (fun _ _ _ h => h) (Or.inl ⟨by rfl, ?_⟩) (by assumption) ?_
            rotate_left; focus (intro w hSw; (try dsimp only at hSw); go_simp; try (with_reducible rfl); done)
            try simp only [List.getElem_toArray, List.getElem_cons_zero, List.getElem_cons_succ, Act.put, List.setIfInBounds_toArray, List.set_cons_zero, List.set_cons_succ]
            refine wpAnyH_take (i := 15) (v := ?_) rfl (by kernel_rfl) (by kernel_rfl) (by kernel_rfl) (fun _ _ _ h => h) (Or.inl ⟨by rfl, ?_⟩) (by assumption) ?_
            rotate_left; focus (intro w hSw; (try dsimp only at hSw); go_simp; try (with_reducible rfl); done)
            try simp only [List.getElem_toArray, List.getElem_cons_zero, List.getElem_cons_succ, Act.put, List.setIfInBounds_toArray, List.set_cons_zero, List.set_cons_succ]
            refine wpAnyH_take (i := 16) (v := ?_) rfl (by kernel_rfl) (by kernel_rfl) (by kernel_rfl) (fun _ _ _ h => h) (Or.inl ⟨by rfl, ?_⟩) (by assumption) ?_
            rotate_left; focus (intro w hSw; (try dsimp only at hSw); go_simp; try (with_reducible rfl); done)
            try simp only [List.getElem_toArray, List.getElem_cons_zero, List.getElem_cons_succ, Act.put, List.setIfInBounds_toArray, List.set_cons_zero, List.set_cons_succ]
            refine wpAnyH_ready (rs := [17]) (by kernel_rfl) (by simp) ?_
            refine AllReadyH.cons rfl (fun K hK => ?_) AllReadyH.nil
            go_simp
            (go_at_call 103; refine (HCALL.out _ _ HSTD.out).mono ?_; rintro e w8 ⟨rfl, hst8⟩; have HSTE := Lib.hid hst8; obtain ⟨x0, x1', x2'⟩ := hst8.at3 1 rfl; obtain ⟨-, -, q2, -, -, -, -⟩ := Tr.cel5 hst8 0 rfl; obtain ⟨z0, -, -⟩ := hst8.at3 3 rfl; have c2 := bkeep hst8.bel C2.out; have e0 := bkeep hst8.bel E0.out; have e1 := bkeep hst8.bel E1.out; clear hst8)
            refine hK.out _ _ ?_ (fun hHeld => ?_)
            · (try dsimp only); (first | exact ⟨x0, x1', x2', q2, z0, c2, e0, e1⟩ | go_keep)
            clear hK K
            try simp only [List.getElem_toArray, List.getElem_cons_zero, List.getElem_cons_succ, Act.put, List.setIfInBounds_toArray, List.set_cons_zero, List.set_cons_succ]
            refine wpAnyH_take (i := 18) (v := ?_) rfl (by kernel_rfl) (by kernel_rfl) (by kernel_rfl) (fun _ _ _ h => h) (Or.inl ⟨by rfl, ?_⟩) (by assumption) ?_
            rotate_left; focus (intro w hSw; (try dsimp only at hSw); go_simp; try (with_reducible rfl); done)
            try simp only [List.getElem_toArray, List.getElem_cons_zero, List.getElem_cons_succ, Act.put, List.setIfInBounds_toArray, List.set_cons_zero, List.set_cons_succ]
            refine wpAnyH_done (by kernel_rfl) ?_ _
            clear x0 x1' x2' q2 z0 c2 e0 e1 HCALL HSTD C1 C2 D0 E0 E1
            have he := HLK2.out
            by_cases hy : Y1 = 0
            · subst hy
              rw [if_pos rfl] at he
              have HLK := Lib.hid he
              clear HLK2 he
              have hin2 := (HOUT.out.2.2.2.2.1 rfl)
              have hin3 : Tr.In Y2 := ⟨HOUT.out.1, hin2, HOUT.out.2.2.1, HOUT.out.2.2.2.1⟩
              clear hin2
              go_wp2
              go_roundg (ks.length - (k + 1))
              case measure => have := HGK.out; omega
              case rel => exact ⟨k + 1, Y2, by omega, rfl, by go_num, hin3, HLK, HSTE.out.pick [0, 2, 3] 4 rfl rfl⟩
            · rw [if_neg hy] at he
              subst he
              have hy' : (Y1 != 0) = true := by simpa using hy
              clear HLK2
              go_wp2
              go_ret
              exact ⟨rfl, HSTE.out.pick [0] 4 rfl rfl⟩
          · have he := HLK.out
            rw [Tr.lookK_end hlt3] at he
            subst he
            have HST := Lib.hid hst
            obtain ⟨z0, z1, z2⟩ := hst.at3 2 rfl
            clear hst HLK
            have hlt4 : ¬ (k : Int) < ks.length := by omega
            go_wp2
            go_ret
            exact ⟨rfl, HST.out.pick [0] 3 rfl rfl⟩
end Go.Proofs.Ytldapomcjfkeeaa
