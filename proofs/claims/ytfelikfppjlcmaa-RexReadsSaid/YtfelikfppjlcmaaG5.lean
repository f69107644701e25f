/-
  Parts of the proof of RexReads, put together: RpAlt RpRef6 RpParse RcRef RpRead RexReadsW. (Helper texts.)
-/
import Derived.Test.YtfelikfppjlcmaaG2
import Derived.Test.YtfelikfppjlcmaaG4

/-
  ends, cat, alt of package rex's reader; all of them, however many brackets are open.
-/
namespace Go.Proofs.Ytfelikfppjlcmaa
set_option linter.unusedVariables false
set_option linter.unusedSimpArgs false
open Go.ChangeShapes Go.WideShapes Go.ChangeAt Go.RowKit

namespace Rp
def endsB (s : ByteArray) (a : Nat) : Bool := decide (pk s a = 124 ∨ pk s a = 41 ∨ pk s a = -1)
end Rp

set_option maxRecDepth 100000 in
set_option maxHeartbeats 1600000 in
theorem rpEnds_any (s : ByteArray) (a : Nat) (op e : Int) (R : Nat) (w0 w : World) (μ : List Asrt) (h : St w0 w (Rp.rd R s a op e :: μ)) (ha : a ≤ s.size) (hs : s.size ≤ 300) :
    Calls Try.prog 156 #[.pointer (some ⟨R, 0, none⟩)] w fun ex w' => ex = .returned (.bool (!decide (e = 0) || Rp.endsB s a)) ∧ St w0 w' (Rp.rd R s a op e :: μ) := by
  obtain ⟨c0, c1, c2, c3, f1, f2, f3⟩ := Rp.rdAt h
  have HST := Lib.hid (fun n => h.drewN n)
  clear h
  by_cases he : e = 0
  · subst he
    rw [decide_eq_true rfl, Bool.not_true, Bool.false_or]
    by_cases hl : a < s.size
    · unfold Rp.endsB
      rw [Rp.pk_in hl]
      have hlt : (a : Int) < s.size := by omega
      have hne : ((a : Int) == (s.size : Int)) = false := by rw [beq_eq_false_iff_ne]; omega
      have ha0 : (0 : Int) ≤ a := by omega
      have hg : ((s[a]'hl).toNat : Int) = (Rp.byt s a : Int) := by rw [Rp.byt_get]
      have hix := Rp.bar_index _ (Rp.byt_lt s a)
      have HX := Lib.hid (fun w' => strIndex_any ⟨#[124, 41]⟩ (Rp.byt s a : Int) w')
      obtain ⟨V, hV⟩ : ∃ V, Lib.indexByte (⟨#[124, 41]⟩ : ByteArray).data.toList (Rp.byt s a : Int).toNat.toUInt8 = V := ⟨_, rfl⟩
      rw [hV] at HX
      have hV2 : decide ((Rp.byt s a : Int) = 124 ∨ (Rp.byt s a : Int) = 41 ∨ (Rp.byt s a : Int) = -1) = decide (0 ≤ V) := by
        rw [decide_eq_decide, ← hV]
        show _ ↔ 0 ≤ Lib.indexByte [124, 41] (Rp.byt s a : Int).toNat.toUInt8
        rw [hix]
        split
        · rename_i h; constructor
          · intro _; decide
          · intro _; omega
        · split
          · rename_i h; constructor
            · intro _; decide
            · intro _; omega
          · constructor
            · intro h; omega
            · intro h; exact absurd h (by decide)
      rw [hV2]
      generalize (Rp.byt s a : Int) = z at *
      clear hix hV hV2
      go_enter Try.func156, Try.ntmps156
      go_wp2
      go_quiet ((go_at_call 180; exact Calls.quiet_of_same (HX.out _)))
      have HS := HST.out nq
      go_wp2
      go_ret
      exact ⟨rfl, HS⟩
    · have hne : ((a : Int) == (s.size : Int)) = true := by rw [beq_iff_eq]; omega
      rw [show Rp.endsB s a = true from decide_eq_true (.inr (.inr (Rp.pk_out hl)))]
      go_enter Try.func156, Try.ntmps156
      go_wp2
      go_quiet (fail)
      have HS := HST.out nq
      go_wp2
      go_ret
      exact ⟨rfl, HS⟩
  · rw [decide_eq_false he, Bool.not_false, Bool.true_or]
    have hb : (e != 0) = true := by rw [bne_iff_ne]; exact he
    go_enter Try.func156, Try.ntmps156
    go_wp2
    go_quiet (fail)
    have HS := HST.out nq
    go_wp2
    go_ret
    exact ⟨rfl, HS⟩

namespace Rp
theorem catL_end {s : ByteArray} {r : Nat → Re Rx} {f a : Nat} {t : Rx} (h : endsB s a = true) : catL s r (f + 1) t a = .ok (t, a) := by rw [catL, if_pos (of_decide_eq_true h)]
theorem catL_go {s : ByteArray} {r : Nat → Re Rx} {f a : Nat} {t : Rx} (h : endsB s a = false) : catL s r (f + 1) t a = on (r a) fun u b => catL s r f (two 4 t u) b := by rw [catL, if_neg (of_decide_eq_false h)]
theorem altL_end {s : ByteArray} {r : Nat → Re Rx} {f a : Nat} {t : Rx} (h : isB s a 0 124 = false) : altL s r (f + 1) t a = .ok (t, a) := by rw [isB_ok] at h; rw [altL, if_neg (of_decide_eq_false h)]
theorem altL_go {s : ByteArray} {r : Nat → Re Rx} {f a : Nat} {t : Rx} (h : isB s a 0 124 = true) : altL s r (f + 1) t a = on (r (a + 1)) fun u b => altL s r f (two 5 t u) b := by rw [isB_ok] at h; rw [altL, if_pos (of_decide_eq_true h)]
def LoopRel (L : Nat → Rx → Nat → Re Rx) (w0 : World) (R : Nat) (s : ByteArray) (op : Int) (μ : List Asrt) (B O : Nat) (RES : Re Rx) (gk : Nat) (wr : World) : Prop :=
  ∃ (t : Rx) (b : Nat) (e : Int) (ao : Option Addr) (c : Nat) (fp : List Nat), Hid (Fine t) ∧ b ≤ s.size ∧ Hid ((e = 0 ∧ gk = s.size + 1 - b ∧ ∃ f, s.size < b + f ∧ L f t b = RES) ∨ ((e = 6 ∨ e = 7) ∧ RES = .error (e, b))) ∧
    St w0 wr (rd R s b op e :: aCel O 27 (rxA t ao c) :: kidsA fp ao c t :: aCel B 27 #[.int .i64 0, .int .u64 0, .int .u64 0, .int .u64 0, .int .u64 0, .slice none 0 0] :: μ)
end Rp


set_option maxRecDepth 100000 in
set_option maxHeartbeats 16000000 in
theorem rpCat_any (s : ByteArray) (op : Int) (r : Nat → Rp.Re Rx) (hs : s.size ≤ 300) (hfit : Rp.Fits s r) (hr : Rp.TC 155 s r op) : Rp.TC 115 s (Rp.cat s r) op := by
  intro a R w0 w μ ha h
  have hst := (h.alloc #[.int .i64 0, .int .u64 0, .int .u64 0, .int .u64 0, .int .u64 0, .slice none 0 0] 27).get2
  have HAT := Lib.hid (hr a R w0 _ _ ha hst)
  have HSUB := Lib.hid hr
  clear h hst hr
  unfold Rp.cat
  obtain ⟨A, hA⟩ : ∃ A, r a = A := ⟨_, rfl⟩
  rw [hA] at HAT ⊢
  clear hA
  obtain ⟨RES, hRES⟩ : ∃ RES, Rp.on A (fun t b => Rp.catL s r (s.size + 1 - b) t b) = RES := ⟨_, rfl⟩
  have HR := Lib.hid hRES
  rw [hRES]
  clear hRES
  go_enter Try.func115, Try.ntmps115
  go_wp2_with (fail)
  go_at_call 155
  refine HAT.out.mono ?_
  rintro ex w1 ⟨t, b, e, ao, c, fp, hout, hb, hf, rfl, hst⟩
  have hrel : ∃ gk, gk ≤ s.size + 1 ∧ Rp.LoopRel (Rp.catL s r) w0 R s op μ w.heap.size w1.heap.size RES gk (w1.alloc (.cells (Rp.rxA t ao c) 27)) := by
    have hS := (hst.alloc (Rp.rxA t ao c) 27).pick [2, 0, 1, 3] 4 (ρ := Rp.rd R s b op e :: aCel w1.heap.size 27 (Rp.rxA t ao c) :: Rp.kidsA fp ao c t :: aCel w.heap.size 27 #[.int .i64 0, .int .u64 0, .int .u64 0, .int .u64 0, .int .u64 0, .slice none 0 0] :: μ) rfl rfl
    rcases hout with ⟨rfl, rfl⟩ | ⟨he, rfl⟩
    · exact ⟨s.size + 1 - b, by omega, t, b, 0, ao, c, fp, Lib.hid hf, hb, Lib.hid (.inl ⟨rfl, rfl, s.size + 1 - b, by omega, HR.out⟩), hS⟩
    · exact ⟨0, by omega, t, b, e, ao, c, fp, Lib.hid hf, hb, Lib.hid (.inr ⟨he, HR.out.symm⟩), hS⟩
  obtain ⟨g0, hg0, hrel⟩ := hrel
  have HREL := Lib.hid hrel
  clear hrel hst hout hf HAT HR hb
  unfold Rp.rxA at HREL ⊢
  go_wp2_with (fail)
  go_loopg [] g0 (fun gk wr => Rp.LoopRel (Rp.catL s r) w0 R s op μ w.heap.size w1.heap.size RES gk wr)
  case atStart => exact HREL.out
  case round =>
    clear HREL hg0
    obtain ⟨t, b, e, ao, c, fp, HF, hb, HOUT, hst⟩ := hrel
    unfold Rp.rxA at hst
    have HS := Lib.hid hst
    clear hst
    rcases HOUT.out with ⟨rfl, hgk, f, hf, hres⟩ | ⟨he, hres⟩
    · obtain ⟨f, rfl⟩ : ∃ f', f = f' + 1 := ⟨f - 1, by omega⟩
      have HGK := Lib.hid hgk
      have HRES := Lib.hid hres
      clear hgk hres HOUT
      have HEN := Lib.hid (rpEnds_any s b op 0 R w0 _ _ HS.out hb hs)
      rw [decide_eq_true rfl, Bool.not_true, Bool.false_or] at HEN
      by_cases hE : Rp.endsB s b = true
      · rw [hE] at HEN
        have HOUTC := Lib.hid (Rp.outc_ok (HRES.out.symm.trans (Rp.catL_end hE)))
        go_wp2_with (fail)
        go_at_call 156
        refine HEN.out.mono ?_
        rintro ex w2 ⟨rfl, hst⟩
        have HS := Lib.hid hst
        clear hst HEN
        obtain ⟨z0, z1, z2, z3, z4, z5⟩ := Rx.cel6 HS.out 1 rfl
        obtain ⟨x0, x1, x2, x3, x4, x5⟩ := Rx.cel6 HS.out 3 rfl
        obtain ⟨v0, v1, v2, v3, v4, v5⟩ := Rp.free6 HS.out 3 rfl
        have HS9 := Lib.hid (Rp.set6 (HS.out.pick [3, 2, 0] 4 rfl rfl) (.int .i64 t.kind) (.int .u64 (Rp.cw t 0)) (.int .u64 (Rp.cw t 1)) (.int .u64 (Rp.cw t 2)) (.int .u64 (Rp.cw t 3)) (.slice ao t.kids.length c))
        clear HS
        go_wp2
        refine bodyPost_ret (results_row rfl _ _ w.heap.size 27 _ _ rfl (HS9.out.heapAt 0 rfl) Try.underlying27 rfl (by kernel_rfl)) rfl ?_
        exact ⟨t, b, 0, ao, c, fp, HOUTC.out, hb, HF.out, rfl, HS9.out.drop⟩
      · have hE2 : Rp.endsB s b = false := by simpa using hE
        rw [hE2] at HEN
        have hbl : b < s.size := by
          by_cases h : b < s.size
          · exact h
          · exact absurd (decide_eq_true (.inr (.inr (Rp.pk_out h)))) hE
        have hA : b ≤ s.size := hb
        have HNX := Lib.hid ((Rp.catL_go hE2).symm.trans HRES.out)
        clear hE hE2
        go_wp2_with (fail)
        go_at_call 156
        refine HEN.out.mono ?_
        rintro ex w2 ⟨rfl, hst⟩
        have HS := Lib.hid hst
        clear hst HEN
        obtain ⟨z0, z1, z2, z3, z4, z5⟩ := Rx.cel6 HS.out 1 rfl
        have HS := Lib.hid HS.out.drew
        have HSB := Lib.hid (fun w' h' => HSUB.out b R w0 w' (aCel w1.heap.size 27 #[.int .i64 t.kind, .int .u64 (Rp.cw t 0), .int .u64 (Rp.cw t 1), .int .u64 (Rp.cw t 2), .int .u64 (Rp.cw t 3), .slice ao t.kids.length c] :: Rp.kidsA fp ao c t :: aCel w.heap.size 27 #[.int .i64 0, .int .u64 0, .int .u64 0, .int .u64 0, .int .u64 0, .slice none 0 0] :: μ) hA h')
        have HFU := Lib.hid (hfit b hA)
        obtain ⟨U, hU⟩ : ∃ U, r (b) = U := ⟨_, rfl⟩
        have HNX := HNX
        rw [hU] at HSB HNX HFU
        clear hU
        go_wp2
        refine wp_region_held_drew (S := (fun w' => True)) (by kernel_rfl) ?_ (fun hHeld => ?_)
        · (try dsimp only); (first | trivial | skip)

        refine wpAnyH_take (i := 1) (v := ?_) rfl (by kernel_rfl) (by kernel_rfl) (by kernel_rfl) (fun _ _ _ h => h) (Or.inl ⟨by rfl, ?_⟩) (by assumption) ?_
        rotate_left; focus (intro w hSw; (try dsimp only at hSw); go_simp; try (with_reducible rfl); done)
        try simp only [List.getElem_toArray, List.getElem_cons_zero, List.getElem_cons_succ, Act.put, List.setIfInBounds_toArray, List.set_cons_zero, List.set_cons_succ]
        refine wpAnyH_ready (rs := [0, 2]) (by kernel_rfl) (by simp) ?_
        refine AllReadyH.cons rfl (fun K hK => ?_) (AllReadyH.cons rfl (fun K hK => ?_) (AllReadyH.nil))
        · skip
          go_simp
          refine hK.out _ _ ?_ (fun hHeld => ?_)
          · (try dsimp only); (first | trivial | skip)
          clear hK K
          try simp only [List.getElem_toArray, List.getElem_cons_zero, List.getElem_cons_succ, Act.put, List.setIfInBounds_toArray, List.set_cons_zero, List.set_cons_succ]
          refine wpAnyH_ready (rs := [2]) (by kernel_rfl) (by simp) ?_
          refine AllReadyH.cons rfl (fun K hK => ?_) (AllReadyH.nil)
          go_simp
          (go_at_call 155; refine (HSB.out _ HS.out).mono ?_; rintro ex w7 ⟨t2, b2, e2, ao2, c2, fp2, hout2, hb2, hf2, rfl, hst7⟩; have hTW := rpTwo_any 4 (by decide) (by decide) t t2 ao ao2 c c2 fp fp2 HF.out hf2 w0 w7 _ (hst7.pick (ρ := Rp.kidsA fp ao c t :: Rp.kidsA fp2 ao2 c2 t2 :: Rp.rd R s b2 op e2 :: aCel w1.heap.size 27 #[.int .i64 t.kind, .int .u64 (Rp.cw t 0), .int .u64 (Rp.cw t 1), .int .u64 (Rp.cw t 2), .int .u64 (Rp.cw t 3), .slice ao t.kids.length c] :: aCel w.heap.size 27 #[.int .i64 0, .int .u64 0, .int .u64 0, .int .u64 0, .int .u64 0, .slice none 0 0] :: μ) [3, 0, 1, 2, 4] 5 rfl rfl); unfold Rp.rxA at hTW ⊢; have HTW := Lib.hid hTW; have HOUT2 := Lib.hid hout2; have HF2 := Lib.hid hf2; clear hTW hout2 hf2 z0 z1 z2 z3 z4 z5; obtain ⟨z0, z1, z2, z3, z4, z5⟩ := Rx.cel6 hst7 2 rfl; clear hst7)
          refine hK.out _ _ ?_ (fun hHeld => ?_)
          · (try dsimp only); (first | trivial | skip)
          clear hK K
          try simp only [List.getElem_toArray, List.getElem_cons_zero, List.getElem_cons_succ, Act.put, List.setIfInBounds_toArray, List.set_cons_zero, List.set_cons_succ]
          refine wpAnyH_ready (rs := [3]) (by kernel_rfl) (by simp) ?_
          refine AllReadyH.cons rfl (fun K hK => ?_) (AllReadyH.nil)
          go_simp
          (go_at_call 117; refine HTW.out.mono ?_; rintro ex w8 ⟨g8, fr, rfl, hst8⟩; clear z0 z1 z2 z3 z4 z5; obtain ⟨z0, z1, z2, z3, z4, z5⟩ := Rx.cel6 hst8 2 rfl; obtain ⟨v0, v1, v2, v3, v4, v5⟩ := Rp.free6 hst8 2 rfl; have HS8 := Lib.hid hst8; clear hst8)
          refine hK.out _ _ ?_ (fun hHeld => ?_)
          · (try dsimp only); (first | trivial | skip)
          clear hK K
          try simp only [List.getElem_toArray, List.getElem_cons_zero, List.getElem_cons_succ, Act.put, List.setIfInBounds_toArray, List.set_cons_zero, List.set_cons_succ]
          refine wpAnyH_ready (rs := [4]) (by kernel_rfl) (by simp) ?_
          refine AllReadyH.cons rfl (fun K hK => ?_) (AllReadyH.nil)
          go_simp
          refine hK.out _ _ ?_ (fun hHeld => ?_)
          · (try dsimp only); (first | trivial | skip)
          clear hK K
          try simp only [List.getElem_toArray, List.getElem_cons_zero, List.getElem_cons_succ, Act.put, List.setIfInBounds_toArray, List.set_cons_zero, List.set_cons_succ]
          refine wpAnyH_done (by kernel_rfl) ?_ _
          have HS9 := Lib.hid ((Rp.set6 (HS8.out.pick [2, 1, 0, 3] 4 (ρ := aCel w1.heap.size 27 #[.int .i64 t.kind, .int .u64 (Rp.cw t 0), .int .u64 (Rp.cw t 1), .int .u64 (Rp.cw t 2), .int .u64 (Rp.cw t 3), .slice ao t.kids.length c] :: Rp.rd R s b2 op e2 :: Rp.kidsA fr (some ⟨g8, 0, none⟩) 2 (Rp.two 4 t t2) :: aCel w.heap.size 27 #[.int .i64 0, .int .u64 0, .int .u64 0, .int .u64 0, .int .u64 0, .slice none 0 0] :: μ) rfl rfl) (.int .i64 4) (.int .u64 0) (.int .u64 0) (.int .u64 0) (.int .u64 0) (.slice (some ⟨g8, 0, none⟩) 2 2)).get2)
          clear HS8 z0 z1 z2 z3 z4 z5 v0 v1 v2 v3 v4 v5
          obtain ⟨gk2, hgk2, hrel⟩ : ∃ gk2, gk2 < s.size + 1 - b ∧ Rp.LoopRel (Rp.catL s r) w0 R s op μ w.heap.size w1.heap.size RES gk2 _ := by
            rcases HOUT2.out with ⟨rfl, rfl⟩ | ⟨he, rfl⟩
            · have h1 := HFU.out.1
              exact ⟨s.size + 1 - b2, by omega, Rp.two 4 t t2, b2, 0, _, _, _, Lib.hid (Rp.fine_two (by decide) (by decide)), hb2, Lib.hid (.inl ⟨rfl, rfl, f, by omega, HNX.out⟩), HS9.out⟩
            · exact ⟨0, by omega, Rp.two 4 t t2, b2, e2, _, _, _, Lib.hid (Rp.fine_two (by decide) (by decide)), hb2, Lib.hid (.inr ⟨he, HNX.out.symm⟩), HS9.out⟩
          have HREL2 := Lib.hid hrel
          clear hrel
          go_wp2
          go_roundg gk2
          case measure => have := HGK.out; omega
          case rel => exact HREL2.out
        · skip
          go_simp
          (go_at_call 155; refine (HSB.out _ HS.out).mono ?_; rintro ex w7 ⟨t2, b2, e2, ao2, c2, fp2, hout2, hb2, hf2, rfl, hst7⟩; have hTW := rpTwo_any 4 (by decide) (by decide) t t2 ao ao2 c c2 fp fp2 HF.out hf2 w0 w7 _ (hst7.pick (ρ := Rp.kidsA fp ao c t :: Rp.kidsA fp2 ao2 c2 t2 :: Rp.rd R s b2 op e2 :: aCel w1.heap.size 27 #[.int .i64 t.kind, .int .u64 (Rp.cw t 0), .int .u64 (Rp.cw t 1), .int .u64 (Rp.cw t 2), .int .u64 (Rp.cw t 3), .slice ao t.kids.length c] :: aCel w.heap.size 27 #[.int .i64 0, .int .u64 0, .int .u64 0, .int .u64 0, .int .u64 0, .slice none 0 0] :: μ) [3, 0, 1, 2, 4] 5 rfl rfl); unfold Rp.rxA at hTW ⊢; have HTW := Lib.hid hTW; have HOUT2 := Lib.hid hout2; have HF2 := Lib.hid hf2; clear hTW hout2 hf2 z0 z1 z2 z3 z4 z5; obtain ⟨z0, z1, z2, z3, z4, z5⟩ := Rx.cel6 hst7 2 rfl; clear hst7)
          refine hK.out _ _ ?_ (fun hHeld => ?_)
          · (try dsimp only); (first | trivial | skip)
          clear hK K
          try simp only [List.getElem_toArray, List.getElem_cons_zero, List.getElem_cons_succ, Act.put, List.setIfInBounds_toArray, List.set_cons_zero, List.set_cons_succ]
          refine wpAnyH_ready (rs := [0]) (by kernel_rfl) (by simp) ?_
          refine AllReadyH.cons rfl (fun K hK => ?_) (AllReadyH.nil)
          go_simp
          refine hK.out _ _ ?_ (fun hHeld => ?_)
          · (try dsimp only); (first | trivial | skip)
          clear hK K
          try simp only [List.getElem_toArray, List.getElem_cons_zero, List.getElem_cons_succ, Act.put, List.setIfInBounds_toArray, List.set_cons_zero, List.set_cons_succ]
          refine wpAnyH_ready (rs := [3]) (by kernel_rfl) (by simp) ?_
          refine AllReadyH.cons rfl (fun K hK => ?_) (AllReadyH.nil)
          go_simp
          (go_at_call 117; refine HTW.out.mono ?_; rintro ex w8 ⟨g8, fr, rfl, hst8⟩; clear z0 z1 z2 z3 z4 z5; obtain ⟨z0, z1, z2, z3, z4, z5⟩ := Rx.cel6 hst8 2 rfl; obtain ⟨v0, v1, v2, v3, v4, v5⟩ := Rp.free6 hst8 2 rfl; have HS8 := Lib.hid hst8; clear hst8)
          refine hK.out _ _ ?_ (fun hHeld => ?_)
          · (try dsimp only); (first | trivial | skip)
          clear hK K
          try simp only [List.getElem_toArray, List.getElem_cons_zero, List.getElem_cons_succ, Act.put, List.setIfInBounds_toArray, List.set_cons_zero, List.set_cons_succ]
          refine wpAnyH_ready (rs := [4]) (by kernel_rfl) (by simp) ?_
          refine AllReadyH.cons rfl (fun K hK => ?_) (AllReadyH.nil)
          go_simp
          refine hK.out _ _ ?_ (fun hHeld => ?_)
          · (try dsimp only); (first | trivial | skip)
          clear hK K
          try simp only [List.getElem_toArray, List.getElem_cons_zero, List.getElem_cons_succ, Act.put, List.setIfInBounds_toArray, List.set_cons_zero, List.set_cons_succ]
          refine wpAnyH_done (by kernel_rfl) ?_ _
          have HS9 := Lib.hid ((Rp.set6 (HS8.out.pick [2, 1, 0, 3] 4 (ρ := aCel w1.heap.size 27 #[.int .i64 t.kind, .int .u64 (Rp.cw t 0), .int .u64 (Rp.cw t 1), .int .u64 (Rp.cw t 2), .int .u64 (Rp.cw t 3), .slice ao t.kids.length c] :: Rp.rd R s b2 op e2 :: Rp.kidsA fr (some ⟨g8, 0, none⟩) 2 (Rp.two 4 t t2) :: aCel w.heap.size 27 #[.int .i64 0, .int .u64 0, .int .u64 0, .int .u64 0, .int .u64 0, .slice none 0 0] :: μ) rfl rfl) (.int .i64 4) (.int .u64 0) (.int .u64 0) (.int .u64 0) (.int .u64 0) (.slice (some ⟨g8, 0, none⟩) 2 2)).get2)
          clear HS8 z0 z1 z2 z3 z4 z5 v0 v1 v2 v3 v4 v5
          obtain ⟨gk2, hgk2, hrel⟩ : ∃ gk2, gk2 < s.size + 1 - b ∧ Rp.LoopRel (Rp.catL s r) w0 R s op μ w.heap.size w1.heap.size RES gk2 _ := by
            rcases HOUT2.out with ⟨rfl, rfl⟩ | ⟨he, rfl⟩
            · have h1 := HFU.out.1
              exact ⟨s.size + 1 - b2, by omega, Rp.two 4 t t2, b2, 0, _, _, _, Lib.hid (Rp.fine_two (by decide) (by decide)), hb2, Lib.hid (.inl ⟨rfl, rfl, f, by omega, HNX.out⟩), HS9.out⟩
            · exact ⟨0, by omega, Rp.two 4 t t2, b2, e2, _, _, _, Lib.hid (Rp.fine_two (by decide) (by decide)), hb2, Lib.hid (.inr ⟨he, HNX.out.symm⟩), HS9.out⟩
          have HREL2 := Lib.hid hrel
          clear hrel
          go_wp2
          go_roundg gk2
          case measure => have := HGK.out; omega
          case rel => exact HREL2.out
    · have he2 := Rp.six_or he
      have HOUTC := Lib.hid (Rp.outc_bad (t := t) he hres)
      obtain ⟨he0, hene⟩ := he2
      have HEN := Lib.hid (rpEnds_any s b op e R w0 _ _ HS.out hb hs)
      rw [decide_eq_false hene, Bool.not_false, Bool.true_or] at HEN
      clear he hres
      go_wp2_with (fail)
      go_at_call 156
      refine HEN.out.mono ?_
      rintro ex w2 ⟨rfl, hst⟩
      have HS := Lib.hid hst
      clear hst HEN
      clear HOUT
      obtain ⟨z0, z1, z2, z3, z4, z5⟩ := Rx.cel6 HS.out 1 rfl
      obtain ⟨x0, x1, x2, x3, x4, x5⟩ := Rx.cel6 HS.out 3 rfl
      obtain ⟨v0, v1, v2, v3, v4, v5⟩ := Rp.free6 HS.out 3 rfl
      have HS9 := Lib.hid (Rp.set6 (HS.out.pick [3, 2, 0] 4 rfl rfl) (.int .i64 t.kind) (.int .u64 (Rp.cw t 0)) (.int .u64 (Rp.cw t 1)) (.int .u64 (Rp.cw t 2)) (.int .u64 (Rp.cw t 3)) (.slice ao t.kids.length c))
      clear HS
      go_wp2
      refine bodyPost_ret (results_row rfl _ _ w.heap.size 27 _ _ rfl (HS9.out.heapAt 0 rfl) Try.underlying27 rfl (by kernel_rfl)) rfl ?_
      exact ⟨t, b, e, ao, c, fp, HOUTC.out, hb, HF.out, rfl, HS9.out.drop⟩


set_option maxRecDepth 100000 in
set_option maxHeartbeats 16000000 in
theorem rpAlt_any (s : ByteArray) (op : Int) (r : Nat → Rp.Re Rx) (hs : s.size ≤ 300) (hfit : Rp.Fits s r) (hr : Rp.TC 115 s r op) : Rp.TC 52 s (Rp.alter s r) op := by
  intro a R w0 w μ ha h
  have hst := (h.alloc #[.int .i64 0, .int .u64 0, .int .u64 0, .int .u64 0, .int .u64 0, .slice none 0 0] 27).get2
  have HAT := Lib.hid (hr a R w0 _ _ ha hst)
  have HSUB := Lib.hid hr
  clear h hst hr
  unfold Rp.alter
  obtain ⟨A, hA⟩ : ∃ A, r a = A := ⟨_, rfl⟩
  rw [hA] at HAT ⊢
  clear hA
  obtain ⟨RES, hRES⟩ : ∃ RES, Rp.on A (fun t b => Rp.altL s r (s.size + 1 - b) t b) = RES := ⟨_, rfl⟩
  have HR := Lib.hid hRES
  rw [hRES]
  clear hRES
  go_enter Try.func52, Try.ntmps52
  go_wp2_with (fail)
  go_at_call 115
  refine HAT.out.mono ?_
  rintro ex w1 ⟨t, b, e, ao, c, fp, hout, hb, hf, rfl, hst⟩
  have hrel : ∃ gk, gk ≤ s.size + 1 ∧ Rp.LoopRel (Rp.altL s r) w0 R s op μ w.heap.size w1.heap.size RES gk (w1.alloc (.cells (Rp.rxA t ao c) 27)) := by
    have hS := (hst.alloc (Rp.rxA t ao c) 27).pick [2, 0, 1, 3] 4 (ρ := Rp.rd R s b op e :: aCel w1.heap.size 27 (Rp.rxA t ao c) :: Rp.kidsA fp ao c t :: aCel w.heap.size 27 #[.int .i64 0, .int .u64 0, .int .u64 0, .int .u64 0, .int .u64 0, .slice none 0 0] :: μ) rfl rfl
    rcases hout with ⟨rfl, rfl⟩ | ⟨he, rfl⟩
    · exact ⟨s.size + 1 - b, by omega, t, b, 0, ao, c, fp, Lib.hid hf, hb, Lib.hid (.inl ⟨rfl, rfl, s.size + 1 - b, by omega, HR.out⟩), hS⟩
    · exact ⟨0, by omega, t, b, e, ao, c, fp, Lib.hid hf, hb, Lib.hid (.inr ⟨he, HR.out.symm⟩), hS⟩
  obtain ⟨g0, hg0, hrel⟩ := hrel
  have HREL := Lib.hid hrel
  clear hrel hst hout hf HAT HR hb
  unfold Rp.rxA at HREL ⊢
  go_wp2_with (fail)
  go_loopg [] g0 (fun gk wr => Rp.LoopRel (Rp.altL s r) w0 R s op μ w.heap.size w1.heap.size RES gk wr)
  case atStart => exact HREL.out
  case round =>
    clear HREL hg0
    obtain ⟨t, b, e, ao, c, fp, HF, hb, HOUT, hst⟩ := hrel
    unfold Rp.rxA at hst
    have HS := Lib.hid hst
    clear hst
    rcases HOUT.out with ⟨rfl, hgk, f, hf, hres⟩ | ⟨he, hres⟩
    · obtain ⟨f, rfl⟩ : ∃ f', f = f' + 1 := ⟨f - 1, by omega⟩
      have HGK := Lib.hid hgk
      have HRES := Lib.hid hres
      clear hgk hres HOUT
      have HTK := Lib.hid (rpTake_any s b op 0 124 R w0 _ _ HS.out (by decide) hb hs)
      by_cases hE : Rp.isB s b 0 124 = true
      · rw [Rp.tk_yes hE, hE] at HTK
        have hA : b + 1 ≤ s.size := by
          have h1 := hE
          rw [Rp.isB_ok] at h1
          exact Rp.pk_lt 124 (by decide) (of_decide_eq_true h1)
        have HNX := Lib.hid ((Rp.altL_go hE).symm.trans HRES.out)
        clear hE
        go_wp2_with (fail)
        go_at_call 116
        refine HTK.out.mono ?_
        rintro ex w2 ⟨rfl, hst⟩
        have HS := Lib.hid hst
        clear hst HTK
        obtain ⟨z0, z1, z2, z3, z4, z5⟩ := Rx.cel6 HS.out 1 rfl
        have HS := Lib.hid HS.out.drew
        have HSB := Lib.hid (fun w' h' => HSUB.out (b + 1) R w0 w' (aCel w1.heap.size 27 #[.int .i64 t.kind, .int .u64 (Rp.cw t 0), .int .u64 (Rp.cw t 1), .int .u64 (Rp.cw t 2), .int .u64 (Rp.cw t 3), .slice ao t.kids.length c] :: Rp.kidsA fp ao c t :: aCel w.heap.size 27 #[.int .i64 0, .int .u64 0, .int .u64 0, .int .u64 0, .int .u64 0, .slice none 0 0] :: μ) hA h')
        have HFU := Lib.hid (hfit (b + 1) hA)
        obtain ⟨U, hU⟩ : ∃ U, r ((b + 1)) = U := ⟨_, rfl⟩
        have HNX := HNX
        rw [hU] at HSB HNX HFU
        clear hU
        go_wp2
        refine wp_region_held_drew (S := (fun w' => True)) (by kernel_rfl) ?_ (fun hHeld => ?_)
        · (try dsimp only); (first | trivial | skip)

        refine wpAnyH_take (i := 1) (v := ?_) rfl (by kernel_rfl) (by kernel_rfl) (by kernel_rfl) (fun _ _ _ h => h) (Or.inl ⟨by rfl, ?_⟩) (by assumption) ?_
        rotate_left; focus (intro w hSw; (try dsimp only at hSw); go_simp; try (with_reducible rfl); done)
        try simp only [List.getElem_toArray, List.getElem_cons_zero, List.getElem_cons_succ, Act.put, List.setIfInBounds_toArray, List.set_cons_zero, List.set_cons_succ]
        refine wpAnyH_ready (rs := [0, 2]) (by kernel_rfl) (by simp) ?_
        refine AllReadyH.cons rfl (fun K hK => ?_) (AllReadyH.cons rfl (fun K hK => ?_) (AllReadyH.nil))
        · skip
          go_simp
          refine hK.out _ _ ?_ (fun hHeld => ?_)
          · (try dsimp only); (first | trivial | skip)
          clear hK K
          try simp only [List.getElem_toArray, List.getElem_cons_zero, List.getElem_cons_succ, Act.put, List.setIfInBounds_toArray, List.set_cons_zero, List.set_cons_succ]
          refine wpAnyH_ready (rs := [2]) (by kernel_rfl) (by simp) ?_
          refine AllReadyH.cons rfl (fun K hK => ?_) (AllReadyH.nil)
          go_simp
          (go_at_call 115; refine (HSB.out _ HS.out).mono ?_; rintro ex w7 ⟨t2, b2, e2, ao2, c2, fp2, hout2, hb2, hf2, rfl, hst7⟩; have hTW := rpTwo_any 5 (by decide) (by decide) t t2 ao ao2 c c2 fp fp2 HF.out hf2 w0 w7 _ (hst7.pick (ρ := Rp.kidsA fp ao c t :: Rp.kidsA fp2 ao2 c2 t2 :: Rp.rd R s b2 op e2 :: aCel w1.heap.size 27 #[.int .i64 t.kind, .int .u64 (Rp.cw t 0), .int .u64 (Rp.cw t 1), .int .u64 (Rp.cw t 2), .int .u64 (Rp.cw t 3), .slice ao t.kids.length c] :: aCel w.heap.size 27 #[.int .i64 0, .int .u64 0, .int .u64 0, .int .u64 0, .int .u64 0, .slice none 0 0] :: μ) [3, 0, 1, 2, 4] 5 rfl rfl); unfold Rp.rxA at hTW ⊢; have HTW := Lib.hid hTW; have HOUT2 := Lib.hid hout2; have HF2 := Lib.hid hf2; clear hTW hout2 hf2 z0 z1 z2 z3 z4 z5; obtain ⟨z0, z1, z2, z3, z4, z5⟩ := Rx.cel6 hst7 2 rfl; clear hst7)
          refine hK.out _ _ ?_ (fun hHeld => ?_)
          · (try dsimp only); (first | trivial | skip)
          clear hK K
          try simp only [List.getElem_toArray, List.getElem_cons_zero, List.getElem_cons_succ, Act.put, List.setIfInBounds_toArray, List.set_cons_zero, List.set_cons_succ]
          refine wpAnyH_ready (rs := [3]) (by kernel_rfl) (by simp) ?_
          refine AllReadyH.cons rfl (fun K hK => ?_) (AllReadyH.nil)
          go_simp
          (go_at_call 117; refine HTW.out.mono ?_; rintro ex w8 ⟨g8, fr, rfl, hst8⟩; clear z0 z1 z2 z3 z4 z5; obtain ⟨z0, z1, z2, z3, z4, z5⟩ := Rx.cel6 hst8 2 rfl; obtain ⟨v0, v1, v2, v3, v4, v5⟩ := Rp.free6 hst8 2 rfl; have HS8 := Lib.hid hst8; clear hst8)
          refine hK.out _ _ ?_ (fun hHeld => ?_)
          · (try dsimp only); (first | trivial | skip)
          clear hK K
          try simp only [List.getElem_toArray, List.getElem_cons_zero, List.getElem_cons_succ, Act.put, List.setIfInBounds_toArray, List.set_cons_zero, List.set_cons_succ]
          refine wpAnyH_ready (rs := [4]) (by kernel_rfl) (by simp) ?_
          refine AllReadyH.cons rfl (fun K hK => ?_) (AllReadyH.nil)
          go_simp
          refine hK.out _ _ ?_ (fun hHeld => ?_)
          · (try dsimp only); (first | trivial | skip)
          clear hK K
          try simp only [List.getElem_toArray, List.getElem_cons_zero, List.getElem_cons_succ, Act.put, List.setIfInBounds_toArray, List.set_cons_zero, List.set_cons_succ]
          refine wpAnyH_done (by kernel_rfl) ?_ _
          have HS9 := Lib.hid ((Rp.set6 (HS8.out.pick [2, 1, 0, 3] 4 (ρ := aCel w1.heap.size 27 #[.int .i64 t.kind, .int .u64 (Rp.cw t 0), .int .u64 (Rp.cw t 1), .int .u64 (Rp.cw t 2), .int .u64 (Rp.cw t 3), .slice ao t.kids.length c] :: Rp.rd R s b2 op e2 :: Rp.kidsA fr (some ⟨g8, 0, none⟩) 2 (Rp.two 5 t t2) :: aCel w.heap.size 27 #[.int .i64 0, .int .u64 0, .int .u64 0, .int .u64 0, .int .u64 0, .slice none 0 0] :: μ) rfl rfl) (.int .i64 5) (.int .u64 0) (.int .u64 0) (.int .u64 0) (.int .u64 0) (.slice (some ⟨g8, 0, none⟩) 2 2)).get2)
          clear HS8 z0 z1 z2 z3 z4 z5 v0 v1 v2 v3 v4 v5
          obtain ⟨gk2, hgk2, hrel⟩ : ∃ gk2, gk2 < s.size + 1 - b ∧ Rp.LoopRel (Rp.altL s r) w0 R s op μ w.heap.size w1.heap.size RES gk2 _ := by
            rcases HOUT2.out with ⟨rfl, rfl⟩ | ⟨he, rfl⟩
            · have h1 := HFU.out.1
              exact ⟨s.size + 1 - b2, by omega, Rp.two 5 t t2, b2, 0, _, _, _, Lib.hid (Rp.fine_two (by decide) (by decide)), hb2, Lib.hid (.inl ⟨rfl, rfl, f, by omega, HNX.out⟩), HS9.out⟩
            · exact ⟨0, by omega, Rp.two 5 t t2, b2, e2, _, _, _, Lib.hid (Rp.fine_two (by decide) (by decide)), hb2, Lib.hid (.inr ⟨he, HNX.out.symm⟩), HS9.out⟩
          have HREL2 := Lib.hid hrel
          clear hrel
          go_wp2
          go_roundg gk2
          case measure => have := HGK.out; omega
          case rel => exact HREL2.out
        · skip
          go_simp
          (go_at_call 115; refine (HSB.out _ HS.out).mono ?_; rintro ex w7 ⟨t2, b2, e2, ao2, c2, fp2, hout2, hb2, hf2, rfl, hst7⟩; have hTW := rpTwo_any 5 (by decide) (by decide) t t2 ao ao2 c c2 fp fp2 HF.out hf2 w0 w7 _ (hst7.pick (ρ := Rp.kidsA fp ao c t :: Rp.kidsA fp2 ao2 c2 t2 :: Rp.rd R s b2 op e2 :: aCel w1.heap.size 27 #[.int .i64 t.kind, .int .u64 (Rp.cw t 0), .int .u64 (Rp.cw t 1), .int .u64 (Rp.cw t 2), .int .u64 (Rp.cw t 3), .slice ao t.kids.length c] :: aCel w.heap.size 27 #[.int .i64 0, .int .u64 0, .int .u64 0, .int .u64 0, .int .u64 0, .slice none 0 0] :: μ) [3, 0, 1, 2, 4] 5 rfl rfl); unfold Rp.rxA at hTW ⊢; have HTW := Lib.hid hTW; have HOUT2 := Lib.hid hout2; have HF2 := Lib.hid hf2; clear hTW hout2 hf2 z0 z1 z2 z3 z4 z5; obtain ⟨z0, z1, z2, z3, z4, z5⟩ := Rx.cel6 hst7 2 rfl; clear hst7)
          refine hK.out _ _ ?_ (fun hHeld => ?_)
          · (try dsimp only); (first | trivial | skip)
          clear hK K
          try simp only [List.getElem_toArray, List.getElem_cons_zero, List.getElem_cons_succ, Act.put, List.setIfInBounds_toArray, List.set_cons_zero, List.set_cons_succ]
          refine wpAnyH_ready (rs := [0]) (by kernel_rfl) (by simp) ?_
          refine AllReadyH.cons rfl (fun K hK => ?_) (AllReadyH.nil)
          go_simp
          refine hK.out _ _ ?_ (fun hHeld => ?_)
          · (try dsimp only); (first | trivial | skip)
          clear hK K
          try simp only [List.getElem_toArray, List.getElem_cons_zero, List.getElem_cons_succ, Act.put, List.setIfInBounds_toArray, List.set_cons_zero, List.set_cons_succ]
          refine wpAnyH_ready (rs := [3]) (by kernel_rfl) (by simp) ?_
          refine AllReadyH.cons rfl (fun K hK => ?_) (AllReadyH.nil)
          go_simp
          (go_at_call 117; refine HTW.out.mono ?_; rintro ex w8 ⟨g8, fr, rfl, hst8⟩; clear z0 z1 z2 z3 z4 z5; obtain ⟨z0, z1, z2, z3, z4, z5⟩ := Rx.cel6 hst8 2 rfl; obtain ⟨v0, v1, v2, v3, v4, v5⟩ := Rp.free6 hst8 2 rfl; have HS8 := Lib.hid hst8; clear hst8)
          refine hK.out _ _ ?_ (fun hHeld => ?_)
          · (try dsimp only); (first | trivial | skip)
          clear hK K
          try simp only [List.getElem_toArray, List.getElem_cons_zero, List.getElem_cons_succ, Act.put, List.setIfInBounds_toArray, List.set_cons_zero, List.set_cons_succ]
          refine wpAnyH_ready (rs := [4]) (by kernel_rfl) (by simp) ?_
          refine AllReadyH.cons rfl (fun K hK => ?_) (AllReadyH.nil)
          go_simp
          refine hK.out _ _ ?_ (fun hHeld => ?_)
          · (try dsimp only); (first | trivial | skip)
          clear hK K
          try simp only [List.getElem_toArray, List.getElem_cons_zero, List.getElem_cons_succ, Act.put, List.setIfInBounds_toArray, List.set_cons_zero, List.set_cons_succ]
          refine wpAnyH_done (by kernel_rfl) ?_ _
          have HS9 := Lib.hid ((Rp.set6 (HS8.out.pick [2, 1, 0, 3] 4 (ρ := aCel w1.heap.size 27 #[.int .i64 t.kind, .int .u64 (Rp.cw t 0), .int .u64 (Rp.cw t 1), .int .u64 (Rp.cw t 2), .int .u64 (Rp.cw t 3), .slice ao t.kids.length c] :: Rp.rd R s b2 op e2 :: Rp.kidsA fr (some ⟨g8, 0, none⟩) 2 (Rp.two 5 t t2) :: aCel w.heap.size 27 #[.int .i64 0, .int .u64 0, .int .u64 0, .int .u64 0, .int .u64 0, .slice none 0 0] :: μ) rfl rfl) (.int .i64 5) (.int .u64 0) (.int .u64 0) (.int .u64 0) (.int .u64 0) (.slice (some ⟨g8, 0, none⟩) 2 2)).get2)
          clear HS8 z0 z1 z2 z3 z4 z5 v0 v1 v2 v3 v4 v5
          obtain ⟨gk2, hgk2, hrel⟩ : ∃ gk2, gk2 < s.size + 1 - b ∧ Rp.LoopRel (Rp.altL s r) w0 R s op μ w.heap.size w1.heap.size RES gk2 _ := by
            rcases HOUT2.out with ⟨rfl, rfl⟩ | ⟨he, rfl⟩
            · have h1 := HFU.out.1
              exact ⟨s.size + 1 - b2, by omega, Rp.two 5 t t2, b2, 0, _, _, _, Lib.hid (Rp.fine_two (by decide) (by decide)), hb2, Lib.hid (.inl ⟨rfl, rfl, f, by omega, HNX.out⟩), HS9.out⟩
            · exact ⟨0, by omega, Rp.two 5 t t2, b2, e2, _, _, _, Lib.hid (Rp.fine_two (by decide) (by decide)), hb2, Lib.hid (.inr ⟨he, HNX.out.symm⟩), HS9.out⟩
          have HREL2 := Lib.hid hrel
          clear hrel
          go_wp2
          go_roundg gk2
          case measure => have := HGK.out; omega
          case rel => exact HREL2.out
      · have hE2 : Rp.isB s b 0 124 = false := by simpa using hE
        rw [Rp.tk_no hE2, hE2] at HTK
        have HOUTC := Lib.hid (Rp.outc_ok (HRES.out.symm.trans (Rp.altL_end hE2)))
        clear hE hE2
        go_wp2_with (fail)
        go_at_call 116
        refine HTK.out.mono ?_
        rintro ex w2 ⟨rfl, hst⟩
        have HS := Lib.hid hst
        clear hst HTK
        obtain ⟨z0, z1, z2, z3, z4, z5⟩ := Rx.cel6 HS.out 1 rfl
        obtain ⟨x0, x1, x2, x3, x4, x5⟩ := Rx.cel6 HS.out 3 rfl
        obtain ⟨v0, v1, v2, v3, v4, v5⟩ := Rp.free6 HS.out 3 rfl
        have HS9 := Lib.hid (Rp.set6 (HS.out.pick [3, 2, 0] 4 rfl rfl) (.int .i64 t.kind) (.int .u64 (Rp.cw t 0)) (.int .u64 (Rp.cw t 1)) (.int .u64 (Rp.cw t 2)) (.int .u64 (Rp.cw t 3)) (.slice ao t.kids.length c))
        clear HS
        go_wp2
        refine bodyPost_ret (results_row rfl _ _ w.heap.size 27 _ _ rfl (HS9.out.heapAt 0 rfl) Try.underlying27 rfl (by kernel_rfl)) rfl ?_
        exact ⟨t, b, 0, ao, c, fp, HOUTC.out, hb, HF.out, rfl, HS9.out.drop⟩
    · have he2 := Rp.six_or he
      have HOUTC := Lib.hid (Rp.outc_bad (t := t) he hres)
      obtain ⟨he0, hene⟩ := he2
      have HTK := Lib.hid (rpTake_any s b op e 124 R w0 _ _ HS.out (by decide) hb hs)
      rw [Rp.isB_bad hene, Rp.tk_no (Rp.isB_bad hene)] at HTK
      clear he hres
      go_wp2_with (fail)
      go_at_call 116
      refine HTK.out.mono ?_
      rintro ex w2 ⟨rfl, hst⟩
      have HS := Lib.hid hst
      clear hst HTK
      clear HOUT
      obtain ⟨z0, z1, z2, z3, z4, z5⟩ := Rx.cel6 HS.out 1 rfl
      obtain ⟨x0, x1, x2, x3, x4, x5⟩ := Rx.cel6 HS.out 3 rfl
      obtain ⟨v0, v1, v2, v3, v4, v5⟩ := Rp.free6 HS.out 3 rfl
      have HS9 := Lib.hid (Rp.set6 (HS.out.pick [3, 2, 0] 4 rfl rfl) (.int .i64 t.kind) (.int .u64 (Rp.cw t 0)) (.int .u64 (Rp.cw t 1)) (.int .u64 (Rp.cw t 2)) (.int .u64 (Rp.cw t 3)) (.slice ao t.kids.length c))
      clear HS
      go_wp2
      refine bodyPost_ret (results_row rfl _ _ w.heap.size 27 _ _ rfl (HS9.out.heapAt 0 rfl) Try.underlying27 rfl (by kernel_rfl)) rfl ?_
      exact ⟨t, b, e, ao, c, fp, HOUTC.out, hb, HF.out, rfl, HS9.out.drop⟩


theorem rpAltOf_any (s : ByteArray) (hs : s.size ≤ 300) (op : Int) (br : Nat → Rp.Re Rx) (hfit : ∀ a, a < s.size → Rp.Fit s Rp.Big a (br a)) (hbr : Rp.TB 203 s br op) : Rp.TC 52 s (Rp.altOf s br) op :=
  rpAlt_any s op _ hs (Rp.cat_fit (Rp.rep_fit (Rp.atom_fit hfit))) (rpCat_any s op _ hs (Rp.rep_fit (Rp.atom_fit hfit)) (rpRep_any s op _ hs (Rp.atom_fit hfit) (rpAtom_any s op br hs hbr)))
theorem rpBrk_any (s : ByteArray) (hs : s.size ≤ 300) : ∀ d : Nat, d ≤ 30 → Rp.TB 203 s (Rp.brkD s d) (30 - (d : Int)) := by
  intro d
  induction d with
  | zero => intro _; exact rpBrk0_any s
  | succ d ih =>
    intro hd
    rw [Rp.brkD_succ]
    refine rpBrkS_any s hs _ _ (by omega) (by omega) ?_
    have h1 := rpAltOf_any s hs _ _ (Rp.brkD_fit d) (ih (by omega))
    rw [show (30 : Int) - ((d + 1 : Nat) : Int) + 1 = 30 - (d : Int) by omega]
    exact h1
theorem rpAltD_any (s : ByteArray) (hs : s.size ≤ 300) : Rp.TC 52 s (Rp.altD s 30) 0 := rpAltOf_any s hs 0 _ (Rp.brkD_fit 30) (rpBrk_any s hs 30 (by omega))
end Go.Proofs.Ytfelikfppjlcmaa

/-
  The reference's reader of regular expressions: cat, alt; all of them, however many brackets are open.
-/
namespace Go.Proofs.Ytfelikfppjlcmaa
set_option linter.unusedVariables false
set_option linter.unusedSimpArgs false
open Go.ChangeShapes Go.WideShapes Go.ChangeAt Go.RowKit


set_option maxRecDepth 100000 in
set_option maxHeartbeats 2000000 in
theorem rrCat_any (s : ByteArray) (op : Int) (r : Nat → Rp.Re Rx) (hs : s.size ≤ 300) (hfit : Rp.Fits s r) (hr : Rp.TR 159 s r op) : Rp.TR 119 s (Rp.cat s r) op := by
  intro a T w0 w μ ha h
  have hst := (h.alloc #[.int .i64 0, .int .u64 0, .int .u64 0, .int .u64 0, .int .u64 0, .slice none 0 0] 27).get2
  have HAT := Lib.hid (hr a T w0 _ _ ha hst)
  have HSUB := Lib.hid hr
  clear h hst hr
  unfold Rp.cat
  obtain ⟨A, hA⟩ : ∃ A, r a = A := ⟨_, rfl⟩
  rw [hA] at HAT ⊢
  clear hA
  obtain ⟨RES, hRES⟩ : ∃ RES, Rp.on A (fun t b => Rp.catL s r (s.size + 1 - b) t b) = RES := ⟨_, rfl⟩
  have HR := Lib.hid hRES
  rw [hRES]
  clear hRES
  go_enter Try.func119, Try.ntmps119
  go_wp2_with (fail)
  go_at_call 159
  refine HAT.out.mono ?_
  rintro ex w1 ⟨t, ao, c, fp, hf, hout⟩
  have hrel : ∃ gk v5, gk ≤ s.size + 1 ∧ ex = .returned (.tuple #[.agg (Rp.rxA t ao c), v5]) ∧ Rp.RRel w0 T s op μ (Rp.catL s r) w.heap.size w1.heap.size RES gk v5 (w1.alloc (.cells (Rp.rxA t ao c) 27)) := by
    rcases hout with ⟨b, rfl, hb, rfl, hst⟩ | ⟨e, p, g, a', rfl, he, rfl, hst⟩
    · exact ⟨s.size + 1 - b, _, by omega, rfl, t, ao, c, fp, Lib.hid hf, .inl ⟨b, s.size + 1 - b, rfl, hb, rfl, by omega, HR, (hst.alloc (Rp.rxA t ao c) 27).pick [2, 0, 1, 3] 4 rfl rfl⟩⟩
    · exact ⟨0, _, by omega, rfl, t, ao, c, fp, Lib.hid hf, .inr ⟨e, p, g, a', rfl, rfl, Lib.hid ⟨HR.out.symm, he⟩, (hst.alloc (Rp.rxA t ao c) 27).pick [3, 0, 1, 2, 4] 5 rfl rfl⟩⟩
  obtain ⟨g0, v5, hg0, rfl, hrel⟩ := hrel
  have HREL := Lib.hid hrel
  clear hrel hout hf HAT HR
  unfold Rp.rxA at HREL ⊢
  go_wp2_with (fail)
  go_loopg [5] g0 (fun gk v5 wr => Rp.RRel w0 T s op μ (Rp.catL s r) w.heap.size w1.heap.size RES gk v5 wr)
  case atStart => exact HREL.out
  case round =>
    clear HREL hg0
    obtain ⟨t, ao, c, fp, HF, hrel⟩ := hrel
    rcases hrel with ⟨b, f, rfl, hb, hgk, hf, HRES, hst⟩ | ⟨e, p, g, a', rfl, hgk, HERR, hst⟩
    · obtain ⟨f, rfl⟩ : ∃ f', f = f' + 1 := ⟨f - 1, by omega⟩
      have HGK := Lib.hid hgk
      unfold Rp.rxA at hst
      have HPK := Lib.hid (rPeek_any s b op T w0 _ _ hst hs)
      have hbw : IntKind.i64.wrap ((b : Int) + 1) = (b : Int) + 1 := IntWalk.i64_in _ (by omega)
      have hneO : ¬ w1.heap.size = T := by
        intro e
        have hs9 := hst.sep
        simp [Rp.rt, aCel, e] at hs9
      have hneO2 : ¬ T = w1.heap.size := fun e => hneO e.symm
      have HS := Lib.hid hst
      clear hst hgk
      clear HPK
      have HPKA := Lib.hid (fun w' h' => rPeek_any s b op T w0 w' (aCel w1.heap.size 27 #[.int .i64 t.kind, .int .u64 (Rp.cw t 0), .int .u64 (Rp.cw t 1), .int .u64 (Rp.cw t 2), .int .u64 (Rp.cw t 3), .slice ao t.kids.length c] :: Rp.kidsA fp ao c t :: aCel w.heap.size 27 #[.int .i64 0, .int .u64 0, .int .u64 0, .int .u64 0, .int .u64 0, .slice none 0 0] :: μ) h' hs)
      obtain ⟨hpb0, hpb1⟩ := Rp.pk_bound s b
      by_cases k124 : Rp.pk s b = 124
      · have HEND := Lib.hid (Rp.catL_end (r := r) (f := f) (t := t) (s := s) (a := b) (decide_eq_true (.inl k124)))
        rw [k124] at HPKA
        clear k124
        go_wp2_with (fail)
        go_at_call 120
        refine (HPKA.out _ HS.out).mono ?_
        clear HS
        rintro ex w10 ⟨rfl, hst⟩
        have HS := Lib.hid hst
        clear hst
        obtain ⟨z0, z1, z2, z3, z4, z5⟩ := Rx.cel6 HS.out 1 rfl
        obtain ⟨x0, x1, x2, x3, x4, x5⟩ := Rx.cel6 HS.out 3 rfl
        obtain ⟨v0, v1, v2, v3, v4, v5⟩ := Rp.free6 HS.out 3 rfl
        have HS9 := Lib.hid (Rp.set6 (HS.out.pick [3, 2, 0] 4 rfl rfl) (.int .i64 t.kind) (.int .u64 (Rp.cw t 0)) (.int .u64 (Rp.cw t 1)) (.int .u64 (Rp.cw t 2)) (.int .u64 (Rp.cw t 3)) (.slice ao t.kids.length c))
        clear HS
        go_wp2
        refine bodyPost_ret (results_row_tmp rfl _ _ w.heap.size 27 _ _ rfl (HS9.out.heapAt 0 rfl) Try.underlying27 rfl (by kernel_rfl)) rfl ?_
        exact Rp.leftS_ok (t := t) (HRES.out.symm.trans HEND.out) hb HF.out rfl HS9.out.drop
      by_cases k41 : Rp.pk s b = 41
      · have HEND := Lib.hid (Rp.catL_end (r := r) (f := f) (t := t) (s := s) (a := b) (decide_eq_true (.inr (.inl k41))))
        rw [k41] at HPKA
        clear k41 k124
        go_wp2_with (fail)
        go_at_call 120
        refine (HPKA.out _ HS.out).mono ?_
        clear HS
        rintro ex w10 ⟨rfl, hst⟩
        have HS := Lib.hid hst
        clear hst
        go_wp2_with (fail)
        go_at_call 120
        refine (HPKA.out _ HS.out).mono ?_
        clear HS
        rintro ex w11 ⟨rfl, hst⟩
        have HS := Lib.hid hst
        clear hst
        obtain ⟨z0, z1, z2, z3, z4, z5⟩ := Rx.cel6 HS.out 1 rfl
        obtain ⟨x0, x1, x2, x3, x4, x5⟩ := Rx.cel6 HS.out 3 rfl
        obtain ⟨v0, v1, v2, v3, v4, v5⟩ := Rp.free6 HS.out 3 rfl
        have HS9 := Lib.hid (Rp.set6 (HS.out.pick [3, 2, 0] 4 rfl rfl) (.int .i64 t.kind) (.int .u64 (Rp.cw t 0)) (.int .u64 (Rp.cw t 1)) (.int .u64 (Rp.cw t 2)) (.int .u64 (Rp.cw t 3)) (.slice ao t.kids.length c))
        clear HS
        go_wp2
        refine bodyPost_ret (results_row_tmp rfl _ _ w.heap.size 27 _ _ rfl (HS9.out.heapAt 0 rfl) Try.underlying27 rfl (by kernel_rfl)) rfl ?_
        exact Rp.leftS_ok (t := t) (HRES.out.symm.trans HEND.out) hb HF.out rfl HS9.out.drop
      by_cases km : Rp.pk s b = -1
      · have HEND := Lib.hid (Rp.catL_end (r := r) (f := f) (t := t) (s := s) (a := b) (decide_eq_true (.inr (.inr km))))
        rw [km] at HPKA
        clear k41 k124 km
        go_wp2_with (fail)
        go_at_call 120
        refine (HPKA.out _ HS.out).mono ?_
        clear HS
        rintro ex w10 ⟨rfl, hst⟩
        have HS := Lib.hid hst
        clear hst
        go_wp2_with (fail)
        go_at_call 120
        refine (HPKA.out _ HS.out).mono ?_
        clear HS
        rintro ex w11 ⟨rfl, hst⟩
        have HS := Lib.hid hst
        clear hst
        go_wp2_with (fail)
        go_at_call 120
        refine (HPKA.out _ HS.out).mono ?_
        clear HS
        rintro ex w12 ⟨rfl, hst⟩
        have HS := Lib.hid hst
        clear hst
        obtain ⟨z0, z1, z2, z3, z4, z5⟩ := Rx.cel6 HS.out 1 rfl
        obtain ⟨x0, x1, x2, x3, x4, x5⟩ := Rx.cel6 HS.out 3 rfl
        obtain ⟨v0, v1, v2, v3, v4, v5⟩ := Rp.free6 HS.out 3 rfl
        have HS9 := Lib.hid (Rp.set6 (HS.out.pick [3, 2, 0] 4 rfl rfl) (.int .i64 t.kind) (.int .u64 (Rp.cw t 0)) (.int .u64 (Rp.cw t 1)) (.int .u64 (Rp.cw t 2)) (.int .u64 (Rp.cw t 3)) (.slice ao t.kids.length c))
        clear HS
        go_wp2
        refine bodyPost_ret (results_row_tmp rfl _ _ w.heap.size 27 _ _ rfl (HS9.out.heapAt 0 rfl) Try.underlying27 rfl (by kernel_rfl)) rfl ?_
        exact Rp.leftS_ok (t := t) (HRES.out.symm.trans HEND.out) hb HF.out rfl HS9.out.drop
      have HNX := Lib.hid ((Rp.catL_go (r := r) (f := f) (t := t) (s := s) (a := b) (decide_eq_false (fun h => by rcases h with h | h | h; exact k124 h; exact k41 h; exact km h))).symm.trans HRES.out)
      have hA : b ≤ s.size := hb
      obtain ⟨PZ, hPZ⟩ : ∃ PZ, Rp.pk s b = PZ := ⟨_, rfl⟩
      rw [hPZ] at HPKA k124 k41 km hpb0
      have e124 : (PZ != 124) = true := by rw [bne_iff_ne]; exact k124
      have e41 : (PZ != 41) = true := by rw [bne_iff_ne]; exact k41
      have em : 0 ≤ PZ := by omega
      have em2 : decide (0 ≤ PZ) = true := decide_eq_true em
      clear k124 k41 km hPZ hpb0 hpb1
      go_wp2_with (fail)
      go_at_call 120
      refine (HPKA.out _ HS.out).mono ?_
      clear HS
      rintro ex w10 ⟨rfl, hst⟩
      have HS := Lib.hid hst
      clear hst
      go_wp2_with (fail)
      go_at_call 120
      refine (HPKA.out _ HS.out).mono ?_
      clear HS
      rintro ex w11 ⟨rfl, hst⟩
      have HS := Lib.hid hst
      clear hst
      go_wp2_with (fail)
      go_at_call 120
      refine (HPKA.out _ HS.out).mono ?_
      clear HS
      rintro ex w12 ⟨rfl, hst⟩
      have HS := Lib.hid hst
      clear hst
      obtain ⟨c0, c1, c2, f1, f2⟩ := Rp.rtAt HS.out
      have HSW := HS
      clear HS
      have hsx := HSW.out.alloc #[.int .i64 0, .int .u64 0, .int .u64 0, .int .u64 0, .int .u64 0, .slice none 0 0] 27
      have hst6 := hsx.pick [1, 0, 2, 3, 4] 5 (ρ := Rp.rt T s b op :: aCel w12.heap.size 27 #[.int .i64 0, .int .u64 0, .int .u64 0, .int .u64 0, .int .u64 0, .slice none 0 0] :: aCel w1.heap.size 27 #[.int .i64 t.kind, .int .u64 (Rp.cw t 0), .int .u64 (Rp.cw t 1), .int .u64 (Rp.cw t 2), .int .u64 (Rp.cw t 3), .slice ao t.kids.length c] :: Rp.kidsA fp ao c t :: aCel w.heap.size 27 #[.int .i64 0, .int .u64 0, .int .u64 0, .int .u64 0, .int .u64 0, .slice none 0 0] :: μ) rfl rfl
      have HSB := Lib.hid (HSUB.out (b) T w0 _ _ hA hst6)
      clear hst6 hsx HSW
      go_wp2_with (fail)
      go_at_call 159
      refine HSB.out.mono ?_
      clear HSB c0 c1 c2 f1 f2
      rintro ex w4 ⟨t2, ao2, c2, fp2, hf2, hout⟩
      rcases hout with hout | hout
      · obtain ⟨b2, hr2, hb2, rfl, hst⟩ := hout
        have hfu := hfit (b) hA
        rw [hr2] at hfu
        have HFU := Lib.hid hfu.1
        have HNX2 := Lib.hid (by have h := HNX.out; rw [hr2] at h; exact h)
        clear hr2 hfu
        obtain ⟨x0, x1, x2, x3, x4, x5⟩ := Rx.cel6 hst 2 rfl
        obtain ⟨v0, v1, v2, v3, v4, v5⟩ := Rp.free6 hst 2 rfl
        obtain ⟨z0, z1, z2, z3, z4, z5⟩ := Rx.cel6 hst 3 rfl
        have hne : ¬ w1.heap.size = w12.heap.size := by
          intro e9
          have hs9 := hst.sep
          simp [Rp.rt, Rp.sp, aCel, e9, List.nodup_append] at hs9
        have hst5 := Rp.set6 (hst.pick [2, 4, 0, 1, 3, 5] 6 (ρ := aCel w12.heap.size 27 #[.int .i64 0, .int .u64 0, .int .u64 0, .int .u64 0, .int .u64 0, .slice none 0 0] :: Rp.kidsA fp ao c t :: Rp.kidsA fp2 ao2 c2 t2 :: Rp.rt T s b2 op :: aCel w1.heap.size 27 #[.int .i64 t.kind, .int .u64 (Rp.cw t 0), .int .u64 (Rp.cw t 1), .int .u64 (Rp.cw t 2), .int .u64 (Rp.cw t 3), .slice ao t.kids.length c] :: aCel w.heap.size 27 #[.int .i64 0, .int .u64 0, .int .u64 0, .int .u64 0, .int .u64 0, .slice none 0 0] :: μ) rfl rfl) (.int .i64 t2.kind) (.int .u64 (Rp.cw t2 0)) (.int .u64 (Rp.cw t2 1)) (.int .u64 (Rp.cw t2 2)) (.int .u64 (Rp.cw t2 3)) (.slice ao2 t2.kids.length c2)
        have hst6 := Rp.St.both (hst5.drop)
        have HTW := Lib.hid (rPairB_any 4 (by decide) (by decide) t t2 ao ao2 c c2 _ HF.out hf2 w0 _ _ hst6)
        have HF2 := Lib.hid hf2
        unfold Rp.rxA at HTW ⊢
        clear hst hst5 hst6 hf2
        go_wp2_with (fail)
        go_at_call 121
        refine HTW.out.mono ?_
        clear HTW x0 x1 x2 x3 x4 x5 z0 z1 z2 z3 z4 z5 v0 v1 v2 v3 v4 v5
        rintro ex w5 ⟨g4, fr, rfl, hst4⟩
        obtain ⟨y0, y1, y2, y3, y4, y5⟩ := Rx.cel6 hst4 2 rfl
        obtain ⟨u0, u1, u2, u3, u4, u5⟩ := Rp.free6 hst4 2 rfl
        have HS7 := Lib.hid (Rp.set6 (hst4.pick [2, 1, 0, 3] 4 (ρ := aCel w1.heap.size 27 #[.int .i64 t.kind, .int .u64 (Rp.cw t 0), .int .u64 (Rp.cw t 1), .int .u64 (Rp.cw t 2), .int .u64 (Rp.cw t 3), .slice ao t.kids.length c] :: Rp.rt T s b2 op :: Rp.kidsA fr (some ⟨g4, 0, none⟩) 2 (Rp.two 4 t t2) :: aCel w.heap.size 27 #[.int .i64 0, .int .u64 0, .int .u64 0, .int .u64 0, .int .u64 0, .slice none 0 0] :: μ) rfl rfl) (.int .i64 4) (.int .u64 0) (.int .u64 0) (.int .u64 0) (.int .u64 0) (.slice (some ⟨g4, 0, none⟩) 2 2)).get2
        clear hst4
        go_wp2
        go_roundg (s.size + 1 - b2)
        case measure => have := HGK.out; have := HFU.out; omega
        case rel => exact ⟨Rp.two 4 t t2, _, _, _, Lib.hid (Rp.fine_two (by decide) (by decide)), .inl ⟨b2, f, rfl, hb2, rfl, by have := HFU.out; omega, HNX2, HS7.out⟩⟩
      · obtain ⟨e, p, g, a', hr2, he2, rfl, hst⟩ := hout
        have HNX2 := Lib.hid (by have h := HNX.out; rw [hr2] at h; exact And.intro h.symm he2)
        clear hr2 he2
        obtain ⟨x0, x1, x2, x3, x4, x5⟩ := Rx.cel6 hst 3 rfl
        obtain ⟨v0, v1, v2, v3, v4, v5⟩ := Rp.free6 hst 3 rfl
        obtain ⟨z0, z1, z2, z3, z4, z5⟩ := Rx.cel6 hst 4 rfl
        have hne : ¬ w1.heap.size = w12.heap.size := by
          intro e9
          have hs9 := hst.sep
          simp [Rp.rt, Rp.sp, aCel, e9, List.nodup_append] at hs9
        have hst5 := Rp.set6 (hst.pick [3, 5, 0, 1, 2, 4, 6] 7 (ρ := aCel w12.heap.size 27 #[.int .i64 0, .int .u64 0, .int .u64 0, .int .u64 0, .int .u64 0, .slice none 0 0] :: Rp.kidsA fp ao c t :: Rp.kidsA fp2 ao2 c2 t2 :: Rp.sp g e p :: Rp.rt T s a' op :: aCel w1.heap.size 27 #[.int .i64 t.kind, .int .u64 (Rp.cw t 0), .int .u64 (Rp.cw t 1), .int .u64 (Rp.cw t 2), .int .u64 (Rp.cw t 3), .slice ao t.kids.length c] :: aCel w.heap.size 27 #[.int .i64 0, .int .u64 0, .int .u64 0, .int .u64 0, .int .u64 0, .slice none 0 0] :: μ) rfl rfl) (.int .i64 t2.kind) (.int .u64 (Rp.cw t2 0)) (.int .u64 (Rp.cw t2 1)) (.int .u64 (Rp.cw t2 2)) (.int .u64 (Rp.cw t2 3)) (.slice ao2 t2.kids.length c2)
        have hst6 := Rp.St.both (hst5.drop)
        have HTW := Lib.hid (rPairB_any 4 (by decide) (by decide) t t2 ao ao2 c c2 _ HF.out hf2 w0 _ _ hst6)
        have HF2 := Lib.hid hf2
        unfold Rp.rxA at HTW ⊢
        clear hst hst5 hst6 hf2
        go_wp2_with (fail)
        go_at_call 121
        refine HTW.out.mono ?_
        clear HTW x0 x1 x2 x3 x4 x5 z0 z1 z2 z3 z4 z5 v0 v1 v2 v3 v4 v5
        rintro ex w5 ⟨g4, fr, rfl, hst4⟩
        obtain ⟨y0, y1, y2, y3, y4, y5⟩ := Rx.cel6 hst4 3 rfl
        obtain ⟨u0, u1, u2, u3, u4, u5⟩ := Rp.free6 hst4 3 rfl
        have HS7 := Lib.hid (Rp.set6 (hst4.pick [3, 2, 0, 1, 4] 5 (ρ := aCel w1.heap.size 27 #[.int .i64 t.kind, .int .u64 (Rp.cw t 0), .int .u64 (Rp.cw t 1), .int .u64 (Rp.cw t 2), .int .u64 (Rp.cw t 3), .slice ao t.kids.length c] :: Rp.rt T s a' op :: Rp.kidsA fr (some ⟨g4, 0, none⟩) 2 (Rp.two 4 t t2) :: Rp.sp g e p :: aCel w.heap.size 27 #[.int .i64 0, .int .u64 0, .int .u64 0, .int .u64 0, .int .u64 0, .slice none 0 0] :: μ) rfl rfl) (.int .i64 4) (.int .u64 0) (.int .u64 0) (.int .u64 0) (.int .u64 0) (.slice (some ⟨g4, 0, none⟩) 2 2)).get2
        clear hst4
        go_wp2
        go_roundg 0
        case measure => have := HGK.out; omega
        case rel => exact ⟨Rp.two 4 t t2, _, _, _, Lib.hid (Rp.fine_two (by decide) (by decide)), .inr ⟨e, p, g, a', rfl, rfl, HNX2, HS7.out⟩⟩
    · obtain ⟨hres, hee⟩ := HERR.out
      have HRES := Lib.hid hres
      have HEE := Lib.hid hee
      unfold Rp.rxA at hst
      have HS := Lib.hid hst
      clear hst hres hee
      obtain ⟨z0, z1, z2, z3, z4, z5⟩ := Rx.cel6 HS.out 1 rfl
      obtain ⟨x0, x1, x2, x3, x4, x5⟩ := Rx.cel6 HS.out 4 rfl
      obtain ⟨v0, v1, v2, v3, v4, v5⟩ := Rp.free6 HS.out 4 rfl
      have HS9 := Lib.hid (Rp.set6 (HS.out.pick [4, 2, 3, 0] 5 rfl rfl) (.int .i64 t.kind) (.int .u64 (Rp.cw t 0)) (.int .u64 (Rp.cw t 1)) (.int .u64 (Rp.cw t 2)) (.int .u64 (Rp.cw t 3)) (.slice ao t.kids.length c))
      clear HS
      go_wp2
      refine bodyPost_ret (results_row_tmp rfl _ _ w.heap.size 27 _ _ rfl (HS9.out.heapAt 0 rfl) Try.underlying27 rfl (by kernel_rfl)) rfl ?_
      exact Rp.leftS_bad (t := t) HRES.out HEE.out HF.out rfl HS9.out.drop


set_option maxRecDepth 100000 in
set_option maxHeartbeats 2000000 in
theorem rrAlt_any (s : ByteArray) (op : Int) (r : Nat → Rp.Re Rx) (hs : s.size ≤ 300) (hfit : Rp.Fits s r) (hr : Rp.TR 119 s r op) : Rp.TR 55 s (Rp.alter s r) op := by
  intro a T w0 w μ ha h
  have hst := (h.alloc #[.int .i64 0, .int .u64 0, .int .u64 0, .int .u64 0, .int .u64 0, .slice none 0 0] 27).get2
  have HAT := Lib.hid (hr a T w0 _ _ ha hst)
  have HSUB := Lib.hid hr
  clear h hst hr
  unfold Rp.alter
  obtain ⟨A, hA⟩ : ∃ A, r a = A := ⟨_, rfl⟩
  rw [hA] at HAT ⊢
  clear hA
  obtain ⟨RES, hRES⟩ : ∃ RES, Rp.on A (fun t b => Rp.altL s r (s.size + 1 - b) t b) = RES := ⟨_, rfl⟩
  have HR := Lib.hid hRES
  rw [hRES]
  clear hRES
  go_enter Try.func55, Try.ntmps55
  go_wp2_with (fail)
  go_at_call 119
  refine HAT.out.mono ?_
  rintro ex w1 ⟨t, ao, c, fp, hf, hout⟩
  have hrel : ∃ gk v5, gk ≤ s.size + 1 ∧ ex = .returned (.tuple #[.agg (Rp.rxA t ao c), v5]) ∧ Rp.RRel w0 T s op μ (Rp.altL s r) w.heap.size w1.heap.size RES gk v5 (w1.alloc (.cells (Rp.rxA t ao c) 27)) := by
    rcases hout with ⟨b, rfl, hb, rfl, hst⟩ | ⟨e, p, g, a', rfl, he, rfl, hst⟩
    · exact ⟨s.size + 1 - b, _, by omega, rfl, t, ao, c, fp, Lib.hid hf, .inl ⟨b, s.size + 1 - b, rfl, hb, rfl, by omega, HR, (hst.alloc (Rp.rxA t ao c) 27).pick [2, 0, 1, 3] 4 rfl rfl⟩⟩
    · exact ⟨0, _, by omega, rfl, t, ao, c, fp, Lib.hid hf, .inr ⟨e, p, g, a', rfl, rfl, Lib.hid ⟨HR.out.symm, he⟩, (hst.alloc (Rp.rxA t ao c) 27).pick [3, 0, 1, 2, 4] 5 rfl rfl⟩⟩
  obtain ⟨g0, v5, hg0, rfl, hrel⟩ := hrel
  have HREL := Lib.hid hrel
  clear hrel hout hf HAT HR
  unfold Rp.rxA at HREL ⊢
  go_wp2_with (fail)
  go_loopg [5] g0 (fun gk v5 wr => Rp.RRel w0 T s op μ (Rp.altL s r) w.heap.size w1.heap.size RES gk v5 wr)
  case atStart => exact HREL.out
  case round =>
    clear HREL hg0
    obtain ⟨t, ao, c, fp, HF, hrel⟩ := hrel
    rcases hrel with ⟨b, f, rfl, hb, hgk, hf, HRES, hst⟩ | ⟨e, p, g, a', rfl, hgk, HERR, hst⟩
    · obtain ⟨f, rfl⟩ : ∃ f', f = f' + 1 := ⟨f - 1, by omega⟩
      have HGK := Lib.hid hgk
      unfold Rp.rxA at hst
      have HPK := Lib.hid (rPeek_any s b op T w0 _ _ hst hs)
      have hbw : IntKind.i64.wrap ((b : Int) + 1) = (b : Int) + 1 := IntWalk.i64_in _ (by omega)
      have hneO : ¬ w1.heap.size = T := by
        intro e
        have hs9 := hst.sep
        simp [Rp.rt, aCel, e] at hs9
      have hneO2 : ¬ T = w1.heap.size := fun e => hneO e.symm
      have HS := Lib.hid hst
      clear hst hgk
      by_cases k124 : Rp.pk s b = 124
      · have hA := Rp.pk_lt 124 (by decide) k124
        have HNX := Lib.hid ((Rp.altL_go (r := r) (f := f) (t := t) (s := s) (a := b) (by rw [Rp.isB_ok]; exact decide_eq_true k124)).symm.trans HRES.out)
        rw [k124] at HPK
        clear k124
        go_wp2_with (fail)
        go_at_call 120
        refine HPK.out.mono ?_
        clear HPK HS
        rintro ex w2 ⟨rfl, hst⟩
        have HS := Lib.hid hst
        clear hst
        obtain ⟨c0, c1, c2, f1, f2⟩ := Rp.rtAt HS.out
        obtain ⟨z0, z1, z2, z3, z4, z5⟩ := Rx.cel6 HS.out 1 rfl
        have hne2 : ¬ T = w2.heap.size := by have := Rp.belowAt HS.out 0 rfl; omega
        have HSW : Hid (St w0 _ (Rp.rt T s (b + 1 : Nat) op :: aCel w1.heap.size 27 #[.int .i64 t.kind, .int .u64 (Rp.cw t 0), .int .u64 (Rp.cw t 1), .int .u64 (Rp.cw t 2), .int .u64 (Rp.cw t 3), .slice ao t.kids.length c] :: Rp.kidsA fp ao c t :: aCel w.heap.size 27 #[.int .i64 0, .int .u64 0, .int .u64 0, .int .u64 0, .int .u64 0, .slice none 0 0] :: μ)) := Lib.hid (by rw [Rp.nc]; exact Rp.rtSetA HS.out ((b : Int) + 1))
        clear HS z0 z1 z2 z3 z4 z5
        have hsx := HSW.out.alloc #[.int .i64 0, .int .u64 0, .int .u64 0, .int .u64 0, .int .u64 0, .slice none 0 0] 27
        simp only [World.size_setCell] at hsx
        have hst6 := hsx.pick [1, 0, 2, 3, 4] 5 (ρ := Rp.rt T s (b + 1 : Nat) op :: aCel w2.heap.size 27 #[.int .i64 0, .int .u64 0, .int .u64 0, .int .u64 0, .int .u64 0, .slice none 0 0] :: aCel w1.heap.size 27 #[.int .i64 t.kind, .int .u64 (Rp.cw t 0), .int .u64 (Rp.cw t 1), .int .u64 (Rp.cw t 2), .int .u64 (Rp.cw t 3), .slice ao t.kids.length c] :: Rp.kidsA fp ao c t :: aCel w.heap.size 27 #[.int .i64 0, .int .u64 0, .int .u64 0, .int .u64 0, .int .u64 0, .slice none 0 0] :: μ) rfl rfl
        have HSB := Lib.hid (HSUB.out (b + 1) T w0 _ _ hA hst6)
        clear hst6 hsx HSW
        go_wp2_with (fail)
        go_at_call 119
        refine HSB.out.mono ?_
        clear HSB c0 c1 c2 f1 f2
        rintro ex w4 ⟨t2, ao2, c2, fp2, hf2, hout⟩
        rcases hout with hout | hout
        · obtain ⟨b2, hr2, hb2, rfl, hst⟩ := hout
          have hfu := hfit (b + 1) hA
          rw [hr2] at hfu
          have HFU := Lib.hid hfu.1
          have HNX2 := Lib.hid (by have h := HNX.out; rw [hr2] at h; exact h)
          clear hr2 hfu
          obtain ⟨x0, x1, x2, x3, x4, x5⟩ := Rx.cel6 hst 2 rfl
          obtain ⟨v0, v1, v2, v3, v4, v5⟩ := Rp.free6 hst 2 rfl
          obtain ⟨z0, z1, z2, z3, z4, z5⟩ := Rx.cel6 hst 3 rfl
          have hne : ¬ w1.heap.size = w2.heap.size := by
            intro e9
            have hs9 := hst.sep
            simp [Rp.rt, Rp.sp, aCel, e9, List.nodup_append] at hs9
          have hst5 := Rp.set6 (hst.pick [2, 4, 0, 1, 3, 5] 6 (ρ := aCel w2.heap.size 27 #[.int .i64 0, .int .u64 0, .int .u64 0, .int .u64 0, .int .u64 0, .slice none 0 0] :: Rp.kidsA fp ao c t :: Rp.kidsA fp2 ao2 c2 t2 :: Rp.rt T s b2 op :: aCel w1.heap.size 27 #[.int .i64 t.kind, .int .u64 (Rp.cw t 0), .int .u64 (Rp.cw t 1), .int .u64 (Rp.cw t 2), .int .u64 (Rp.cw t 3), .slice ao t.kids.length c] :: aCel w.heap.size 27 #[.int .i64 0, .int .u64 0, .int .u64 0, .int .u64 0, .int .u64 0, .slice none 0 0] :: μ) rfl rfl) (.int .i64 t2.kind) (.int .u64 (Rp.cw t2 0)) (.int .u64 (Rp.cw t2 1)) (.int .u64 (Rp.cw t2 2)) (.int .u64 (Rp.cw t2 3)) (.slice ao2 t2.kids.length c2)
          have hst6 := Rp.St.both (hst5.drop)
          have HTW := Lib.hid (rPairB_any 5 (by decide) (by decide) t t2 ao ao2 c c2 _ HF.out hf2 w0 _ _ hst6)
          have HF2 := Lib.hid hf2
          unfold Rp.rxA at HTW ⊢
          clear hst hst5 hst6 hf2
          go_wp2_with (fail)
          go_at_call 121
          refine HTW.out.mono ?_
          clear HTW x0 x1 x2 x3 x4 x5 z0 z1 z2 z3 z4 z5 v0 v1 v2 v3 v4 v5
          rintro ex w5 ⟨g4, fr, rfl, hst4⟩
          obtain ⟨y0, y1, y2, y3, y4, y5⟩ := Rx.cel6 hst4 2 rfl
          obtain ⟨u0, u1, u2, u3, u4, u5⟩ := Rp.free6 hst4 2 rfl
          have HS7 := Lib.hid (Rp.set6 (hst4.pick [2, 1, 0, 3] 4 (ρ := aCel w1.heap.size 27 #[.int .i64 t.kind, .int .u64 (Rp.cw t 0), .int .u64 (Rp.cw t 1), .int .u64 (Rp.cw t 2), .int .u64 (Rp.cw t 3), .slice ao t.kids.length c] :: Rp.rt T s b2 op :: Rp.kidsA fr (some ⟨g4, 0, none⟩) 2 (Rp.two 5 t t2) :: aCel w.heap.size 27 #[.int .i64 0, .int .u64 0, .int .u64 0, .int .u64 0, .int .u64 0, .slice none 0 0] :: μ) rfl rfl) (.int .i64 5) (.int .u64 0) (.int .u64 0) (.int .u64 0) (.int .u64 0) (.slice (some ⟨g4, 0, none⟩) 2 2)).get2
          clear hst4
          go_wp2
          go_roundg (s.size + 1 - b2)
          case measure => have := HGK.out; have := HFU.out; omega
          case rel => exact ⟨Rp.two 5 t t2, _, _, _, Lib.hid (Rp.fine_two (by decide) (by decide)), .inl ⟨b2, f, rfl, hb2, rfl, by have := HFU.out; omega, HNX2, HS7.out⟩⟩
        · obtain ⟨e, p, g, a', hr2, he2, rfl, hst⟩ := hout
          have HNX2 := Lib.hid (by have h := HNX.out; rw [hr2] at h; exact And.intro h.symm he2)
          clear hr2 he2
          obtain ⟨x0, x1, x2, x3, x4, x5⟩ := Rx.cel6 hst 3 rfl
          obtain ⟨v0, v1, v2, v3, v4, v5⟩ := Rp.free6 hst 3 rfl
          obtain ⟨z0, z1, z2, z3, z4, z5⟩ := Rx.cel6 hst 4 rfl
          have hne : ¬ w1.heap.size = w2.heap.size := by
            intro e9
            have hs9 := hst.sep
            simp [Rp.rt, Rp.sp, aCel, e9, List.nodup_append] at hs9
          have hst5 := Rp.set6 (hst.pick [3, 5, 0, 1, 2, 4, 6] 7 (ρ := aCel w2.heap.size 27 #[.int .i64 0, .int .u64 0, .int .u64 0, .int .u64 0, .int .u64 0, .slice none 0 0] :: Rp.kidsA fp ao c t :: Rp.kidsA fp2 ao2 c2 t2 :: Rp.sp g e p :: Rp.rt T s a' op :: aCel w1.heap.size 27 #[.int .i64 t.kind, .int .u64 (Rp.cw t 0), .int .u64 (Rp.cw t 1), .int .u64 (Rp.cw t 2), .int .u64 (Rp.cw t 3), .slice ao t.kids.length c] :: aCel w.heap.size 27 #[.int .i64 0, .int .u64 0, .int .u64 0, .int .u64 0, .int .u64 0, .slice none 0 0] :: μ) rfl rfl) (.int .i64 t2.kind) (.int .u64 (Rp.cw t2 0)) (.int .u64 (Rp.cw t2 1)) (.int .u64 (Rp.cw t2 2)) (.int .u64 (Rp.cw t2 3)) (.slice ao2 t2.kids.length c2)
          have hst6 := Rp.St.both (hst5.drop)
          have HTW := Lib.hid (rPairB_any 5 (by decide) (by decide) t t2 ao ao2 c c2 _ HF.out hf2 w0 _ _ hst6)
          have HF2 := Lib.hid hf2
          unfold Rp.rxA at HTW ⊢
          clear hst hst5 hst6 hf2
          go_wp2_with (fail)
          go_at_call 121
          refine HTW.out.mono ?_
          clear HTW x0 x1 x2 x3 x4 x5 z0 z1 z2 z3 z4 z5 v0 v1 v2 v3 v4 v5
          rintro ex w5 ⟨g4, fr, rfl, hst4⟩
          obtain ⟨y0, y1, y2, y3, y4, y5⟩ := Rx.cel6 hst4 3 rfl
          obtain ⟨u0, u1, u2, u3, u4, u5⟩ := Rp.free6 hst4 3 rfl
          have HS7 := Lib.hid (Rp.set6 (hst4.pick [3, 2, 0, 1, 4] 5 (ρ := aCel w1.heap.size 27 #[.int .i64 t.kind, .int .u64 (Rp.cw t 0), .int .u64 (Rp.cw t 1), .int .u64 (Rp.cw t 2), .int .u64 (Rp.cw t 3), .slice ao t.kids.length c] :: Rp.rt T s a' op :: Rp.kidsA fr (some ⟨g4, 0, none⟩) 2 (Rp.two 5 t t2) :: Rp.sp g e p :: aCel w.heap.size 27 #[.int .i64 0, .int .u64 0, .int .u64 0, .int .u64 0, .int .u64 0, .slice none 0 0] :: μ) rfl rfl) (.int .i64 5) (.int .u64 0) (.int .u64 0) (.int .u64 0) (.int .u64 0) (.slice (some ⟨g4, 0, none⟩) 2 2)).get2
          clear hst4
          go_wp2
          go_roundg 0
          case measure => have := HGK.out; omega
          case rel => exact ⟨Rp.two 5 t t2, _, _, _, Lib.hid (Rp.fine_two (by decide) (by decide)), .inr ⟨e, p, g, a', rfl, rfl, HNX2, HS7.out⟩⟩
      · have HEND := Lib.hid (Rp.altL_end (r := r) (f := f) (t := t) (s := s) (a := b) (by rw [Rp.isB_ok]; exact decide_eq_false k124))
        obtain ⟨PZ, hPZ⟩ : ∃ PZ, Rp.pk s b = PZ := ⟨_, rfl⟩
        have e124 : (PZ == 124) = false := by rw [beq_eq_false_iff_ne, ← hPZ]; exact k124
        rw [hPZ] at HPK
        clear k124 hPZ
        go_wp2_with (fail)
        go_at_call 120
        refine HPK.out.mono ?_
        clear HPK HS
        rintro ex w2 ⟨rfl, hst⟩
        have HS := Lib.hid hst
        clear hst
        obtain ⟨c0, c1, c2, f1, f2⟩ := Rp.rtAt HS.out
        clear c0 c1 c2 f1 f2
        obtain ⟨z0, z1, z2, z3, z4, z5⟩ := Rx.cel6 HS.out 1 rfl
        obtain ⟨x0, x1, x2, x3, x4, x5⟩ := Rx.cel6 HS.out 3 rfl
        obtain ⟨v0, v1, v2, v3, v4, v5⟩ := Rp.free6 HS.out 3 rfl
        have HS9 := Lib.hid (Rp.set6 (HS.out.pick [3, 2, 0] 4 rfl rfl) (.int .i64 t.kind) (.int .u64 (Rp.cw t 0)) (.int .u64 (Rp.cw t 1)) (.int .u64 (Rp.cw t 2)) (.int .u64 (Rp.cw t 3)) (.slice ao t.kids.length c))
        clear HS
        go_wp2
        refine bodyPost_ret (results_row_tmp rfl _ _ w.heap.size 27 _ _ rfl (HS9.out.heapAt 0 rfl) Try.underlying27 rfl (by kernel_rfl)) rfl ?_
        exact Rp.leftS_ok (t := t) (HRES.out.symm.trans HEND.out) hb HF.out rfl HS9.out.drop
    · obtain ⟨hres, hee⟩ := HERR.out
      have HRES := Lib.hid hres
      have HEE := Lib.hid hee
      unfold Rp.rxA at hst
      have HS := Lib.hid hst
      clear hst hres hee
      obtain ⟨z0, z1, z2, z3, z4, z5⟩ := Rx.cel6 HS.out 1 rfl
      obtain ⟨x0, x1, x2, x3, x4, x5⟩ := Rx.cel6 HS.out 4 rfl
      obtain ⟨v0, v1, v2, v3, v4, v5⟩ := Rp.free6 HS.out 4 rfl
      have HS9 := Lib.hid (Rp.set6 (HS.out.pick [4, 2, 3, 0] 5 rfl rfl) (.int .i64 t.kind) (.int .u64 (Rp.cw t 0)) (.int .u64 (Rp.cw t 1)) (.int .u64 (Rp.cw t 2)) (.int .u64 (Rp.cw t 3)) (.slice ao t.kids.length c))
      clear HS
      go_wp2
      refine bodyPost_ret (results_row_tmp rfl _ _ w.heap.size 27 _ _ rfl (HS9.out.heapAt 0 rfl) Try.underlying27 rfl (by kernel_rfl)) rfl ?_
      exact Rp.leftS_bad (t := t) HRES.out HEE.out HF.out rfl HS9.out.drop


theorem rrAltOf_any (s : ByteArray) (hs : s.size ≤ 300) (op : Int) (h0 : 0 ≤ op) (h1 : op ≤ 30) (br : Nat → Rp.Re Rx) (hfit : ∀ a, a < s.size → Rp.Fit s Rp.Big a (br a))
    (hbr : (op = 30 ∧ br = Rp.deep) ∨ (op < 30 ∧ ∃ inner, br = Rp.brk s inner ∧ Rp.TR 55 s inner (op + 1))) : Rp.TR 55 s (Rp.altOf s br) op :=
  rrAlt_any s op _ hs (Rp.cat_fit (Rp.rep_fit (Rp.atom_fit hfit))) (rrCat_any s op _ hs (Rp.rep_fit (Rp.atom_fit hfit)) (rrRep_any s op _ hs (Rp.atom_fit hfit) (rrAtom_any s hs op br h0 h1 hbr)))
theorem rrAltN_any (s : ByteArray) (hs : s.size ≤ 300) : ∀ d : Nat, d ≤ 30 → Rp.TR 55 s (Rp.altD s d) (30 - (d : Int)) := by
  intro d
  induction d with
  | zero => intro _; exact rrAltOf_any s hs 30 (by decide) (by decide) _ (Rp.brkD_fit 0) (.inl ⟨rfl, rfl⟩)
  | succ d ih =>
    intro hd
    refine rrAltOf_any s hs _ (by omega) (by omega) _ (Rp.brkD_fit (d + 1)) (.inr ⟨by omega, Rp.altD s d, Rp.brkD_succ s d, ?_⟩)
    rw [show (30 : Int) - ((d + 1 : Nat) : Int) + 1 = 30 - (d : Int) by omega]
    exact ih (by omega)
theorem rrAltD_any (s : ByteArray) (hs : s.size ≤ 300) : Rp.TR 55 s (Rp.altD s 30) 0 := rrAltN_any s hs 30 (by omega)
end Go.Proofs.Ytfelikfppjlcmaa

/-
  Parse of package rex.
-/
namespace Go.Proofs.Ytfelikfppjlcmaa
set_option linter.unusedVariables false
set_option linter.unusedSimpArgs false
open Go.ChangeShapes Go.WideShapes Go.ChangeAt Go.RowKit

namespace Rp
/-- A tree no taller than n. -/
def fits : Nat → Rx → Prop
  | 0, _ => False
  | n + 1, t => ∀ k ∈ t.kids, fits n k
theorem enc_fits : ∀ {n : Nat} {F : Nat → Prop} {w : World} {cs : List Value} {t : Rx}, (Rx.enc n).R F w cs t → fits n t := by
  intro n
  induction n with
  | zero => intro F w cs t h; exact h.elim
  | succ n ih =>
    intro F w cs t h k hk
    obtain ⟨m, hm, ao, c, -, -, h4⟩ := enc_open h
    obtain rfl : n = m := by omega
    obtain ⟨_, b, off, cap, -, -, -, h5⟩ := Enc.slN Rx.nil h4
    obtain ⟨i, hi, rfl⟩ := List.getElem_of_mem hk
    obtain ⟨cs', -, -, h6⟩ := h5 i hi
    have e : t.kids.getD i Rx.nil = t.kids[i] := by simp [List.getD, List.getElem?_eq_getElem hi]
    rw [e] at h6
    exact ih h6
theorem chkK_same {f g : Rx → Int → Int × Int} : ∀ {ks : List Rx} {n : Int}, (∀ k ∈ ks, ∀ n, f k n = g k n) → Rx.chkK f ks n = Rx.chkK g ks n := by
  intro ks
  induction ks with
  | nil => intro n _; rfl
  | cons k ks ih =>
    intro n h
    rw [Rx.chkK, Rx.chkK, h k (.head _), ih fun x hx => h x (.tail _ hx)]
theorem chk_same : ∀ {n m : Nat} {t : Rx} {d c : Int}, fits n t → fits m t → Rx.chk n t d c = Rx.chk m t d c := by
  intro n
  induction n with
  | zero => intro m t d c h; exact h.elim
  | succ n ih =>
    intro m t d c h h2
    cases m with
    | zero => exact h2.elim
    | succ m =>
      rw [Rx.chk, Rx.chk]
      split
      · rfl
      · split
        · rfl
        · split
          · rfl
          · exact chkK_same fun k hk n => ih (h k hk) (h2 k hk)
theorem err_same {n m : Nat} {t : Rx} (h : fits n t) (h2 : fits m t) : Rx.err n t = Rx.err m t := by unfold Rx.err; rw [chk_same h h2]
def zeroT : Rx := .mk 0 (ints Dm.zero) []
theorem fine_zero : Fine zeroT := fine_mk (by decide) (by decide) zero_ok
noncomputable def parse0 (s : ByteArray) : Re Rx := on (altD s 30 0) fun t b => if b < s.size then .error (6, b) else .ok (t, b)
/-- What Parse answers. -/
def Gives (s : ByteArray) (t : Rx) (a : Int) (e : Int) : Prop :=
  (300 < s.size ∧ t = zeroT ∧ a = 0 ∧ e = 2) ∨
  (s.size ≤ 300 ∧ ((∃ e' p, parse0 s = .error (e', p) ∧ t = zeroT ∧ a = (p : Int) ∧ e = e') ∨
    (∃ t0 n b, parse0 s = .ok (t0, b) ∧ fits n t0 ∧ ((Rx.err n t0 ≠ 0 ∧ t = zeroT ∧ a = (s.size : Int) ∧ e = Rx.err n t0) ∨ (Rx.err n t0 = 0 ∧ t = t0 ∧ a = 0 ∧ e = 0)))))
theorem Gives.one {s : ByteArray} {t t' : Rx} {a a' e e' : Int} (h : Gives s t a e) (h' : Gives s t' a' e') : t = t' ∧ a = a' ∧ e = e' := by
  rcases h with ⟨h1, rfl, rfl, rfl⟩ | ⟨h1, h⟩
  · rcases h' with ⟨h2, rfl, rfl, rfl⟩ | ⟨h2, h'⟩
    · exact ⟨rfl, rfl, rfl⟩
    · omega
  · rcases h' with ⟨h2, rfl, rfl, rfl⟩ | ⟨h2, h'⟩
    · omega
    rcases h with ⟨e1, p1, h, rfl, rfl, rfl⟩ | ⟨t1, n1, b1, h, hn, h3⟩
    · rcases h' with ⟨e2, p2, h', rfl, rfl, rfl⟩ | ⟨t2, n2, b2, h', hn2, h4⟩
      · rw [h] at h'; cases h'; exact ⟨rfl, rfl, rfl⟩
      · rw [h] at h'; cases h'
    · rcases h' with ⟨e2, p2, h', rfl, rfl, rfl⟩ | ⟨t2, n2, b2, h', hn2, h4⟩
      · rw [h] at h'; cases h'
      · rw [h] at h'
        cases h'
        have he := err_same hn hn2
        rcases h3 with ⟨g1, rfl, rfl, rfl⟩ | ⟨g1, rfl, rfl, rfl⟩
        · rcases h4 with ⟨k1, rfl, rfl, rfl⟩ | ⟨k1, rfl, rfl, rfl⟩
          · exact ⟨rfl, rfl, he⟩
          · exact absurd (he.trans k1) g1
        · rcases h4 with ⟨k1, rfl, rfl, rfl⟩ | ⟨k1, rfl, rfl, rfl⟩
          · exact absurd (he.symm.trans g1) k1
          · exact ⟨rfl, rfl, rfl⟩
theorem resT {fn : Func} {p u v : Tmp} (h : fn.results = #[.cell p 27, .tmp u, .tmp v]) (tmps : Array Value) (w : World) (g : Nat) {v0 v1 v2 v3 v4 v5 : Value} (hp : tmps.getD p undef = .pointer (some ⟨g, 0, none⟩)) (c0 : w.cell? ⟨g, 0, none⟩ = some v0) (c1 : w.cell? ⟨g, 1, none⟩ = some v1) (c2 : w.cell? ⟨g, 2, none⟩ = some v2) (c3 : w.cell? ⟨g, 3, none⟩ = some v3) (c4 : w.cell? ⟨g, 4, none⟩ = some v4) (c5 : w.cell? ⟨g, 5, none⟩ = some v5) :
    (results fn tmps).run Try.prog w = .ok (.tuple #[.agg #[v0, v1, v2, v3, v4, v5], tmps.getD u undef, tmps.getD v undef]) w := by
  have hp2 : tmps[p]?.getD undef = .pointer (some ⟨g, 0, none⟩) := by simpa using hp
  simp [results, h, hp2, Sem.run_bind, Result.andThen, go_sem, c0, c1, c2, c3, c4, c5]
/-- What the call of a parser leaves. -/
def Tells (s : ByteArray) (w : World) (ex : Ending) (w' : World) : Prop := ∃ (t : Rx) (a e : Int) (ao : Option Addr) (c : Nat) (fp : List Nat), Gives s t a e ∧ Fine t ∧ ex = .returned (.tuple #[.agg (rxA t ao c), .int .i64 a, .int .i64 e]) ∧ St w w' [kidsA fp ao c t]
theorem tells_zero {s : ByteArray} {w w' : World} {a e : Int} {ex : Ending} {μ : List Asrt} (h : Gives s zeroT a e) (hex : ex = .returned (.tuple #[.agg #[.int .i64 0, .int .u64 0, .int .u64 0, .int .u64 0, .int .u64 0, .slice none 0 0], .int .i64 a, .int .i64 e])) (hst : St w w' μ) : Tells s w ex w' :=
  ⟨zeroT, a, e, none, 0, [], h, fine_zero, hex, St.leaf (k := 0) (c := ints Dm.zero) (hst.pick (ρ := []) [] μ.length rfl (by simp))⟩
end Rp

set_option maxRecDepth 100000 in
set_option maxHeartbeats 1000000 in
theorem rpParse_any (s : ByteArray) (w : World) : Calls Try.prog 11 #[.string s] w (Rp.Tells s w) := by
  have hst := (St.init w).alloc #[.int .i64 0, .int .u64 0, .int .u64 0, .int .u64 0, .int .u64 0, .slice none 0 0] 27
  by_cases hs : 300 < s.size
  · have hsI : (s.size : Int) > 300 := by omega
    have HG := Lib.hid (show Rp.Gives s Rp.zeroT 0 2 from .inl ⟨hs, rfl, rfl, rfl⟩)
    obtain ⟨x0, x1, x2, x3, x4, x5⟩ := Rx.cel6 hst 0 rfl
    have HST := Lib.hid hst
    clear hst hs
    go_enter Try.func11, Try.ntmps11
    go_wp2
    refine bodyPost_ret (Rp.resT rfl _ _ w.heap.size rfl x0 x1 x2 x3 x4 x5) rfl ?_
    exact Rp.tells_zero HG.out rfl HST.out
  · have hsI : ¬ (s.size : Int) > 300 := by omega
    have hs3 : s.size ≤ 300 := by omega
    have hst2 := (hst.alloc #[.string s, .int .i64 0, .int .i64 0, .int .i64 0] 124)
    simp only [World.size_alloc] at hst2
    have HAL := Lib.hid (rpAltD_any s hs3 0 (w.heap.size + 1) w _ _ (Nat.zero_le _) hst2)
    have HFIT := Lib.hid (Rp.altD_fit (s := s) 30 0 (Nat.zero_le _))
    have HP : Hid _ := Lib.hid (show Rp.parse0 s = Rp.on (Rp.altD s 30 0) fun t b => if b < s.size then .error (6, b) else .ok (t, b) from rfl)
    obtain ⟨A, hA⟩ : ∃ A, Rp.altD s 30 0 = A := ⟨_, rfl⟩
    rw [hA] at HAL HFIT HP
    clear hst hst2 hA hs
    go_enter Try.func11, Try.ntmps11
    go_wp2_with (fail)
    go_at_call 52
    refine HAL.out.mono ?_
    rintro ex w1 ⟨t, b, e, ao, c, fp, hout, hb, hf, rfl, hst⟩
    have hS := (hst.alloc (Rp.rxA t ao c) 27).pick [2, 0, 1, 3] 4 (ρ := Rp.rd (w.heap.size + 1) s b 0 e :: aCel w1.heap.size 27 (Rp.rxA t ao c) :: Rp.kidsA fp ao c t :: aCel w.heap.size 27 #[.int .i64 0, .int .u64 0, .int .u64 0, .int .u64 0, .int .u64 0, .slice none 0 0] :: []) rfl rfl
    have HS := Lib.hid hS
    have HF := Lib.hid hf
    unfold Rp.rxA at HS ⊢
    clear hst hS hf HAL
    obtain ⟨c0, c1, c2, c3, f1, f2, f3⟩ := Rp.rdAt HS.out
    rcases hout with ⟨rfl, rfl⟩ | ⟨he, rfl⟩
    · by_cases hbl : b < s.size
      · have hblI : (b : Int) < s.size := by omega
        have HG := Lib.hid (show Rp.Gives s Rp.zeroT b 6 from .inr ⟨hs3, .inl ⟨6, b, HP.out.trans (if_pos hbl), rfl, rfl, rfl⟩⟩)
        go_wp2_with (fail)
        go_at_call 53
        refine (rpFail_any s b 0 0 6 (w.heap.size + 1) w _ _ HS.out).mono ?_
        rintro ex w2 ⟨rfl, hst⟩
        rw [show Rp.errOf 0 6 = 6 from rfl] at hst
        clear c0 c1 c2 c3 f1 f2 f3
        have HS := Lib.hid hst
        clear hst
        obtain ⟨c0, c1, c2, c3, f1, f2, f3⟩ := Rp.rdAt HS.out
        go_wp2_with (fail)
        obtain ⟨x0, x1, x2, x3, x4, x5⟩ := Rx.cel6 HS.out 3 rfl
        obtain ⟨v0, v1, v2, v3, v4, v5⟩ := Rp.free6 HS.out 3 rfl
        have HS9 := Lib.hid (Rp.set6 (HS.out.pick [3, 0] 4 rfl rfl) (.int .i64 0) (.int .u64 0) (.int .u64 0) (.int .u64 0) (.int .u64 0) (.slice none 0 0)).drew
        obtain ⟨-, c1d, -, c3d, -, -, -⟩ := Rp.rdAt HS.out.drew
        obtain ⟨-, d1, -, d3, -, -, -⟩ := Rp.rdAt (HS9.out.nth 1 rfl)
        refine wp_region_held_drew (S := (fun w' => w'.cell? ⟨w.heap.size + 1, 1, none⟩ = some (.int .i64 (b : Int)) ∧ w'.cell? ⟨w.heap.size + 1, 3, none⟩ = some (.int .i64 6))) (by kernel_rfl) ?_ (fun hHeld => ?_)
        · (try dsimp only); (first | with_reducible exact ⟨c1d, c3d⟩ | with_reducible exact ⟨d1, d3⟩)

        refine wpAnyH_take (i := 0) (v := ?_) rfl (by kernel_rfl) (by kernel_rfl) (by kernel_rfl) (fun _ _ _ h => h) (Or.inl ⟨by rfl, ?_⟩) (by assumption) ?_
        rotate_left; focus (intro w hSw; (try dsimp only at hSw); go_simp; try (with_reducible rfl); done)
        try simp only [List.getElem_toArray, List.getElem_cons_zero, List.getElem_cons_succ, Act.put, List.setIfInBounds_toArray, List.set_cons_zero, List.set_cons_succ]
        refine wpAnyH_take (i := 1) (v := ?_) rfl (by kernel_rfl) (by kernel_rfl) (by kernel_rfl) (fun _ _ _ h => h) (Or.inl ⟨by rfl, ?_⟩) (by assumption) ?_
        rotate_left; focus (intro w hSw; (try dsimp only at hSw); go_simp; try (with_reducible rfl); done)
        try simp only [List.getElem_toArray, List.getElem_cons_zero, List.getElem_cons_succ, Act.put, List.setIfInBounds_toArray, List.set_cons_zero, List.set_cons_succ]
        refine wpAnyH_take (i := 2) (v := ?_) rfl (by kernel_rfl) (by kernel_rfl) (by kernel_rfl) (fun _ _ _ h => h) (Or.inl ⟨by rfl, ?_⟩) (by assumption) ?_
        rotate_left; focus (intro w hSw; (try dsimp only at hSw); go_simp; try (with_reducible rfl); done)
        try simp only [List.getElem_toArray, List.getElem_cons_zero, List.getElem_cons_succ, Act.put, List.setIfInBounds_toArray, List.set_cons_zero, List.set_cons_succ]
        refine wpAnyH_take (i := 3) (v := ?_) rfl (by kernel_rfl) (by kernel_rfl) (by kernel_rfl) (fun _ _ _ h => h) (Or.inl ⟨by rfl, ?_⟩) (by assumption) ?_
        rotate_left; focus (intro w hSw; (try dsimp only at hSw); go_simp; try (with_reducible rfl); done)
        try simp only [List.getElem_toArray, List.getElem_cons_zero, List.getElem_cons_succ, Act.put, List.setIfInBounds_toArray, List.set_cons_zero, List.set_cons_succ]
        refine wpAnyH_take (i := 4) (v := ?_) rfl (by kernel_rfl) (by kernel_rfl) (by kernel_rfl) (fun _ _ _ h => h) (Or.inl ⟨by rfl, ?_⟩) (by assumption) ?_
        rotate_left; focus (intro w hSw; (try dsimp only at hSw); go_simp; try (with_reducible rfl); done)
        try simp only [List.getElem_toArray, List.getElem_cons_zero, List.getElem_cons_succ, Act.put, List.setIfInBounds_toArray, List.set_cons_zero, List.set_cons_succ]
        refine wpAnyH_take (i := 5) (v := ?_) rfl (by kernel_rfl) (by kernel_rfl) (by kernel_rfl) (fun _ _ _ h => h) (Or.inl ⟨by rfl, ?_⟩) (by assumption) ?_
        rotate_left; focus (intro w hSw; (try dsimp only at hSw); go_simp; try (with_reducible rfl); done)
        try simp only [List.getElem_toArray, List.getElem_cons_zero, List.getElem_cons_succ, Act.put, List.setIfInBounds_toArray, List.set_cons_zero, List.set_cons_succ]
        refine wpAnyH_take (i := 6) (v := ?_) rfl (by kernel_rfl) (by kernel_rfl) (by kernel_rfl) (fun _ _ _ h => h) (Or.inl ⟨by rfl, ?_⟩) (by assumption) ?_
        rotate_left; focus (intro w hSw; (try dsimp only at hSw); go_simp; try (with_reducible rfl); done)
        try simp only [List.getElem_toArray, List.getElem_cons_zero, List.getElem_cons_succ, Act.put, List.setIfInBounds_toArray, List.set_cons_zero, List.set_cons_succ]
        refine wpAnyH_take (i := 7) (v := ?_) rfl (by kernel_rfl) (by kernel_rfl) (by kernel_rfl) (fun _ _ _ h => h) (Or.inl ⟨by rfl, ?_⟩) (by assumption) ?_
        rotate_left; focus (intro w hSw; (try dsimp only at hSw); go_simp; try (with_reducible rfl); done)
        try simp only [List.getElem_toArray, List.getElem_cons_zero, List.getElem_cons_succ, Act.put, List.setIfInBounds_toArray, List.set_cons_zero, List.set_cons_succ]
        refine wpAnyH_take (i := 8) (v := ?_) rfl (by kernel_rfl) (by kernel_rfl) (by kernel_rfl) (fun _ _ _ h => h) (Or.inl ⟨by rfl, ?_⟩) (by assumption) ?_
        rotate_left; focus (intro w hSw; (try dsimp only at hSw); go_simp; try (with_reducible rfl); done)
        try simp only [List.getElem_toArray, List.getElem_cons_zero, List.getElem_cons_succ, Act.put, List.setIfInBounds_toArray, List.set_cons_zero, List.set_cons_succ]
        refine wpAnyH_ready (rs := [9]) (by kernel_rfl) (by simp) ?_
        refine AllReadyH.cons rfl (fun K hK => ?_) AllReadyH.nil
        go_simp
        refine hK.out _ _ ?_ (fun hHeld => ?_)
        · (try dsimp only); (first | with_reducible exact ⟨c1d, c3d⟩ | with_reducible exact ⟨d1, d3⟩)
        clear hK K
        try simp only [List.getElem_toArray, List.getElem_cons_zero, List.getElem_cons_succ, Act.put, List.setIfInBounds_toArray, List.set_cons_zero, List.set_cons_succ]
        refine wpAnyH_take (i := 10) (v := ?_) rfl (by kernel_rfl) (by kernel_rfl) (by kernel_rfl) (fun _ _ _ h => h) (Or.inl ⟨by rfl, ?_⟩) (by assumption) ?_
        rotate_left; focus (intro w hSw; (try dsimp only at hSw); go_simp; try (with_reducible rfl); done)
        try simp only [List.getElem_toArray, List.getElem_cons_zero, List.getElem_cons_succ, Act.put, List.setIfInBounds_toArray, List.set_cons_zero, List.set_cons_succ]
        refine wpAnyH_take (i := 11) (v := ?_) rfl (by kernel_rfl) (by kernel_rfl) (by kernel_rfl) (fun _ _ _ h => h) (Or.inl ⟨by rfl, ?_⟩) (by assumption) ?_
        rotate_left; focus (intro w hSw; (try dsimp only at hSw); go_simp; try (with_reducible rfl); done)
        try simp only [List.getElem_toArray, List.getElem_cons_zero, List.getElem_cons_succ, Act.put, List.setIfInBounds_toArray, List.set_cons_zero, List.set_cons_succ]
        refine wpAnyH_done (by kernel_rfl) ?_ _
        go_wp2
        obtain ⟨y0, y1, y2, y3, y4, y5⟩ := Rx.cel6 HS9.out 0 rfl
        refine bodyPost_ret (Rp.resT rfl _ _ w.heap.size rfl y0 y1 y2 y3 y4 y5) rfl ?_
        exact Rp.tells_zero HG.out rfl HS9.out
      · have hblI : ¬ (b : Int) < s.size := by omega
        have hbe : b = s.size := by omega
        have HPO := Lib.hid (HP.out.trans (if_neg hbl))
        obtain ⟨n, hn⟩ := Rp.kidsEnc HF.out HS.out 2 rfl
        have HFI := Lib.hid (Rp.enc_fits hn)
        have HCK := Lib.hid (rexCheck_any _ n t _ _ hn)
        unfold Rp.rxA at HCK
        obtain ⟨E, hE⟩ : ∃ E, Rx.err n t = E := ⟨_, rfl⟩
        have HEE := Lib.hid hE
        rw [hE] at HCK
        clear hn hE hbl
        obtain ⟨z0, z1, z2, z3, z4, z5⟩ := Rx.cel6 HS.out 1 rfl
        go_wp2_with (fail)
        go_at_call 54
        refine HCK.out.mono ?_
        rintro ex w2 ⟨rfl, hb2⟩
        have HS := Lib.hid (HS.out.call hb2)
        clear hb2 c0 c1 c2 c3 f1 f2 f3 z0 z1 z2 z3 z4 z5
        obtain ⟨z0, z1, z2, z3, z4, z5⟩ := Rx.cel6 HS.out 1 rfl
        obtain ⟨x0, x1, x2, x3, x4, x5⟩ := Rx.cel6 HS.out 3 rfl
        obtain ⟨v0, v1, v2, v3, v4, v5⟩ := Rp.free6 HS.out 3 rfl
        by_cases hE0 : E = 0
        · have HG := Lib.hid (show Rp.Gives s t 0 0 from .inr ⟨hs3, .inr ⟨t, n, b, HPO.out, HFI.out, .inr ⟨HEE.out.trans hE0, rfl, rfl, rfl⟩⟩⟩)
          have HS9 := Lib.hid (Rp.set6 (HS.out.pick [3, 2] 4 rfl rfl) (.int .i64 t.kind) (.int .u64 (Rp.cw t 0)) (.int .u64 (Rp.cw t 1)) (.int .u64 (Rp.cw t 2)) (.int .u64 (Rp.cw t 3)) (.slice ao t.kids.length c))
          subst hE0
          go_wp2
          obtain ⟨y0, y1, y2, y3, y4, y5⟩ := Rx.cel6 HS9.out 0 rfl
          refine bodyPost_ret (Rp.resT rfl _ _ w.heap.size rfl y0 y1 y2 y3 y4 y5) rfl ?_
          exact ⟨t, 0, 0, ao, c, fp, HG.out, HF.out, rfl, HS9.out.drop⟩
        · have hne : (E != 0) = true := by rw [bne_iff_ne]; exact hE0
          have HG := Lib.hid (show Rp.Gives s Rp.zeroT s.size E from .inr ⟨hs3, .inr ⟨t, n, b, HPO.out, HFI.out, .inl ⟨by rw [HEE.out]; exact hE0, rfl, rfl, HEE.out.symm⟩⟩⟩)
          have HS9 := Lib.hid (Rp.set6 (HS.out.pick [3] 4 rfl rfl) (.int .i64 0) (.int .u64 0) (.int .u64 0) (.int .u64 0) (.int .u64 0) (.slice none 0 0))
          clear hE0
          go_wp2
          obtain ⟨y0, y1, y2, y3, y4, y5⟩ := Rx.cel6 HS9.out 0 rfl
          refine bodyPost_ret (Rp.resT rfl _ _ w.heap.size rfl y0 y1 y2 y3 y4 y5) rfl ?_
          exact Rp.tells_zero HG.out rfl HS9.out
    · obtain ⟨he0, hene⟩ := Rp.six_or he
      have hene2 : (e != 0) = true := by rw [bne_iff_ne]; exact hene
      have HG := Lib.hid (show Rp.Gives s Rp.zeroT b e from .inr ⟨hs3, .inl ⟨e, b, HP.out, rfl, rfl, rfl⟩⟩)
      clear he hene
      go_wp2_with (fail)
      obtain ⟨x0, x1, x2, x3, x4, x5⟩ := Rx.cel6 HS.out 3 rfl
      obtain ⟨v0, v1, v2, v3, v4, v5⟩ := Rp.free6 HS.out 3 rfl
      have HS9 := Lib.hid (Rp.set6 (HS.out.pick [3, 0] 4 rfl rfl) (.int .i64 0) (.int .u64 0) (.int .u64 0) (.int .u64 0) (.int .u64 0) (.slice none 0 0)).drew
      obtain ⟨-, c1d, -, c3d, -, -, -⟩ := Rp.rdAt HS.out.drew
      obtain ⟨-, d1, -, d3, -, -, -⟩ := Rp.rdAt (HS9.out.nth 1 rfl)
      refine wp_region_held_drew (S := (fun w' => w'.cell? ⟨w.heap.size + 1, 1, none⟩ = some (.int .i64 (b : Int)) ∧ w'.cell? ⟨w.heap.size + 1, 3, none⟩ = some (.int .i64 e))) (by kernel_rfl) ?_ (fun hHeld => ?_)
      · (try dsimp only); (first | with_reducible exact ⟨c1d, c3d⟩ | with_reducible exact ⟨d1, d3⟩)

      refine wpAnyH_take (i := 0) (v := ?_) rfl (by kernel_rfl) (by kernel_rfl) (by kernel_rfl) (fun _ _ _ h => h) (Or.inl ⟨by rfl, ?_⟩) (by assumption) ?_
      rotate_left; focus (intro w hSw; (try dsimp only at hSw); go_simp; try (with_reducible rfl); done)
      try simp only [List.getElem_toArray, List.getElem_cons_zero, List.getElem_cons_succ, Act.put, List.setIfInBounds_toArray, List.set_cons_zero, List.set_cons_succ]
      refine wpAnyH_take (i := 1) (v := ?_) rfl (by kernel_rfl) (by kernel_rfl) (by kernel_rfl) (fun _ _ _ h => h) (Or.inl ⟨by rfl, ?_⟩) (by assumption) ?_
      rotate_left; focus (intro w hSw; (try dsimp only at hSw); go_simp; try (with_reducible rfl); done)
      try simp only [List.getElem_toArray, List.getElem_cons_zero, List.getElem_cons_succ, Act.put, List.setIfInBounds_toArray, List.set_cons_zero, List.set_cons_succ]
      refine wpAnyH_take (i := 2) (v := ?_) rfl (by kernel_rfl) (by kernel_rfl) (by kernel_rfl) (fun _ _ _ h => h) (Or.inl ⟨by rfl, ?_⟩) (by assumption) ?_
      rotate_left; focus (intro w hSw; (try dsimp only at hSw); go_simp; try (with_reducible rfl); done)
      try simp only [List.getElem_toArray, List.getElem_cons_zero, List.getElem_cons_succ, Act.put, List.setIfInBounds_toArray, List.set_cons_zero, List.set_cons_succ]
      refine wpAnyH_take (i := 3) (v := ?_) rfl (by kernel_rfl) (by kernel_rfl) (by kernel_rfl) (fun _ _ _ h => h) (Or.inl ⟨by rfl, ?_⟩) (by assumption) ?_
      rotate_left; focus (intro w hSw; (try dsimp only at hSw); go_simp; try (with_reducible rfl); done)
      try simp only [List.getElem_toArray, List.getElem_cons_zero, List.getElem_cons_succ, Act.put, List.setIfInBounds_toArray, List.set_cons_zero, List.set_cons_succ]
      refine wpAnyH_take (i := 4) (v := ?_) rfl (by kernel_rfl) (by kernel_rfl) (by kernel_rfl) (fun _ _ _ h => h) (Or.inl ⟨by rfl, ?_⟩) (by assumption) ?_
      rotate_left; focus (intro w hSw; (try dsimp only at hSw); go_simp; try (with_reducible rfl); done)
      try simp only [List.getElem_toArray, List.getElem_cons_zero, List.getElem_cons_succ, Act.put, List.setIfInBounds_toArray, List.set_cons_zero, List.set_cons_succ]
      refine wpAnyH_take (i := 5) (v := ?_) rfl (by kernel_rfl) (by kernel_rfl) (by kernel_rfl) (fun _ _ _ h => h) (Or.inl ⟨by rfl, ?_⟩) (by assumption) ?_
      rotate_left; focus (intro w hSw; (try dsimp only at hSw); go_simp; try (with_reducible rfl); done)
      try simp only [List.getElem_toArray, List.getElem_cons_zero, List.getElem_cons_succ, Act.put, List.setIfInBounds_toArray, List.set_cons_zero, List.set_cons_succ]
      refine wpAnyH_take (i := 6) (v := ?_) rfl (by kernel_rfl) (by kernel_rfl) (by kernel_rfl) (fun _ _ _ h => h) (Or.inl ⟨by rfl, ?_⟩) (by assumption) ?_
      rotate_left; focus (intro w hSw; (try dsimp only at hSw); go_simp; try (with_reducible rfl); done)
      try simp only [List.getElem_toArray, List.getElem_cons_zero, List.getElem_cons_succ, Act.put, List.setIfInBounds_toArray, List.set_cons_zero, List.set_cons_succ]
      refine wpAnyH_take (i := 7) (v := ?_) rfl (by kernel_rfl) (by kernel_rfl) (by kernel_rfl) (fun _ _ _ h => h) (Or.inl ⟨by rfl, ?_⟩) (by assumption) ?_
      rotate_left; focus (intro w hSw; (try dsimp only at hSw); go_simp; try (with_reducible rfl); done)
      try simp only [List.getElem_toArray, List.getElem_cons_zero, List.getElem_cons_succ, Act.put, List.setIfInBounds_toArray, List.set_cons_zero, List.set_cons_succ]
      refine wpAnyH_take (i := 8) (v := ?_) rfl (by kernel_rfl) (by kernel_rfl) (by kernel_rfl) (fun _ _ _ h => h) (Or.inl ⟨by rfl, ?_⟩) (by assumption) ?_
      rotate_left; focus (intro w hSw; (try dsimp only at hSw); go_simp; try (with_reducible rfl); done)
      try simp only [List.getElem_toArray, List.getElem_cons_zero, List.getElem_cons_succ, Act.put, List.setIfInBounds_toArray, List.set_cons_zero, List.set_cons_succ]
      refine wpAnyH_ready (rs := [9]) (by kernel_rfl) (by simp) ?_
      refine AllReadyH.cons rfl (fun K hK => ?_) AllReadyH.nil
      go_simp
      refine hK.out _ _ ?_ (fun hHeld => ?_)
      · (try dsimp only); (first | with_reducible exact ⟨c1d, c3d⟩ | with_reducible exact ⟨d1, d3⟩)
      clear hK K
      try simp only [List.getElem_toArray, List.getElem_cons_zero, List.getElem_cons_succ, Act.put, List.setIfInBounds_toArray, List.set_cons_zero, List.set_cons_succ]
      refine wpAnyH_take (i := 10) (v := ?_) rfl (by kernel_rfl) (by kernel_rfl) (by kernel_rfl) (fun _ _ _ h => h) (Or.inl ⟨by rfl, ?_⟩) (by assumption) ?_
      rotate_left; focus (intro w hSw; (try dsimp only at hSw); go_simp; try (with_reducible rfl); done)
      try simp only [List.getElem_toArray, List.getElem_cons_zero, List.getElem_cons_succ, Act.put, List.setIfInBounds_toArray, List.set_cons_zero, List.set_cons_succ]
      refine wpAnyH_take (i := 11) (v := ?_) rfl (by kernel_rfl) (by kernel_rfl) (by kernel_rfl) (fun _ _ _ h => h) (Or.inl ⟨by rfl, ?_⟩) (by assumption) ?_
      rotate_left; focus (intro w hSw; (try dsimp only at hSw); go_simp; try (with_reducible rfl); done)
      try simp only [List.getElem_toArray, List.getElem_cons_zero, List.getElem_cons_succ, Act.put, List.setIfInBounds_toArray, List.set_cons_zero, List.set_cons_succ]
      refine wpAnyH_done (by kernel_rfl) ?_ _
      go_wp2
      obtain ⟨y0, y1, y2, y3, y4, y5⟩ := Rx.cel6 HS9.out 0 rfl
      refine bodyPost_ret (Rp.resT rfl _ _ w.heap.size rfl y0 y1 y2 y3 y4 y5) rfl ?_
      exact Rp.tells_zero HG.out rfl HS9.out
end Go.Proofs.Ytfelikfppjlcmaa

/-
  Rex of the reference: what is wrong with a regular expression.
-/
namespace Go.Proofs.Ytfelikfppjlcmaa
set_option linter.unusedVariables false
set_option linter.unusedSimpArgs false
open Go.ChangeShapes Go.WideShapes Go.ChangeAt Go.RowKit

namespace Rx
def kk (k : Int) : Int := if k = 6 then 1 else if k = 4 ∨ k = 5 then 2 else 0
theorem bad_ref (t : Rx) (bz : Bool) (hz : decide (ws t = Dm.zero) = bz) : bad t = (decide (t.kind < 1) || decide (6 < t.kind) || ((t.kids.length : Int) != kk t.kind) || ((t.kind == 3) == bz)) := by
  unfold bad
  rw [hz]
  have hb : decide (t.kind = 3) = (t.kind == 3) := by rw [Bool.eq_iff_iff]; simp
  rw [hb]
  congr 1
  rw [Bool.eq_iff_iff, decide_eq_true_iff]
  simp only [decide_eq_true_eq, Bool.or_eq_true, bne_iff_ne]
  unfold kidsOf kk
  have hn0 : (0 : Int) ≤ (t.kids.length : Int) := Int.natCast_nonneg _
  generalize t.kind = k
  generalize (t.kids.length : Int) = n at *
  by_cases h1 : k = 1 ∨ k = 2 ∨ k = 3
  · rw [if_pos h1, if_neg (by omega), if_neg (by omega)]; omega
  · by_cases h6 : k = 6
    · rw [if_neg h1, if_pos h6, if_pos h6]; omega
    · by_cases h4 : k = 4 ∨ k = 5
      · rw [if_neg h1, if_neg h6, if_pos h4, if_neg h6, if_pos h4]; omega
      · rw [if_neg h1, if_neg h6, if_neg h4, if_neg h6, if_neg h4]; omega
end Rx

set_option maxRecDepth 100000 in
set_option maxHeartbeats 8000000 in
theorem rRexAt_any (w0 : World) (F : Nat → Prop) :
    ∀ (n : Nat) (t : Rx) (cs : Array Value) (deep m : Int) (g : Nat) (μ : List Asrt) (w : World), (Rx.enc n).R F w0 cs.toList t → Rx.In m → 1 ≤ deep → deep ≤ 31 → St w0 w (aCel g 3 #[.int .i64 m] :: μ) →
      Calls Try.prog 122 #[.agg cs, .int .i64 deep, .pointer (some ⟨g, 0, none⟩)] w fun e w' => e = .returned (.int .i64 (Rx.chk n t deep m).1) ∧ St w0 w' (aCel g 3 #[.int .i64 (Rx.chk n t deep m).2] :: μ) := by
  intro n
  induction n with
  | zero => intro t cs deep m g μ w h; exact h.elim
  | succ n ih =>
    intro t cs deep m g μ w ht hin hd0 hd1 hst
    obtain ⟨n', hn, vk, hcs, ⟨hk0, hk1⟩, hok, hk⟩ := Rx.opened ht
    obtain rfl : n = n' := by omega
    obtain ⟨a0, a1, a2, a3, hws⟩ := Cs.okFour hok
    have hcs2 : cs = #[.int .i64 t.kind, .int .u64 a0, .int .u64 a1, .int .u64 a2, .int .u64 a3, vk] := by
      apply Array.toList_inj.1
      rw [hcs, Rx.cel, hws]; rfl
    subst hcs2
    obtain ⟨ak, bk, ok, ck, rfl, hkl, k3, k4⟩ := Rx.kidsAt hk
    obtain ⟨hi0, hi1⟩ := hin
    have hout := Rx.chk_out (f := n + 1) (t := t) (deep := deep) (n := m) ⟨hi0, hi1⟩
    obtain ⟨R, hR⟩ : ∃ R, Rx.chk (n + 1) t deep m = R := ⟨_, rfl⟩
    rw [hR] at hout ⊢
    rw [Rx.chk, Rx.bad_ref t (decide ([a0, a1, a2, a3] = Dm.zero)) (by rw [hws])] at hR
    have hs1 := ((hst.alloc #[.int .i64 t.kind, .int .u64 a0, .int .u64 a1, .int .u64 a2, .int .u64 a3, .slice ak t.kids.length ck] 27).get2).setCel 0 (.int .i64 (m + 1))
    have HS1 := Lib.hid (show St w0 _ (aCel g 3 #[.int .i64 (m + 1)] :: aCel w.heap.size 27 #[.int .i64 t.kind, .int .u64 a0, .int .u64 a1, .int .u64 a2, .int .u64 a3, .slice ak t.kids.length ck] :: μ) from hs1)
    have hbig := hst.alloc #[.int .i64 t.kind, .int .u64 a0, .int .u64 a1, .int .u64 a2, .int .u64 a3, .slice ak t.kids.length ck] 27
    have q0 := (hbig.nth 1 rfl).celAt (i := 0) rfl
    have q1 := (hbig.nth 1 rfl).celFree 0
    have HR := Lib.hid hR
    have K3 := Lib.hid k3; have K4 := Lib.hid k4; have IH := Lib.hid ih
    clear hs1 hbig hst hR k3 k4 ih hk ht hcs hok hws hn
    generalize t.kind = kd at *
    generalize t.kids = ks at *
    by_cases h1 : 100 < m + 1
    · have he := HR.out
      rw [if_pos h1] at he
      subst he
      clear HR K3 K4 IH hkl
      go_enter Try.func122, Try.ntmps122
      go_wp2
      go_ret
      exact ⟨rfl, HS1.out.pick [0] 2 rfl rfl⟩
    by_cases h2 : 30 < deep
    · have he := HR.out
      rw [if_neg h1, if_pos h2] at he
      subst he
      clear HR K3 K4 IH hkl
      go_enter Try.func122, Try.ntmps122
      go_wp2
      go_ret
      exact ⟨rfl, HS1.out.pick [0] 2 rfl rfl⟩
    have hR2 := HR.out
    rw [if_neg h1, if_neg h2] at hR2
    clear HR
    have heq := fun W => Rx.eqz (a0 := a0) (a1 := a1) (a2 := a2) (a3 := a3) W
    generalize decide ([a0, a1, a2, a3] = Dm.zero) = bz at *
    have HR := Lib.hid hR2
    clear hR2
    have HSN := Lib.hid fun n => HS1.out.drewN n
    have hdw : IntKind.i64.wrap (deep + 1) = deep + 1 := IntWalk.i64_in _ (by omega)
    obtain ⟨y0, y1, y2, y3, y4, y5⟩ := Rx.cel6 HS1.out 1 rfl
    by_cases h6 : kd = 6
    · subst h6
      obtain ⟨bl, hbl⟩ : ∃ b, ((ks.length : Int) != 1) = b := ⟨_, rfl⟩
      have he := HR.out
      rw [show Rx.kk 6 = 1 from rfl, hbl] at he
      cases bl
      · cases bz
        · skip
          rw [if_pos (by decide)] at he
          subst he
          go_enter Try.func122, Try.ntmps122
          go_wp2_with (fail)
          generalize hWW : World.setCell _ _ _ = W1 at *
          clear hWW
          go_quiet (fail)
          have HS := Lib.hid (HSN.out nq)
          clear HSN HS1 q0 q1 y0 y1 y2 y3 y4 y5
          generalize World.drewN _ _ = W2 at *
          obtain ⟨y0, y1, y2, y3, y4, y5⟩ := Rx.cel6 HS.out 1 rfl
          have g0 := (HS.out.nth 0 rfl).celAt (i := 0) rfl
          go_wp2
          go_ret
          exact ⟨rfl, HS.out.pick [0] 2 rfl rfl⟩
        · skip
          rw [if_neg (by decide)] at he
          have HRL : Hid (Rx.chkK (fun k n' => Rx.chk n k (deep + 1) n') (ks.drop 0) (m + 1) = R) := Lib.hid he
          clear he HR
          go_enter Try.func122, Try.ntmps122
          go_wp2_with (fail)
          generalize hWW : World.setCell _ _ _ = W1 at *
          clear hWW
          go_quiet (fail)
          have HS := Lib.hid (HSN.out nq)
          clear HSN HS1 q0 q1 y0 y1 y2 y3 y4 y5
          generalize World.drewN _ _ = W2 at *
          obtain ⟨y0, y1, y2, y3, y4, y5⟩ := Rx.cel6 HS.out 1 rfl
          have g0 := (HS.out.nth 0 rfl).celAt (i := 0) rfl
          go_wp2_with (fail)
          go_loopg [8] ks.length (fun gk v8 wr => ∃ (i : Nat) (m' : Int), i ≤ ks.length ∧ gk = ks.length - i ∧ v8 = .int .i64 i ∧ Rx.In m' ∧ Hid (Rx.chkK (fun k n' => Rx.chk n k (deep + 1) n') (ks.drop i) m' = R) ∧ St w0 wr (aCel g 3 #[.int .i64 m'] :: aCel w.heap.size 27 #[.int .i64 6, .int .u64 a0, .int .u64 a1, .int .u64 a2, .int .u64 a3, .slice ak ks.length ck] :: μ))
          case atStart => exact ⟨0, m + 1, by omega, by omega, rfl, ⟨by omega, by omega⟩, HRL, HS.out⟩
          case round =>
            clear HS HRL y0 y1 y2 y3 y4 y5 g0
            obtain ⟨i, m', hi, hgk, rfl, hin', HRL, hst⟩ := hrel
            obtain ⟨y0, y1, y2, y3, y4, y5⟩ := Rx.cel6 hst 1 rfl
            have HGK := Lib.hid hgk
            have HIN := Lib.hid hin'
            clear hgk hin'
            by_cases hlt : i < ks.length
            · have hltI : (i : Int) < ks.length := by omega
              obtain ⟨rfl, -, -⟩ := K3.out (by omega)
              obtain ⟨b0, b1, b2, b3', ax, cx, -, e0, e1, e2, e3, e4, e5, hen⟩ := K4.out i hlt
              have he := HRL.out
              rw [Rx.chkK_at hlt] at he
              have hout2 := Rx.chk_out (f := n) (t := ks.getD i Rx.nil) (deep := deep + 1) (n := m') HIN.out
              have c0 := bkeep hst.bel e0; have c1 := bkeep hst.bel e1; have c2 := bkeep hst.bel e2; have c3 := bkeep hst.bel e3; have c4 := bkeep hst.bel e4; have c5 := bkeep hst.bel e5
              have HC := Lib.hid (fun W hW => IH.out (ks.getD i Rx.nil) #[.int .i64 (ks.getD i Rx.nil).kind, .int .u64 b0, .int .u64 b1, .int .u64 b2, .int .u64 b3', .slice ax (ks.getD i Rx.nil).kids.length cx] (deep + 1) m' g (aCel w.heap.size 27 #[.int .i64 6, .int .u64 a0, .int .u64 a1, .int .u64 a2, .int .u64 a3, .slice (some ⟨bk, ok, none⟩) ks.length ck] :: μ) W hen HIN.out (by omega) (by omega) hW)
              have HST := Lib.hid hst
              clear hst e0 e1 e2 e3 e4 e5 hen
              obtain ⟨Q, hQ⟩ : ∃ Q, Rx.chk n (ks.getD i Rx.nil) (deep + 1) m' = Q := ⟨_, rfl⟩
              rw [hQ] at HC he hout2
              have HE := Lib.hid he
              clear hQ he
              generalize (ks.getD i Rx.nil).kind = kd2 at *
              generalize (ks.getD i Rx.nil).kids.length = nx at *
              obtain ⟨e, m2⟩ := Q
              obtain ⟨o1, o2, o3, o4⟩ := hout2
              simp only at HC o1 o2 o3 o4
              go_wp2_with (fail)
              go_at_call 122
              refine (HC.out _ HST.out).mono ?_
              rintro ex w5 ⟨rfl, hst5⟩
              have HST5 := Lib.hid hst5
              clear hst5 HST HC c0 c1 c2 c3 c4 c5
              by_cases he0 : e = 0
              · subst he0
                have HRL := Lib.hid (show Rx.chkK (fun k n' => Rx.chk n k (deep + 1) n') (ks.drop (i + 1)) m2 = R by rw [← HE.out, if_pos rfl])
                have hm2 := o3 rfl
                go_wp2
                go_roundg (ks.length - (i + 1))
                case measure => have := HGK.out; omega
                case rel => exact ⟨i + 1, m2, by omega, rfl, by go_num, ⟨o1, hm2⟩, HRL, HST5.out⟩
              · have hne : (e != 0) = true := by simpa using he0
                have HRE := Lib.hid (show (e, m2) = R by rw [← HE.out, if_neg he0])
                go_wp2
                go_ret
                exact ⟨by rw [← HRE.out]; rfl, by rw [← HRE.out]; exact HST5.out.pick [0] 2 rfl rfl⟩
            · have hge : ¬ ((i : Int) < ks.length) := by omega
              have HRE := Lib.hid (show ((0 : Int), m') = R by rw [← HRL.out, Rx.chkK_end hlt])
              go_wp2
              go_ret
              exact ⟨by rw [← HRE.out]; rfl, by rw [← HRE.out]; exact hst.pick [0] 2 rfl rfl⟩
      · skip
        rw [if_pos (by cases bz <;> decide)] at he
        subst he
        go_enter Try.func122, Try.ntmps122
        go_wp2_with (fail)
        generalize hWW : World.setCell _ _ _ = W1 at *
        clear hWW
        go_quiet (fail)
        have HS := Lib.hid (HSN.out nq)
        clear HSN HS1 q0 q1 y0 y1 y2 y3 y4 y5
        generalize World.drewN _ _ = W2 at *
        obtain ⟨y0, y1, y2, y3, y4, y5⟩ := Rx.cel6 HS.out 1 rfl
        have g0 := (HS.out.nth 0 rfl).celAt (i := 0) rfl
        go_wp2
        go_ret
        exact ⟨rfl, HS.out.pick [0] 2 rfl rfl⟩
    by_cases h4 : kd = 4
    · subst h4
      obtain ⟨bl, hbl⟩ : ∃ b, ((ks.length : Int) != 2) = b := ⟨_, rfl⟩
      have he := HR.out
      rw [show Rx.kk 4 = 2 from rfl, hbl] at he
      cases bl
      · cases bz
        · skip
          rw [if_pos (by decide)] at he
          subst he
          go_enter Try.func122, Try.ntmps122
          go_wp2_with (fail)
          generalize hWW : World.setCell _ _ _ = W1 at *
          clear hWW
          go_quiet (fail)
          have HS := Lib.hid (HSN.out nq)
          clear HSN HS1 q0 q1 y0 y1 y2 y3 y4 y5
          generalize World.drewN _ _ = W2 at *
          obtain ⟨y0, y1, y2, y3, y4, y5⟩ := Rx.cel6 HS.out 1 rfl
          have g0 := (HS.out.nth 0 rfl).celAt (i := 0) rfl
          go_wp2
          go_ret
          exact ⟨rfl, HS.out.pick [0] 2 rfl rfl⟩
        · skip
          rw [if_neg (by decide)] at he
          have HRL : Hid (Rx.chkK (fun k n' => Rx.chk n k (deep + 1) n') (ks.drop 0) (m + 1) = R) := Lib.hid he
          clear he HR
          go_enter Try.func122, Try.ntmps122
          go_wp2_with (fail)
          generalize hWW : World.setCell _ _ _ = W1 at *
          clear hWW
          go_quiet (fail)
          have HS := Lib.hid (HSN.out nq)
          clear HSN HS1 q0 q1 y0 y1 y2 y3 y4 y5
          generalize World.drewN _ _ = W2 at *
          obtain ⟨y0, y1, y2, y3, y4, y5⟩ := Rx.cel6 HS.out 1 rfl
          have g0 := (HS.out.nth 0 rfl).celAt (i := 0) rfl
          go_wp2_with (fail)
          go_loopg [8] ks.length (fun gk v8 wr => ∃ (i : Nat) (m' : Int), i ≤ ks.length ∧ gk = ks.length - i ∧ v8 = .int .i64 i ∧ Rx.In m' ∧ Hid (Rx.chkK (fun k n' => Rx.chk n k (deep + 1) n') (ks.drop i) m' = R) ∧ St w0 wr (aCel g 3 #[.int .i64 m'] :: aCel w.heap.size 27 #[.int .i64 4, .int .u64 a0, .int .u64 a1, .int .u64 a2, .int .u64 a3, .slice ak ks.length ck] :: μ))
          case atStart => exact ⟨0, m + 1, by omega, by omega, rfl, ⟨by omega, by omega⟩, HRL, HS.out⟩
          case round =>
            clear HS HRL y0 y1 y2 y3 y4 y5 g0
            obtain ⟨i, m', hi, hgk, rfl, hin', HRL, hst⟩ := hrel
            obtain ⟨y0, y1, y2, y3, y4, y5⟩ := Rx.cel6 hst 1 rfl
            have HGK := Lib.hid hgk
            have HIN := Lib.hid hin'
            clear hgk hin'
            by_cases hlt : i < ks.length
            · have hltI : (i : Int) < ks.length := by omega
              obtain ⟨rfl, -, -⟩ := K3.out (by omega)
              obtain ⟨b0, b1, b2, b3', ax, cx, -, e0, e1, e2, e3, e4, e5, hen⟩ := K4.out i hlt
              have he := HRL.out
              rw [Rx.chkK_at hlt] at he
              have hout2 := Rx.chk_out (f := n) (t := ks.getD i Rx.nil) (deep := deep + 1) (n := m') HIN.out
              have c0 := bkeep hst.bel e0; have c1 := bkeep hst.bel e1; have c2 := bkeep hst.bel e2; have c3 := bkeep hst.bel e3; have c4 := bkeep hst.bel e4; have c5 := bkeep hst.bel e5
              have HC := Lib.hid (fun W hW => IH.out (ks.getD i Rx.nil) #[.int .i64 (ks.getD i Rx.nil).kind, .int .u64 b0, .int .u64 b1, .int .u64 b2, .int .u64 b3', .slice ax (ks.getD i Rx.nil).kids.length cx] (deep + 1) m' g (aCel w.heap.size 27 #[.int .i64 4, .int .u64 a0, .int .u64 a1, .int .u64 a2, .int .u64 a3, .slice (some ⟨bk, ok, none⟩) ks.length ck] :: μ) W hen HIN.out (by omega) (by omega) hW)
              have HST := Lib.hid hst
              clear hst e0 e1 e2 e3 e4 e5 hen
              obtain ⟨Q, hQ⟩ : ∃ Q, Rx.chk n (ks.getD i Rx.nil) (deep + 1) m' = Q := ⟨_, rfl⟩
              rw [hQ] at HC he hout2
              have HE := Lib.hid he
              clear hQ he
              generalize (ks.getD i Rx.nil).kind = kd2 at *
              generalize (ks.getD i Rx.nil).kids.length = nx at *
              obtain ⟨e, m2⟩ := Q
              obtain ⟨o1, o2, o3, o4⟩ := hout2
              simp only at HC o1 o2 o3 o4
              go_wp2_with (fail)
              go_at_call 122
              refine (HC.out _ HST.out).mono ?_
              rintro ex w5 ⟨rfl, hst5⟩
              have HST5 := Lib.hid hst5
              clear hst5 HST HC c0 c1 c2 c3 c4 c5
              by_cases he0 : e = 0
              · subst he0
                have HRL := Lib.hid (show Rx.chkK (fun k n' => Rx.chk n k (deep + 1) n') (ks.drop (i + 1)) m2 = R by rw [← HE.out, if_pos rfl])
                have hm2 := o3 rfl
                go_wp2
                go_roundg (ks.length - (i + 1))
                case measure => have := HGK.out; omega
                case rel => exact ⟨i + 1, m2, by omega, rfl, by go_num, ⟨o1, hm2⟩, HRL, HST5.out⟩
              · have hne : (e != 0) = true := by simpa using he0
                have HRE := Lib.hid (show (e, m2) = R by rw [← HE.out, if_neg he0])
                go_wp2
                go_ret
                exact ⟨by rw [← HRE.out]; rfl, by rw [← HRE.out]; exact HST5.out.pick [0] 2 rfl rfl⟩
            · have hge : ¬ ((i : Int) < ks.length) := by omega
              have HRE := Lib.hid (show ((0 : Int), m') = R by rw [← HRL.out, Rx.chkK_end hlt])
              go_wp2
              go_ret
              exact ⟨by rw [← HRE.out]; rfl, by rw [← HRE.out]; exact hst.pick [0] 2 rfl rfl⟩
      · skip
        rw [if_pos (by cases bz <;> decide)] at he
        subst he
        go_enter Try.func122, Try.ntmps122
        go_wp2_with (fail)
        generalize hWW : World.setCell _ _ _ = W1 at *
        clear hWW
        go_quiet (fail)
        have HS := Lib.hid (HSN.out nq)
        clear HSN HS1 q0 q1 y0 y1 y2 y3 y4 y5
        generalize World.drewN _ _ = W2 at *
        obtain ⟨y0, y1, y2, y3, y4, y5⟩ := Rx.cel6 HS.out 1 rfl
        have g0 := (HS.out.nth 0 rfl).celAt (i := 0) rfl
        go_wp2
        go_ret
        exact ⟨rfl, HS.out.pick [0] 2 rfl rfl⟩
    by_cases h5 : kd = 5
    · subst h5
      obtain ⟨bl, hbl⟩ : ∃ b, ((ks.length : Int) != 2) = b := ⟨_, rfl⟩
      have he := HR.out
      rw [show Rx.kk 5 = 2 from rfl, hbl] at he
      cases bl
      · cases bz
        · skip
          rw [if_pos (by decide)] at he
          subst he
          go_enter Try.func122, Try.ntmps122
          go_wp2_with (fail)
          generalize hWW : World.setCell _ _ _ = W1 at *
          clear hWW
          go_quiet (fail)
          have HS := Lib.hid (HSN.out nq)
          clear HSN HS1 q0 q1 y0 y1 y2 y3 y4 y5
          generalize World.drewN _ _ = W2 at *
          obtain ⟨y0, y1, y2, y3, y4, y5⟩ := Rx.cel6 HS.out 1 rfl
          have g0 := (HS.out.nth 0 rfl).celAt (i := 0) rfl
          go_wp2
          go_ret
          exact ⟨rfl, HS.out.pick [0] 2 rfl rfl⟩
        · skip
          rw [if_neg (by decide)] at he
          have HRL : Hid (Rx.chkK (fun k n' => Rx.chk n k (deep + 1) n') (ks.drop 0) (m + 1) = R) := Lib.hid he
          clear he HR
          go_enter Try.func122, Try.ntmps122
          go_wp2_with (fail)
          generalize hWW : World.setCell _ _ _ = W1 at *
          clear hWW
          go_quiet (fail)
          have HS := Lib.hid (HSN.out nq)
          clear HSN HS1 q0 q1 y0 y1 y2 y3 y4 y5
          generalize World.drewN _ _ = W2 at *
          obtain ⟨y0, y1, y2, y3, y4, y5⟩ := Rx.cel6 HS.out 1 rfl
          have g0 := (HS.out.nth 0 rfl).celAt (i := 0) rfl
          go_wp2_with (fail)
          go_loopg [8] ks.length (fun gk v8 wr => ∃ (i : Nat) (m' : Int), i ≤ ks.length ∧ gk = ks.length - i ∧ v8 = .int .i64 i ∧ Rx.In m' ∧ Hid (Rx.chkK (fun k n' => Rx.chk n k (deep + 1) n') (ks.drop i) m' = R) ∧ St w0 wr (aCel g 3 #[.int .i64 m'] :: aCel w.heap.size 27 #[.int .i64 5, .int .u64 a0, .int .u64 a1, .int .u64 a2, .int .u64 a3, .slice ak ks.length ck] :: μ))
          case atStart => exact ⟨0, m + 1, by omega, by omega, rfl, ⟨by omega, by omega⟩, HRL, HS.out⟩
          case round =>
            clear HS HRL y0 y1 y2 y3 y4 y5 g0
            obtain ⟨i, m', hi, hgk, rfl, hin', HRL, hst⟩ := hrel
            obtain ⟨y0, y1, y2, y3, y4, y5⟩ := Rx.cel6 hst 1 rfl
            have HGK := Lib.hid hgk
            have HIN := Lib.hid hin'
            clear hgk hin'
            by_cases hlt : i < ks.length
            · have hltI : (i : Int) < ks.length := by omega
              obtain ⟨rfl, -, -⟩ := K3.out (by omega)
              obtain ⟨b0, b1, b2, b3', ax, cx, -, e0, e1, e2, e3, e4, e5, hen⟩ := K4.out i hlt
              have he := HRL.out
              rw [Rx.chkK_at hlt] at he
              have hout2 := Rx.chk_out (f := n) (t := ks.getD i Rx.nil) (deep := deep + 1) (n := m') HIN.out
              have c0 := bkeep hst.bel e0; have c1 := bkeep hst.bel e1; have c2 := bkeep hst.bel e2; have c3 := bkeep hst.bel e3; have c4 := bkeep hst.bel e4; have c5 := bkeep hst.bel e5
              have HC := Lib.hid (fun W hW => IH.out (ks.getD i Rx.nil) #[.int .i64 (ks.getD i Rx.nil).kind, .int .u64 b0, .int .u64 b1, .int .u64 b2, .int .u64 b3', .slice ax (ks.getD i Rx.nil).kids.length cx] (deep + 1) m' g (aCel w.heap.size 27 #[.int .i64 5, .int .u64 a0, .int .u64 a1, .int .u64 a2, .int .u64 a3, .slice (some ⟨bk, ok, none⟩) ks.length ck] :: μ) W hen HIN.out (by omega) (by omega) hW)
              have HST := Lib.hid hst
              clear hst e0 e1 e2 e3 e4 e5 hen
              obtain ⟨Q, hQ⟩ : ∃ Q, Rx.chk n (ks.getD i Rx.nil) (deep + 1) m' = Q := ⟨_, rfl⟩
              rw [hQ] at HC he hout2
              have HE := Lib.hid he
              clear hQ he
              generalize (ks.getD i Rx.nil).kind = kd2 at *
              generalize (ks.getD i Rx.nil).kids.length = nx at *
              obtain ⟨e, m2⟩ := Q
              obtain ⟨o1, o2, o3, o4⟩ := hout2
              simp only at HC o1 o2 o3 o4
              go_wp2_with (fail)
              go_at_call 122
              refine (HC.out _ HST.out).mono ?_
              rintro ex w5 ⟨rfl, hst5⟩
              have HST5 := Lib.hid hst5
              clear hst5 HST HC c0 c1 c2 c3 c4 c5
              by_cases he0 : e = 0
              · subst he0
                have HRL := Lib.hid (show Rx.chkK (fun k n' => Rx.chk n k (deep + 1) n') (ks.drop (i + 1)) m2 = R by rw [← HE.out, if_pos rfl])
                have hm2 := o3 rfl
                go_wp2
                go_roundg (ks.length - (i + 1))
                case measure => have := HGK.out; omega
                case rel => exact ⟨i + 1, m2, by omega, rfl, by go_num, ⟨o1, hm2⟩, HRL, HST5.out⟩
              · have hne : (e != 0) = true := by simpa using he0
                have HRE := Lib.hid (show (e, m2) = R by rw [← HE.out, if_neg he0])
                go_wp2
                go_ret
                exact ⟨by rw [← HRE.out]; rfl, by rw [← HRE.out]; exact HST5.out.pick [0] 2 rfl rfl⟩
            · have hge : ¬ ((i : Int) < ks.length) := by omega
              have HRE := Lib.hid (show ((0 : Int), m') = R by rw [← HRL.out, Rx.chkK_end hlt])
              go_wp2
              go_ret
              exact ⟨by rw [← HRE.out]; rfl, by rw [← HRE.out]; exact hst.pick [0] 2 rfl rfl⟩
      · skip
        rw [if_pos (by cases bz <;> decide)] at he
        subst he
        go_enter Try.func122, Try.ntmps122
        go_wp2_with (fail)
        generalize hWW : World.setCell _ _ _ = W1 at *
        clear hWW
        go_quiet (fail)
        have HS := Lib.hid (HSN.out nq)
        clear HSN HS1 q0 q1 y0 y1 y2 y3 y4 y5
        generalize World.drewN _ _ = W2 at *
        obtain ⟨y0, y1, y2, y3, y4, y5⟩ := Rx.cel6 HS.out 1 rfl
        have g0 := (HS.out.nth 0 rfl).celAt (i := 0) rfl
        go_wp2
        go_ret
        exact ⟨rfl, HS.out.pick [0] 2 rfl rfl⟩
    have e4 : (kd == 4) = false := by rw [beq_eq_false_iff_ne]; exact h4
    have e5 : (kd == 5) = false := by rw [beq_eq_false_iff_ne]; exact h5
    have e6 : (kd == 6) = false := by rw [beq_eq_false_iff_ne]; exact h6
    obtain ⟨bl, hbl⟩ : ∃ b, ((ks.length : Int) != 0) = b := ⟨_, rfl⟩
    have he := HR.out
    rw [show Rx.kk kd = 0 by rw [Rx.kk, if_neg h6, if_neg (by omega)], hbl] at he
    clear h4 h5 h6
    by_cases hlo : kd < 1
    · have hlo2 : decide (kd < 1) = true := decide_eq_true hlo
      rw [hlo2, Bool.true_or, Bool.true_or, Bool.true_or, if_pos rfl] at he
      subst he
      go_enter Try.func122, Try.ntmps122
      go_wp2_with (fail)
      generalize hWW : World.setCell _ _ _ = W1 at *
      clear hWW
      go_quiet (fail)
      have HS := Lib.hid (HSN.out nq)
      clear HSN HS1 q0 q1 y0 y1 y2 y3 y4 y5
      generalize World.drewN _ _ = W2 at *
      obtain ⟨y0, y1, y2, y3, y4, y5⟩ := Rx.cel6 HS.out 1 rfl
      have g0 := (HS.out.nth 0 rfl).celAt (i := 0) rfl
      go_wp2
      go_ret
      exact ⟨rfl, HS.out.pick [0] 2 rfl rfl⟩
    have hlo2 : decide (kd < 1) = false := decide_eq_false hlo
    by_cases hhi : 6 < kd
    · have hhi2 : decide (6 < kd) = true := decide_eq_true hhi
      rw [hlo2, hhi2, Bool.false_or, Bool.true_or, Bool.true_or, if_pos rfl] at he
      subst he
      go_enter Try.func122, Try.ntmps122
      go_wp2_with (fail)
      generalize hWW : World.setCell _ _ _ = W1 at *
      clear hWW
      go_quiet (fail)
      have HS := Lib.hid (HSN.out nq)
      clear HSN HS1 q0 q1 y0 y1 y2 y3 y4 y5
      generalize World.drewN _ _ = W2 at *
      obtain ⟨y0, y1, y2, y3, y4, y5⟩ := Rx.cel6 HS.out 1 rfl
      have g0 := (HS.out.nth 0 rfl).celAt (i := 0) rfl
      go_wp2
      go_ret
      exact ⟨rfl, HS.out.pick [0] 2 rfl rfl⟩
    have hhi2 : decide (6 < kd) = false := decide_eq_false hhi
    obtain ⟨b3, hb3⟩ : ∃ b, (kd == 3) = b := ⟨_, rfl⟩
    rw [hlo2, hhi2, Bool.false_or, Bool.false_or, hb3] at he
    cases bl
    · cases b3
      · cases bz
        · skip
          rw [if_pos (by decide)] at he
          subst he
          go_enter Try.func122, Try.ntmps122
          go_wp2_with (fail)
          generalize hWW : World.setCell _ _ _ = W1 at *
          clear hWW
          go_quiet (fail)
          have HS := Lib.hid (HSN.out nq)
          clear HSN HS1 q0 q1 y0 y1 y2 y3 y4 y5
          generalize World.drewN _ _ = W2 at *
          obtain ⟨y0, y1, y2, y3, y4, y5⟩ := Rx.cel6 HS.out 1 rfl
          have g0 := (HS.out.nth 0 rfl).celAt (i := 0) rfl
          go_wp2
          go_ret
          exact ⟨rfl, HS.out.pick [0] 2 rfl rfl⟩
        · skip
          rw [if_neg (by decide)] at he
          have HRL : Hid (Rx.chkK (fun k n' => Rx.chk n k (deep + 1) n') (ks.drop 0) (m + 1) = R) := Lib.hid he
          clear he HR
          go_enter Try.func122, Try.ntmps122
          go_wp2_with (fail)
          generalize hWW : World.setCell _ _ _ = W1 at *
          clear hWW
          go_quiet (fail)
          have HS := Lib.hid (HSN.out nq)
          clear HSN HS1 q0 q1 y0 y1 y2 y3 y4 y5
          generalize World.drewN _ _ = W2 at *
          obtain ⟨y0, y1, y2, y3, y4, y5⟩ := Rx.cel6 HS.out 1 rfl
          have g0 := (HS.out.nth 0 rfl).celAt (i := 0) rfl
          go_wp2_with (fail)
          go_loopg [8] ks.length (fun gk v8 wr => ∃ (i : Nat) (m' : Int), i ≤ ks.length ∧ gk = ks.length - i ∧ v8 = .int .i64 i ∧ Rx.In m' ∧ Hid (Rx.chkK (fun k n' => Rx.chk n k (deep + 1) n') (ks.drop i) m' = R) ∧ St w0 wr (aCel g 3 #[.int .i64 m'] :: aCel w.heap.size 27 #[.int .i64 kd, .int .u64 a0, .int .u64 a1, .int .u64 a2, .int .u64 a3, .slice ak ks.length ck] :: μ))
          case atStart => exact ⟨0, m + 1, by omega, by omega, rfl, ⟨by omega, by omega⟩, HRL, HS.out⟩
          case round =>
            clear HS HRL y0 y1 y2 y3 y4 y5 g0
            obtain ⟨i, m', hi, hgk, rfl, hin', HRL, hst⟩ := hrel
            obtain ⟨y0, y1, y2, y3, y4, y5⟩ := Rx.cel6 hst 1 rfl
            have HGK := Lib.hid hgk
            have HIN := Lib.hid hin'
            clear hgk hin'
            by_cases hlt : i < ks.length
            · have hltI : (i : Int) < ks.length := by omega
              obtain ⟨rfl, -, -⟩ := K3.out (by omega)
              obtain ⟨b0, b1, b2, b3', ax, cx, -, e0, e1, e2, e3, e4, e5, hen⟩ := K4.out i hlt
              have he := HRL.out
              rw [Rx.chkK_at hlt] at he
              have hout2 := Rx.chk_out (f := n) (t := ks.getD i Rx.nil) (deep := deep + 1) (n := m') HIN.out
              have c0 := bkeep hst.bel e0; have c1 := bkeep hst.bel e1; have c2 := bkeep hst.bel e2; have c3 := bkeep hst.bel e3; have c4 := bkeep hst.bel e4; have c5 := bkeep hst.bel e5
              have HC := Lib.hid (fun W hW => IH.out (ks.getD i Rx.nil) #[.int .i64 (ks.getD i Rx.nil).kind, .int .u64 b0, .int .u64 b1, .int .u64 b2, .int .u64 b3', .slice ax (ks.getD i Rx.nil).kids.length cx] (deep + 1) m' g (aCel w.heap.size 27 #[.int .i64 kd, .int .u64 a0, .int .u64 a1, .int .u64 a2, .int .u64 a3, .slice (some ⟨bk, ok, none⟩) ks.length ck] :: μ) W hen HIN.out (by omega) (by omega) hW)
              have HST := Lib.hid hst
              clear hst e0 e1 e2 e3 e4 e5 hen
              obtain ⟨Q, hQ⟩ : ∃ Q, Rx.chk n (ks.getD i Rx.nil) (deep + 1) m' = Q := ⟨_, rfl⟩
              rw [hQ] at HC he hout2
              have HE := Lib.hid he
              clear hQ he
              generalize (ks.getD i Rx.nil).kind = kd2 at *
              generalize (ks.getD i Rx.nil).kids.length = nx at *
              obtain ⟨e, m2⟩ := Q
              obtain ⟨o1, o2, o3, o4⟩ := hout2
              simp only at HC o1 o2 o3 o4
              go_wp2_with (fail)
              go_at_call 122
              refine (HC.out _ HST.out).mono ?_
              rintro ex w5 ⟨rfl, hst5⟩
              have HST5 := Lib.hid hst5
              clear hst5 HST HC c0 c1 c2 c3 c4 c5
              by_cases he0 : e = 0
              · subst he0
                have HRL := Lib.hid (show Rx.chkK (fun k n' => Rx.chk n k (deep + 1) n') (ks.drop (i + 1)) m2 = R by rw [← HE.out, if_pos rfl])
                have hm2 := o3 rfl
                go_wp2
                go_roundg (ks.length - (i + 1))
                case measure => have := HGK.out; omega
                case rel => exact ⟨i + 1, m2, by omega, rfl, by go_num, ⟨o1, hm2⟩, HRL, HST5.out⟩
              · have hne : (e != 0) = true := by simpa using he0
                have HRE := Lib.hid (show (e, m2) = R by rw [← HE.out, if_neg he0])
                go_wp2
                go_ret
                exact ⟨by rw [← HRE.out]; rfl, by rw [← HRE.out]; exact HST5.out.pick [0] 2 rfl rfl⟩
            · have hge : ¬ ((i : Int) < ks.length) := by omega
              have HRE := Lib.hid (show ((0 : Int), m') = R by rw [← HRL.out, Rx.chkK_end hlt])
              go_wp2
              go_ret
              exact ⟨by rw [← HRE.out]; rfl, by rw [← HRE.out]; exact hst.pick [0] 2 rfl rfl⟩
      · cases bz
        · skip
          rw [if_neg (by decide)] at he
          have HRL : Hid (Rx.chkK (fun k n' => Rx.chk n k (deep + 1) n') (ks.drop 0) (m + 1) = R) := Lib.hid he
          clear he HR
          go_enter Try.func122, Try.ntmps122
          go_wp2_with (fail)
          generalize hWW : World.setCell _ _ _ = W1 at *
          clear hWW
          go_quiet (fail)
          have HS := Lib.hid (HSN.out nq)
          clear HSN HS1 q0 q1 y0 y1 y2 y3 y4 y5
          generalize World.drewN _ _ = W2 at *
          obtain ⟨y0, y1, y2, y3, y4, y5⟩ := Rx.cel6 HS.out 1 rfl
          have g0 := (HS.out.nth 0 rfl).celAt (i := 0) rfl
          go_wp2_with (fail)
          go_loopg [8] ks.length (fun gk v8 wr => ∃ (i : Nat) (m' : Int), i ≤ ks.length ∧ gk = ks.length - i ∧ v8 = .int .i64 i ∧ Rx.In m' ∧ Hid (Rx.chkK (fun k n' => Rx.chk n k (deep + 1) n') (ks.drop i) m' = R) ∧ St w0 wr (aCel g 3 #[.int .i64 m'] :: aCel w.heap.size 27 #[.int .i64 kd, .int .u64 a0, .int .u64 a1, .int .u64 a2, .int .u64 a3, .slice ak ks.length ck] :: μ))
          case atStart => exact ⟨0, m + 1, by omega, by omega, rfl, ⟨by omega, by omega⟩, HRL, HS.out⟩
          case round =>
            clear HS HRL y0 y1 y2 y3 y4 y5 g0
            obtain ⟨i, m', hi, hgk, rfl, hin', HRL, hst⟩ := hrel
            obtain ⟨y0, y1, y2, y3, y4, y5⟩ := Rx.cel6 hst 1 rfl
            have HGK := Lib.hid hgk
            have HIN := Lib.hid hin'
            clear hgk hin'
            by_cases hlt : i < ks.length
            · have hltI : (i : Int) < ks.length := by omega
              obtain ⟨rfl, -, -⟩ := K3.out (by omega)
              obtain ⟨b0, b1, b2, b3', ax, cx, -, e0, e1, e2, e3, e4, e5, hen⟩ := K4.out i hlt
              have he := HRL.out
              rw [Rx.chkK_at hlt] at he
              have hout2 := Rx.chk_out (f := n) (t := ks.getD i Rx.nil) (deep := deep + 1) (n := m') HIN.out
              have c0 := bkeep hst.bel e0; have c1 := bkeep hst.bel e1; have c2 := bkeep hst.bel e2; have c3 := bkeep hst.bel e3; have c4 := bkeep hst.bel e4; have c5 := bkeep hst.bel e5
              have HC := Lib.hid (fun W hW => IH.out (ks.getD i Rx.nil) #[.int .i64 (ks.getD i Rx.nil).kind, .int .u64 b0, .int .u64 b1, .int .u64 b2, .int .u64 b3', .slice ax (ks.getD i Rx.nil).kids.length cx] (deep + 1) m' g (aCel w.heap.size 27 #[.int .i64 kd, .int .u64 a0, .int .u64 a1, .int .u64 a2, .int .u64 a3, .slice (some ⟨bk, ok, none⟩) ks.length ck] :: μ) W hen HIN.out (by omega) (by omega) hW)
              have HST := Lib.hid hst
              clear hst e0 e1 e2 e3 e4 e5 hen
              obtain ⟨Q, hQ⟩ : ∃ Q, Rx.chk n (ks.getD i Rx.nil) (deep + 1) m' = Q := ⟨_, rfl⟩
              rw [hQ] at HC he hout2
              have HE := Lib.hid he
              clear hQ he
              generalize (ks.getD i Rx.nil).kind = kd2 at *
              generalize (ks.getD i Rx.nil).kids.length = nx at *
              obtain ⟨e, m2⟩ := Q
              obtain ⟨o1, o2, o3, o4⟩ := hout2
              simp only at HC o1 o2 o3 o4
              go_wp2_with (fail)
              go_at_call 122
              refine (HC.out _ HST.out).mono ?_
              rintro ex w5 ⟨rfl, hst5⟩
              have HST5 := Lib.hid hst5
              clear hst5 HST HC c0 c1 c2 c3 c4 c5
              by_cases he0 : e = 0
              · subst he0
                have HRL := Lib.hid (show Rx.chkK (fun k n' => Rx.chk n k (deep + 1) n') (ks.drop (i + 1)) m2 = R by rw [← HE.out, if_pos rfl])
                have hm2 := o3 rfl
                go_wp2
                go_roundg (ks.length - (i + 1))
                case measure => have := HGK.out; omega
                case rel => exact ⟨i + 1, m2, by omega, rfl, by go_num, ⟨o1, hm2⟩, HRL, HST5.out⟩
              · have hne : (e != 0) = true := by simpa using he0
                have HRE := Lib.hid (show (e, m2) = R by rw [← HE.out, if_neg he0])
                go_wp2
                go_ret
                exact ⟨by rw [← HRE.out]; rfl, by rw [← HRE.out]; exact HST5.out.pick [0] 2 rfl rfl⟩
            · have hge : ¬ ((i : Int) < ks.length) := by omega
              have HRE := Lib.hid (show ((0 : Int), m') = R by rw [← HRL.out, Rx.chkK_end hlt])
              go_wp2
              go_ret
              exact ⟨by rw [← HRE.out]; rfl, by rw [← HRE.out]; exact hst.pick [0] 2 rfl rfl⟩
        · skip
          rw [if_pos (by decide)] at he
          subst he
          go_enter Try.func122, Try.ntmps122
          go_wp2_with (fail)
          generalize hWW : World.setCell _ _ _ = W1 at *
          clear hWW
          go_quiet (fail)
          have HS := Lib.hid (HSN.out nq)
          clear HSN HS1 q0 q1 y0 y1 y2 y3 y4 y5
          generalize World.drewN _ _ = W2 at *
          obtain ⟨y0, y1, y2, y3, y4, y5⟩ := Rx.cel6 HS.out 1 rfl
          have g0 := (HS.out.nth 0 rfl).celAt (i := 0) rfl
          go_wp2
          go_ret
          exact ⟨rfl, HS.out.pick [0] 2 rfl rfl⟩
    · skip
      rw [Bool.true_or, if_pos rfl] at he
      subst he
      go_enter Try.func122, Try.ntmps122
      go_wp2_with (fail)
      generalize hWW : World.setCell _ _ _ = W1 at *
      clear hWW
      go_quiet (fail)
      have HS := Lib.hid (HSN.out nq)
      clear HSN HS1 q0 q1 y0 y1 y2 y3 y4 y5
      generalize World.drewN _ _ = W2 at *
      obtain ⟨y0, y1, y2, y3, y4, y5⟩ := Rx.cel6 HS.out 1 rfl
      have g0 := (HS.out.nth 0 rfl).celAt (i := 0) rfl
      go_wp2
      go_ret
      exact ⟨rfl, HS.out.pick [0] 2 rfl rfl⟩

set_option maxRecDepth 100000 in
theorem rRex_any (F : Nat → Prop) (n : Nat) (t : Rx) (cs : Array Value) (w : World) (ht : (Rx.enc n).R F w cs.toList t) :
    Calls Try.prog 57 #[.agg cs] w fun e w' => e = .returned (.int .i64 (Rx.err n t)) ∧ Below w.heap.size w w' := by
  obtain ⟨n', hn, vk, hcs, -, hok, hk⟩ := Rx.opened ht
  obtain ⟨a0, a1, a2, a3, hws⟩ := Cs.okFour hok
  have hcs2 : cs = #[.int .i64 t.kind, .int .u64 a0, .int .u64 a1, .int .u64 a2, .int .u64 a3, vk] := by
    apply Array.toList_inj.1
    rw [hcs, Rx.cel, hws]; rfl
  subst hcs2
  obtain ⟨ak, bk, ok, ck, rfl, -, -, -⟩ := Rx.kidsAt hk
  have hst := ((St.init w).alloc #[.int .i64 t.kind, .int .u64 a0, .int .u64 a1, .int .u64 a2, .int .u64 a3, .slice ak t.kids.length ck] 27).alloc #[.int .i64 0] 3
  simp only [World.size_alloc] at hst
  have HC := Lib.hid (rRexAt_any w F n t _ 1 0 (w.heap.size + 1) _ _ ht ⟨by decide, by decide⟩ (by decide) (by decide) hst)
  have HE := Lib.hid (show (Rx.chk n t 1 0).1 = Rx.err n t from rfl)
  generalize Rx.chk n t 1 0 = R at *
  clear hst ht hcs hok hws hk hn
  go_enter Try.func57, Try.ntmps57
  go_wp2_with (fail)
  go_at_call 122
  refine (HC.out).mono ?_
  rintro e w1 ⟨rfl, hst1⟩
  have HST := Lib.hid hst1
  clear hst1
  rw [HE.out]
  go_wp2
  go_ret
  exact ⟨rfl, HST.out.bel⟩
end Go.Proofs.Ytfelikfppjlcmaa

/-
  ReadRex and SameRex of the reference.
-/
namespace Go.Proofs.Ytfelikfppjlcmaa
set_option linter.unusedVariables false
set_option linter.unusedSimpArgs false
open Go.ChangeShapes Go.WideShapes Go.ChangeAt Go.RowKit

set_option maxRecDepth 100000 in
set_option maxHeartbeats 3000000 in
theorem rReadRex_any (s : ByteArray) (w : World) : Calls Try.prog 12 #[.string s] w (Rp.Tells s w) := by
  have hst := (St.init w).alloc #[.int .i64 0, .int .u64 0, .int .u64 0, .int .u64 0, .int .u64 0, .slice none 0 0] 27
  by_cases hs : 300 < s.size
  · have hsI : (s.size : Int) > 300 := by omega
    have HG := Lib.hid (show Rp.Gives s Rp.zeroT 0 2 from .inl ⟨hs, rfl, rfl, rfl⟩)
    obtain ⟨x0, x1, x2, x3, x4, x5⟩ := Rx.cel6 hst 0 rfl
    have HST := Lib.hid hst
    clear hst hs
    go_enter Try.func12, Try.ntmps12
    go_wp2
    refine bodyPost_ret (Rp.resT rfl _ _ w.heap.size rfl x0 x1 x2 x3 x4 x5) rfl ?_
    exact Rp.tells_zero HG.out rfl HST.out
  · have hsI : ¬ (s.size : Int) > 300 := by omega
    have hs3 : s.size ≤ 300 := by omega
    have hst2 := (hst.alloc #[.string s, .int .i64 0, .int .i64 0] 130)
    simp only [World.size_alloc] at hst2
    have HAL := Lib.hid (rrAltD_any s hs3 0 (w.heap.size + 1) w _ _ (Nat.zero_le _) hst2)
    have HP : Hid _ := Lib.hid (show Rp.parse0 s = Rp.on (Rp.altD s 30 0) fun t b => if b < s.size then .error (6, b) else .ok (t, b) from rfl)
    obtain ⟨A, hA⟩ : ∃ A, Rp.altD s 30 0 = A := ⟨_, rfl⟩
    rw [hA] at HAL HP
    clear hst hst2 hA hs
    go_enter Try.func12, Try.ntmps12
    go_wp2_with (fail)
    go_at_call 55
    refine HAL.out.mono ?_
    rintro ex w1 ⟨t, ao, c, fp, hf, hout⟩
    have HF := Lib.hid hf
    clear hf HAL
    rcases hout with ⟨b, rfl, hb, rfl, hst⟩ | ⟨e, p, g, a', rfl, he, rfl, hst⟩
    · have hS := (hst.alloc (Rp.rxA t ao c) 27).pick [2, 0, 1, 3] 4 (ρ := Rp.rt (w.heap.size + 1) s b 0 :: aCel w1.heap.size 27 (Rp.rxA t ao c) :: Rp.kidsA fp ao c t :: aCel w.heap.size 27 #[.int .i64 0, .int .u64 0, .int .u64 0, .int .u64 0, .int .u64 0, .slice none 0 0] :: []) rfl rfl
      have HS := Lib.hid hS
      unfold Rp.rxA at HS ⊢
      clear hst hS
      obtain ⟨c0, c1, c2, f1, f2⟩ := Rp.rtAt HS.out
      by_cases hbl : b < s.size
      · have hblI : (b : Int) < s.size := by omega
        have HG := Lib.hid (show Rp.Gives s Rp.zeroT b 6 from .inr ⟨hs3, .inl ⟨6, b, HP.out.trans (if_pos hbl), rfl, rfl, rfl⟩⟩)
        go_wp2_with (fail)
        go_at_call 56
        refine (rWrong_any s b 0 (w.heap.size + 1) w _ _ HS.out).mono ?_
        rintro ex w2 ⟨g, rfl, hst⟩
        clear c0 c1 c2 f1 f2
        have HS := Lib.hid (hst.pick [1, 2, 3, 0, 4] 5 (ρ := Rp.rt (w.heap.size + 1) s b 0 :: aCel w1.heap.size 27 #[.int .i64 t.kind, .int .u64 (Rp.cw t 0), .int .u64 (Rp.cw t 1), .int .u64 (Rp.cw t 2), .int .u64 (Rp.cw t 3), .slice ao t.kids.length c] :: Rp.kidsA fp ao c t :: Rp.sp g 6 b :: aCel w.heap.size 27 #[.int .i64 0, .int .u64 0, .int .u64 0, .int .u64 0, .int .u64 0, .slice none 0 0] :: []) rfl rfl)
        clear hst
        have hsp := HS.out.pick (ρ := [Rp.sp g 6 b]) [3] 5 rfl rfl
        obtain ⟨x0, x1, x2, x3, x4, x5⟩ := Rx.cel6 HS.out 4 rfl
        obtain ⟨v0, v1, v2, v3, v4, v5⟩ := Rp.free6 HS.out 4 rfl
        have c1 := hsp.drew.celAt (i := 1) (v := .int .i64 (b : Int)) rfl
        have c0 := hsp.drew.celAt (i := 0) (v := .int .i64 6) rfl
        have HS9 := Lib.hid (Rp.set6 (HS.out.pick [4, 3] 5 (ρ := aCel w.heap.size 27 #[.int .i64 0, .int .u64 0, .int .u64 0, .int .u64 0, .int .u64 0, .slice none 0 0] :: Rp.sp g 6 b :: []) rfl rfl) (.int .i64 0) (.int .u64 0) (.int .u64 0) (.int .u64 0) (.int .u64 0) (.slice none 0 0)).drew
        have d1 := (HS9.out.nth 1 rfl).celAt (i := 1) (v := .int .i64 (b : Int)) rfl
        have d0 := (HS9.out.nth 1 rfl).celAt (i := 0) (v := .int .i64 6) rfl
        clear hsp
        go_wp2_with (fail)
        refine wp_region_held_drew (S := (fun w' => w'.cell? ⟨g, 1, none⟩ = some (.int .i64 (b : Int)) ∧ w'.cell? ⟨g, 0, none⟩ = some (.int .i64 6))) (by kernel_rfl) ?_ (fun hHeld => ?_)
        · (try dsimp only); (first | with_reducible exact ⟨c1, c0⟩ | with_reducible exact ⟨d1, d0⟩ | exact ⟨c1, c0⟩)

        refine wpAnyH_take (i := 0) (v := ?_) rfl (by kernel_rfl) (by kernel_rfl) (by kernel_rfl) (fun _ _ _ h => h) (Or.inl ⟨by rfl, ?_⟩) (by assumption) ?_
        rotate_left; focus (intro w hSw; (try dsimp only at hSw); go_simp; try (with_reducible rfl); done)
        try simp only [List.getElem_toArray, List.getElem_cons_zero, List.getElem_cons_succ, Act.put, List.setIfInBounds_toArray, List.set_cons_zero, List.set_cons_succ]
        refine wpAnyH_take (i := 1) (v := ?_) rfl (by kernel_rfl) (by kernel_rfl) (by kernel_rfl) (fun _ _ _ h => h) (Or.inl ⟨by rfl, ?_⟩) (by assumption) ?_
        rotate_left; focus (intro w hSw; (try dsimp only at hSw); go_simp; try (with_reducible rfl); done)
        try simp only [List.getElem_toArray, List.getElem_cons_zero, List.getElem_cons_succ, Act.put, List.setIfInBounds_toArray, List.set_cons_zero, List.set_cons_succ]
        refine wpAnyH_take (i := 2) (v := ?_) rfl (by kernel_rfl) (by kernel_rfl) (by kernel_rfl) (fun _ _ _ h => h) (Or.inl ⟨by rfl, ?_⟩) (by assumption) ?_
        rotate_left; focus (intro w hSw; (try dsimp only at hSw); go_simp; try (with_reducible rfl); done)
        try simp only [List.getElem_toArray, List.getElem_cons_zero, List.getElem_cons_succ, Act.put, List.setIfInBounds_toArray, List.set_cons_zero, List.set_cons_succ]
        refine wpAnyH_take (i := 3) (v := ?_) rfl (by kernel_rfl) (by kernel_rfl) (by kernel_rfl) (fun _ _ _ h => h) (Or.inl ⟨by rfl, ?_⟩) (by assumption) ?_
        rotate_left; focus (intro w hSw; (try dsimp only at hSw); go_simp; try (with_reducible rfl); done)
        try simp only [List.getElem_toArray, List.getElem_cons_zero, List.getElem_cons_succ, Act.put, List.setIfInBounds_toArray, List.set_cons_zero, List.set_cons_succ]
        refine wpAnyH_take (i := 4) (v := ?_) rfl (by kernel_rfl) (by kernel_rfl) (by kernel_rfl) (fun _ _ _ h => h) (Or.inl ⟨by rfl, ?_⟩) (by assumption) ?_
        rotate_left; focus (intro w hSw; (try dsimp only at hSw); go_simp; try (with_reducible rfl); done)
        try simp only [List.getElem_toArray, List.getElem_cons_zero, List.getElem_cons_succ, Act.put, List.setIfInBounds_toArray, List.set_cons_zero, List.set_cons_succ]
        refine wpAnyH_take (i := 5) (v := ?_) rfl (by kernel_rfl) (by kernel_rfl) (by kernel_rfl) (fun _ _ _ h => h) (Or.inl ⟨by rfl, ?_⟩) (by assumption) ?_
        rotate_left; focus (intro w hSw; (try dsimp only at hSw); go_simp; try (with_reducible rfl); done)
        try simp only [List.getElem_toArray, List.getElem_cons_zero, List.getElem_cons_succ, Act.put, List.setIfInBounds_toArray, List.set_cons_zero, List.set_cons_succ]
        refine wpAnyH_take (i := 6) (v := ?_) rfl (by kernel_rfl) (by kernel_rfl) (by kernel_rfl) (fun _ _ _ h => h) (Or.inl ⟨by rfl, ?_⟩) (by assumption) ?_
        rotate_left; focus (intro w hSw; (try dsimp only at hSw); go_simp; try (with_reducible rfl); done)
        try simp only [List.getElem_toArray, List.getElem_cons_zero, List.getElem_cons_succ, Act.put, List.setIfInBounds_toArray, List.set_cons_zero, List.set_cons_succ]
        refine wpAnyH_take (i := 7) (v := ?_) rfl (by kernel_rfl) (by kernel_rfl) (by kernel_rfl) (fun _ _ _ h => h) (Or.inl ⟨by rfl, ?_⟩) (by assumption) ?_
        rotate_left; focus (intro w hSw; (try dsimp only at hSw); go_simp; try (with_reducible rfl); done)
        try simp only [List.getElem_toArray, List.getElem_cons_zero, List.getElem_cons_succ, Act.put, List.setIfInBounds_toArray, List.set_cons_zero, List.set_cons_succ]
        refine wpAnyH_take (i := 8) (v := ?_) rfl (by kernel_rfl) (by kernel_rfl) (by kernel_rfl) (fun _ _ _ h => h) (Or.inl ⟨by rfl, ?_⟩) (by assumption) ?_
        rotate_left; focus (intro w hSw; (try dsimp only at hSw); go_simp; try (with_reducible rfl); done)
        try simp only [List.getElem_toArray, List.getElem_cons_zero, List.getElem_cons_succ, Act.put, List.setIfInBounds_toArray, List.set_cons_zero, List.set_cons_succ]
        refine wpAnyH_ready (rs := [9]) (by kernel_rfl) (by simp) ?_
        refine AllReadyH.cons rfl (fun K hK => ?_) AllReadyH.nil
        go_simp
        refine hK.out _ _ ?_ (fun hHeld => ?_)
        · (try dsimp only); (first | with_reducible exact ⟨c1, c0⟩ | with_reducible exact ⟨d1, d0⟩ | exact ⟨c1, c0⟩)
        clear hK K
        try simp only [List.getElem_toArray, List.getElem_cons_zero, List.getElem_cons_succ, Act.put, List.setIfInBounds_toArray, List.set_cons_zero, List.set_cons_succ]
        refine wpAnyH_take (i := 10) (v := ?_) rfl (by kernel_rfl) (by kernel_rfl) (by kernel_rfl) (fun _ _ _ h => h) (Or.inl ⟨by rfl, ?_⟩) (by assumption) ?_
        rotate_left; focus (intro w hSw; (try dsimp only at hSw); go_simp; try (with_reducible rfl); done)
        try simp only [List.getElem_toArray, List.getElem_cons_zero, List.getElem_cons_succ, Act.put, List.setIfInBounds_toArray, List.set_cons_zero, List.set_cons_succ]
        refine wpAnyH_take (i := 11) (v := ?_) rfl (by kernel_rfl) (by kernel_rfl) (by kernel_rfl) (fun _ _ _ h => h) (Or.inl ⟨by rfl, ?_⟩) (by assumption) ?_
        rotate_left; focus (intro w hSw; (try dsimp only at hSw); go_simp; try (with_reducible rfl); done)
        try simp only [List.getElem_toArray, List.getElem_cons_zero, List.getElem_cons_succ, Act.put, List.setIfInBounds_toArray, List.set_cons_zero, List.set_cons_succ]
        refine wpAnyH_done (by kernel_rfl) ?_ _
        go_wp2
        obtain ⟨y0, y1, y2, y3, y4, y5⟩ := Rx.cel6 HS9.out 0 rfl
        refine bodyPost_ret (Rp.resT rfl _ _ w.heap.size rfl y0 y1 y2 y3 y4 y5) rfl ?_
        exact Rp.tells_zero HG.out rfl HS9.out
      · have hblI : ¬ (b : Int) < s.size := by omega
        have hbe : b = s.size := by omega
        have HPO := Lib.hid (HP.out.trans (if_neg hbl))
        obtain ⟨n, hn⟩ := Rp.kidsEnc HF.out HS.out 2 rfl
        have HFI := Lib.hid (Rp.enc_fits hn)
        have HCK := Lib.hid (rRex_any _ n t _ _ hn)
        unfold Rp.rxA at HCK
        obtain ⟨E, hE⟩ : ∃ E, Rx.err n t = E := ⟨_, rfl⟩
        have HEE := Lib.hid hE
        rw [hE] at HCK
        clear hn hE hbl
        obtain ⟨z0, z1, z2, z3, z4, z5⟩ := Rx.cel6 HS.out 1 rfl
        go_wp2_with (fail)
        go_at_call 57
        refine HCK.out.mono ?_
        rintro ex w2 ⟨rfl, hb2⟩
        have HS := Lib.hid (HS.out.call hb2)
        clear hb2 c0 c1 c2 f1 f2 z0 z1 z2 z3 z4 z5
        obtain ⟨z0, z1, z2, z3, z4, z5⟩ := Rx.cel6 HS.out 1 rfl
        obtain ⟨x0, x1, x2, x3, x4, x5⟩ := Rx.cel6 HS.out 3 rfl
        obtain ⟨v0, v1, v2, v3, v4, v5⟩ := Rp.free6 HS.out 3 rfl
        by_cases hE0 : E = 0
        · have HG := Lib.hid (show Rp.Gives s t 0 0 from .inr ⟨hs3, .inr ⟨t, n, b, HPO.out, HFI.out, .inr ⟨HEE.out.trans hE0, rfl, rfl, rfl⟩⟩⟩)
          have HS9 := Lib.hid (Rp.set6 (HS.out.pick [3, 2] 4 rfl rfl) (.int .i64 t.kind) (.int .u64 (Rp.cw t 0)) (.int .u64 (Rp.cw t 1)) (.int .u64 (Rp.cw t 2)) (.int .u64 (Rp.cw t 3)) (.slice ao t.kids.length c))
          subst hE0
          go_wp2
          obtain ⟨y0, y1, y2, y3, y4, y5⟩ := Rx.cel6 HS9.out 0 rfl
          refine bodyPost_ret (Rp.resT rfl _ _ w.heap.size rfl y0 y1 y2 y3 y4 y5) rfl ?_
          exact ⟨t, 0, 0, ao, c, fp, HG.out, HF.out, rfl, HS9.out.drop⟩
        · have hne : (E != 0) = true := by rw [bne_iff_ne]; exact hE0
          have HG := Lib.hid (show Rp.Gives s Rp.zeroT s.size E from .inr ⟨hs3, .inr ⟨t, n, b, HPO.out, HFI.out, .inl ⟨by rw [HEE.out]; exact hE0, rfl, rfl, HEE.out.symm⟩⟩⟩)
          have HS9 := Lib.hid (Rp.set6 (HS.out.pick [3] 4 rfl rfl) (.int .i64 0) (.int .u64 0) (.int .u64 0) (.int .u64 0) (.int .u64 0) (.slice none 0 0))
          clear hE0
          go_wp2
          obtain ⟨y0, y1, y2, y3, y4, y5⟩ := Rx.cel6 HS9.out 0 rfl
          refine bodyPost_ret (Rp.resT rfl _ _ w.heap.size rfl y0 y1 y2 y3 y4 y5) rfl ?_
          exact Rp.tells_zero HG.out rfl HS9.out
    · have HG := Lib.hid (show Rp.Gives s Rp.zeroT p e from .inr ⟨hs3, .inl ⟨e, p, HP.out, rfl, rfl, rfl⟩⟩)
      have hS := (hst.alloc (Rp.rxA t ao c) 27).pick [3, 0, 1, 2, 4] 5 (ρ := Rp.rt (w.heap.size + 1) s a' 0 :: aCel w1.heap.size 27 (Rp.rxA t ao c) :: Rp.kidsA fp ao c t :: Rp.sp g e p :: aCel w.heap.size 27 #[.int .i64 0, .int .u64 0, .int .u64 0, .int .u64 0, .int .u64 0, .slice none 0 0] :: []) rfl rfl
      have HS := Lib.hid hS
      unfold Rp.rxA at HS ⊢
      clear hst hS he
      have hsp := HS.out.pick (ρ := [Rp.sp g e p]) [3] 5 rfl rfl
      obtain ⟨x0, x1, x2, x3, x4, x5⟩ := Rx.cel6 HS.out 4 rfl
      obtain ⟨v0, v1, v2, v3, v4, v5⟩ := Rp.free6 HS.out 4 rfl
      have c1 := hsp.drew.celAt (i := 1) (v := .int .i64 (p : Int)) rfl
      have c0 := hsp.drew.celAt (i := 0) (v := .int .i64 e) rfl
      have HS9 := Lib.hid (Rp.set6 (HS.out.pick [4, 3] 5 (ρ := aCel w.heap.size 27 #[.int .i64 0, .int .u64 0, .int .u64 0, .int .u64 0, .int .u64 0, .slice none 0 0] :: Rp.sp g e p :: []) rfl rfl) (.int .i64 0) (.int .u64 0) (.int .u64 0) (.int .u64 0) (.int .u64 0) (.slice none 0 0)).drew
      have d1 := (HS9.out.nth 1 rfl).celAt (i := 1) (v := .int .i64 (p : Int)) rfl
      have d0 := (HS9.out.nth 1 rfl).celAt (i := 0) (v := .int .i64 e) rfl
      clear hsp
      go_wp2_with (fail)
      refine wp_region_held_drew (S := (fun w' => w'.cell? ⟨g, 1, none⟩ = some (.int .i64 (p : Int)) ∧ w'.cell? ⟨g, 0, none⟩ = some (.int .i64 e))) (by kernel_rfl) ?_ (fun hHeld => ?_)
      · (try dsimp only); (first | with_reducible exact ⟨c1, c0⟩ | with_reducible exact ⟨d1, d0⟩ | exact ⟨c1, c0⟩)

      refine wpAnyH_take (i := 0) (v := ?_) rfl (by kernel_rfl) (by kernel_rfl) (by kernel_rfl) (fun _ _ _ h => h) (Or.inl ⟨by rfl, ?_⟩) (by assumption) ?_
      rotate_left; focus (intro w hSw; (try dsimp only at hSw); go_simp; try (with_reducible rfl); done)
      try simp only [List.getElem_toArray, List.getElem_cons_zero, List.getElem_cons_succ, Act.put, List.setIfInBounds_toArray, List.set_cons_zero, List.set_cons_succ]
      refine wpAnyH_take (i := 1) (v := ?_) rfl (by kernel_rfl) (by kernel_rfl) (by kernel_rfl) (fun _ _ _ h => h) (Or.inl ⟨by rfl, ?_⟩) (by assumption) ?_
      rotate_left; focus (intro w hSw; (try dsimp only at hSw); go_simp; try (with_reducible rfl); done)
      try simp only [List.getElem_toArray, List.getElem_cons_zero, List.getElem_cons_succ, Act.put, List.setIfInBounds_toArray, List.set_cons_zero, List.set_cons_succ]
      refine wpAnyH_take (i := 2) (v := ?_) rfl (by kernel_rfl) (by kernel_rfl) (by kernel_rfl) (fun _ _ _ h => h) (Or.inl ⟨by rfl, ?_⟩) (by assumption) ?_
      rotate_left; focus (intro w hSw; (try dsimp only at hSw); go_simp; try (with_reducible rfl); done)
      try simp only [List.getElem_toArray, List.getElem_cons_zero, List.getElem_cons_succ, Act.put, List.setIfInBounds_toArray, List.set_cons_zero, List.set_cons_succ]
      refine wpAnyH_take (i := 3) (v := ?_) rfl (by kernel_rfl) (by kernel_rfl) (by kernel_rfl) (fun _ _ _ h => h) (Or.inl ⟨by rfl, ?_⟩) (by assumption) ?_
      rotate_left; focus (intro w hSw; (try dsimp only at hSw); go_simp; try (with_reducible rfl); done)
      try simp only [List.getElem_toArray, List.getElem_cons_zero, List.getElem_cons_succ, Act.put, List.setIfInBounds_toArray, List.set_cons_zero, List.set_cons_succ]
      refine wpAnyH_take (i := 4) (v := ?_) rfl (by kernel_rfl) (by kernel_rfl) (by kernel_rfl) (fun _ _ _ h => h) (Or.inl ⟨by rfl, ?_⟩) (by assumption) ?_
      rotate_left; focus (intro w hSw; (try dsimp only at hSw); go_simp; try (with_reducible rfl); done)
      try simp only [List.getElem_toArray, List.getElem_cons_zero, List.getElem_cons_succ, Act.put, List.setIfInBounds_toArray, List.set_cons_zero, List.set_cons_succ]
      refine wpAnyH_take (i := 5) (v := ?_) rfl (by kernel_rfl) (by kernel_rfl) (by kernel_rfl) (fun _ _ _ h => h) (Or.inl ⟨by rfl, ?_⟩) (by assumption) ?_
      rotate_left; focus (intro w hSw; (try dsimp only at hSw); go_simp; try (with_reducible rfl); done)
      try simp only [List.getElem_toArray, List.getElem_cons_zero, List.getElem_cons_succ, Act.put, List.setIfInBounds_toArray, List.set_cons_zero, List.set_cons_succ]
      refine wpAnyH_take (i := 6) (v := ?_) rfl (by kernel_rfl) (by kernel_rfl) (by kernel_rfl) (fun _ _ _ h => h) (Or.inl ⟨by rfl, ?_⟩) (by assumption) ?_
      rotate_left; focus (intro w hSw; (try dsimp only at hSw); go_simp; try (with_reducible rfl); done)
      try simp only [List.getElem_toArray, List.getElem_cons_zero, List.getElem_cons_succ, Act.put, List.setIfInBounds_toArray, List.set_cons_zero, List.set_cons_succ]
      refine wpAnyH_take (i := 7) (v := ?_) rfl (by kernel_rfl) (by kernel_rfl) (by kernel_rfl) (fun _ _ _ h => h) (Or.inl ⟨by rfl, ?_⟩) (by assumption) ?_
      rotate_left; focus (intro w hSw; (try dsimp only at hSw); go_simp; try (with_reducible rfl); done)
      try simp only [List.getElem_toArray, List.getElem_cons_zero, List.getElem_cons_succ, Act.put, List.setIfInBounds_toArray, List.set_cons_zero, List.set_cons_succ]
      refine wpAnyH_take (i := 8) (v := ?_) rfl (by kernel_rfl) (by kernel_rfl) (by kernel_rfl) (fun _ _ _ h => h) (Or.inl ⟨by rfl, ?_⟩) (by assumption) ?_
      rotate_left; focus (intro w hSw; (try dsimp only at hSw); go_simp; try (with_reducible rfl); done)
      try simp only [List.getElem_toArray, List.getElem_cons_zero, List.getElem_cons_succ, Act.put, List.setIfInBounds_toArray, List.set_cons_zero, List.set_cons_succ]
      refine wpAnyH_ready (rs := [9]) (by kernel_rfl) (by simp) ?_
      refine AllReadyH.cons rfl (fun K hK => ?_) AllReadyH.nil
      go_simp
      refine hK.out _ _ ?_ (fun hHeld => ?_)
      · (try dsimp only); (first | with_reducible exact ⟨c1, c0⟩ | with_reducible exact ⟨d1, d0⟩ | exact ⟨c1, c0⟩)
      clear hK K
      try simp only [List.getElem_toArray, List.getElem_cons_zero, List.getElem_cons_succ, Act.put, List.setIfInBounds_toArray, List.set_cons_zero, List.set_cons_succ]
      refine wpAnyH_take (i := 10) (v := ?_) rfl (by kernel_rfl) (by kernel_rfl) (by kernel_rfl) (fun _ _ _ h => h) (Or.inl ⟨by rfl, ?_⟩) (by assumption) ?_
      rotate_left; focus (intro w hSw; (try dsimp only at hSw); go_simp; try (with_reducible rfl); done)
      try simp only [List.getElem_toArray, List.getElem_cons_zero, List.getElem_cons_succ, Act.put, List.setIfInBounds_toArray, List.set_cons_zero, List.set_cons_succ]
      refine wpAnyH_take (i := 11) (v := ?_) rfl (by kernel_rfl) (by kernel_rfl) (by kernel_rfl) (fun _ _ _ h => h) (Or.inl ⟨by rfl, ?_⟩) (by assumption) ?_
      rotate_left; focus (intro w hSw; (try dsimp only at hSw); go_simp; try (with_reducible rfl); done)
      try simp only [List.getElem_toArray, List.getElem_cons_zero, List.getElem_cons_succ, Act.put, List.setIfInBounds_toArray, List.set_cons_zero, List.set_cons_succ]
      refine wpAnyH_done (by kernel_rfl) ?_ _
      go_wp2
      obtain ⟨y0, y1, y2, y3, y4, y5⟩ := Rx.cel6 HS9.out 0 rfl
      refine bodyPost_ret (Rp.resT rfl _ _ w.heap.size rfl y0 y1 y2 y3 y4 y5) rfl ?_
      exact Rp.tells_zero HG.out rfl HS9.out

set_option maxRecDepth 100000 in
set_option maxHeartbeats 3000000 in
theorem rSameRex_any (w0 : World) (F : Nat → Prop) :
    ∀ (n : Nat) (t : Rx) (m : Nat) (cs ds : Array Value) (w : World), (Rx.enc n).R F w0 cs.toList t → (Rx.enc m).R F w0 ds.toList t → Below w0.heap.size w0 w →
      Calls Try.prog 13 #[.agg cs, .agg ds] w fun e w' => e = .returned (.bool true) ∧ Below w.heap.size w w' := by
  intro n
  induction n with
  | zero => intro t m cs ds w h; exact h.elim
  | succ n ih =>
    intro t m cs ds w ht hu hbw
    obtain ⟨n', hn, ao, c, hcs, -, hk⟩ := Rp.enc_open ht
    obtain rfl : n = n' := by omega
    obtain ⟨m', hm, bo, d, hds, -, hl⟩ := Rp.enc_open hu
    obtain rfl := Rp.eq_rxA hcs
    obtain rfl := Rp.eq_rxA hds
    obtain ⟨ak, bk, ok, ck, hv, hkl, k3, k4⟩ := Rp.kidsR hk
    simp only [Value.slice.injEq, true_and] at hv
    obtain ⟨rfl, rfl⟩ := hv
    obtain ⟨al, bl, ol, cl, hv, hll, l3, l4⟩ := Rp.kidsR hl
    simp only [Value.slice.injEq, true_and] at hv
    obtain ⟨rfl, rfl⟩ := hv
    have hst := ((St.init w).alloc (Rp.rxA t ao c) 27).alloc (Rp.rxA t bo d) 27
    simp only [World.size_alloc] at hst
    have HST := Lib.hid hst
    have K3 := Lib.hid k3; have K4 := Lib.hid k4; have L3 := Lib.hid l3; have L4 := Lib.hid l4; have IH := Lib.hid ih; have HBW := Lib.hid hbw
    have HNE := Lib.hid (fun (a b c d : Int) (W : World) => run_equalIn_arr2 (P := Try.prog) (n := 4) (k := .u64) Try.underlying24 Try.underlying22 (by kernel_rfl) [a, b, c, d] [a, b, c, d] rfl rfl 9998 W)
    unfold Rp.rxA at HST ⊢
    clear ht hu hn hm hcs hds hk hl k3 k4 l3 l4 ih hbw hst
    generalize t.kind = kd at *
    generalize Rp.cw t 0 = q0 at *
    generalize Rp.cw t 1 = q1 at *
    generalize Rp.cw t 2 = q2 at *
    generalize Rp.cw t 3 = q3 at *
    generalize t.kids = ks at *
    have hne : ∀ W, (Op.equalIn 10000 24 (.agg #[.int .u64 q0, .int .u64 q1, .int .u64 q2, .int .u64 q3]) (.agg #[.int .u64 q0, .int .u64 q1, .int .u64 q2, .int .u64 q3])).run Try.prog W = .ok true W := fun W => (HNE.out q0 q1 q2 q3 W).trans (by rw [decide_eq_true rfl])
    clear HNE
    go_enter Try.func13, Try.ntmps13
    go_wp2
    go_loopg [5] ks.length (fun gk v5 wr => ∃ i : Nat, v5 = .int .i64 i ∧ i ≤ ks.length ∧ gk = ks.length - i ∧ St w wr (aCel (w.heap.size + 1) 27 #[.int .i64 kd, .int .u64 q0, .int .u64 q1, .int .u64 q2, .int .u64 q3, .slice bo ks.length d] :: aCel w.heap.size 27 #[.int .i64 kd, .int .u64 q0, .int .u64 q1, .int .u64 q2, .int .u64 q3, .slice ao ks.length c] :: []))
    case atStart => exact ⟨0, rfl, Nat.zero_le _, rfl, HST.out⟩
    case round =>
      clear HST
      obtain ⟨i, rfl, hi, hgk, hst⟩ := hrel
      have HGK := Lib.hid hgk
      have HS := Lib.hid hst
      have c5 := (hst.nth 0 rfl).celAt (i := 5) rfl
      have e5 := (hst.nth 1 rfl).celAt (i := 5) rfl
      clear hst hgk
      by_cases hlt : i < ks.length
      · have hltI : (i : Int) < (ks.length : Int) := by omega
        obtain ⟨rfl, -, -⟩ := K3.out (by omega)
        obtain ⟨rfl, -, -⟩ := L3.out (by omega)
        obtain ⟨a', c', ⟨d0, d1, d2, d3, d4, d5⟩, hki⟩ := K4.out i hlt
        obtain ⟨b', c'', ⟨g0, g1, g2, g3, g4, g5⟩, hli⟩ := L4.out i hlt
        have hbel := HBW.out.trans (HS.out.drew.bel.mono HBW.out.size)
        have HC := Lib.hid (IH.out (ks.getD i Rx.nil) _ _ _ wr.drew hki hli hbel)
        have d0 := bkeep hbel d0
        have d1 := bkeep hbel d1
        have d2 := bkeep hbel d2
        have d3 := bkeep hbel d3
        have d4 := bkeep hbel d4
        have d5 := bkeep hbel d5
        have g0 := bkeep hbel g0
        have g1 := bkeep hbel g1
        have g2 := bkeep hbel g2
        have g3 := bkeep hbel g3
        have g4 := bkeep hbel g4
        have g5 := bkeep hbel g5
        have c5d := (HS.out.drew.nth 0 rfl).celAt (i := 5) (v := .slice (some ⟨bl, ol, none⟩) ks.length d) rfl
        have e5d := (HS.out.drew.nth 1 rfl).celAt (i := 5) (v := .slice (some ⟨bk, ok, none⟩) ks.length c) rfl
        have hiw : IntKind.i64.wrap ((i : Int) + 1) = (i : Int) + 1 := IntWalk.i64_in _ (by omega)
        have h0i : (0 : Int) ≤ (i : Int) := by omega
        unfold Rp.rxA at HC
        clear hki hli hbel
        generalize (ks.getD i Rx.nil).kind = kd1 at *
        generalize Rp.cw (ks.getD i Rx.nil) 0 = p0 at *
        generalize Rp.cw (ks.getD i Rx.nil) 1 = p1 at *
        generalize Rp.cw (ks.getD i Rx.nil) 2 = p2 at *
        generalize Rp.cw (ks.getD i Rx.nil) 3 = p3 at *
        generalize (ks.getD i Rx.nil).kids.length = nk1 at *
        go_wp2
        go_region_with ((go_at_call 13; refine HC.out.mono ?_; rintro ex w2 ⟨rfl, hb2⟩; have HS3 := Lib.hid (HS.out.drew.call hb2); clear hb2))
        all_goals
          go_wp2
          go_roundg (ks.length - (i + 1))
          case measure => have := HGK.out; omega
          case rel => exact ⟨i + 1, by go_num, by omega, rfl, HS3.out⟩
      · have hltI : ¬ (i : Int) < (ks.length : Int) := by omega
        go_wp2
        go_ret
        exact ⟨rfl, HS.out.bel⟩
end Go.Proofs.Ytfelikfppjlcmaa

/-
  RexReads: the law's walk.
-/
namespace Go.Proofs.Ytfelikfppjlcmaa
set_option linter.unusedVariables false
set_option linter.unusedSimpArgs false
open Go.ChangeShapes Go.WideShapes Go.ChangeAt Go.RowKit

set_option maxRecDepth 100000 in
set_option maxHeartbeats 3000000 in
theorem rexReads_walk (s : ByteArray) (w : World) : Calls Try.prog 3 #[.string s] w fun e w' => e = .returned (.bool true) ∧ Below w.heap.size w w' := by
  have HP := Lib.hid (rpParse_any s)
  have HR := Lib.hid (rReadRex_any s)
  go_enter Try.func3, Try.ntmps3
  go_wp2_with (fail)
  go_at_call 11
  refine (HP.out _).mono ?_
  rintro ex w1 ⟨t, a, e, ao, c, fp, hg, hf, rfl, hst⟩
  have HS := Lib.hid (hst.alloc (Rp.rxA t ao c) 27)
  have HG := Lib.hid hg
  have HF := Lib.hid hf
  unfold Rp.rxA
  clear hst hg hf HP
  go_wp2_with (fail)
  go_at_call 12
  refine (HR.out _).mono ?_
  rintro ex w2 ⟨t', a', e', bo, d, fq, hg', hf', rfl, hst⟩
  obtain ⟨rfl, rfl, rfl⟩ := HG.out.one hg'
  have hst2 := ((HS.out.joined hst).alloc (Rp.rxA t bo d) 27).pick [0, 1, 2, 3] 4 (ρ := aCel w2.heap.size 27 (Rp.rxA t bo d) :: Rp.kidsA fq bo d t :: aCel w1.heap.size 27 (Rp.rxA t ao c) :: Rp.kidsA fp ao c t :: []) rfl rfl
  obtain ⟨n, hn⟩ := Rp.kidsEnc HF.out hst2 3 rfl
  obtain ⟨m, hm⟩ := Rp.kidsEnc HF.out hst2 1 rfl
  have HC := Lib.hid (rSameRex_any _ _ n t m _ _ _ hn hm (Below.refl _ _))
  have HS := Lib.hid hst2
  clear hst hst2 hg' hf' HG HR hn hm
  unfold Rp.rxA at HC HS ⊢
  obtain ⟨z0, z1, z2, z3, z4, z5⟩ := Rx.cel6 HS.out 0 rfl
  obtain ⟨y0, y1, y2, y3, y4, y5⟩ := Rx.cel6 HS.out 2 rfl
  go_wp2_with (fail)
  go_at_call 13
  refine HC.out.mono ?_
  rintro ex w3 ⟨rfl, hb3⟩
  have HB := Lib.hid (HS.out.call hb3).bel
  clear hb3
  go_wp2
  go_ret
  exact ⟨by simp, HB.out⟩
end Go.Proofs.Ytfelikfppjlcmaa
