/-
  Parts of the proof of RexReads, put together: RpCls RpTree RpSize MapMore ClsShare RpCopy RpAtom RpRef. (Helper texts.)
-/
import Derived.Test.YtfelikfppjlcmaaG1
import Derived.Test.YtfelikfppjlcmaaG2
import Derived.Laws.ResultCell
import Derived.Deep.LoopGhost
import Derived.Deep.QuietTactic
import Derived.BigQuiet
import Derived.Deep.RegionHeld
import Derived.WideKeyEntry
import Derived.Maps.OwnOps

/-
  class of package rex's reader.
-/

namespace Go.Proofs.Ytfelikfppjlcmaa
set_option linter.unusedVariables false
set_option linter.unusedSimpArgs false
open Go.ChangeShapes Go.WideShapes Go.ChangeAt Go.RowKit

namespace Rp
/-- What a method that reads a class leaves. -/
def LeftC (R : Nat) (s : ByteArray) (op : Int) (w0 : World) (μ : List Asrt) (r : Re (List Nat)) (ex : Ending) (w' : World) : Prop :=
  match r with
  | .ok (c, b) => ex = .returned (Cs.clV c) ∧ St w0 w' (rd R s b op 0 :: μ)
  | .error (e, p) => (∃ c, Dm.Ok4 c ∧ ex = .returned (Cs.clV c)) ∧ St w0 w' (rd R s p op e :: μ)
def ClsRel (w0 : World) (R : Nat) (s : ByteArray) (op : Int) (nt : Bool) (μ : List Asrt) (B : Nat) (RES : Re Set) (gk : Nat) (v5 : Value) (wr : World) : Prop :=
  (∃ (n : Nat) (p : Set) (a f : Nat), v5 = .int .i64 n ∧ a ≤ s.size ∧ n ≤ a ∧ gk = s.size + 1 - a ∧ Hid (cls s nt f n p a = RES) ∧ s.size < a + f ∧ St w0 wr (rd R s a op 0 :: aCel (B + 1) 24 (Cs.clA (Cs.of p)) :: aCel B 24 (Cs.clA Dm.zero) :: μ)) ∨
  (∃ (n : Nat) (e : Int) (pp : Nat) (p : Set), v5 = .int .i64 n ∧ n ≤ s.size + 1 ∧ gk = 0 ∧ Hid (RES = .error (e, pp)) ∧ (e = 6 ∨ e = 7) ∧ St w0 wr (rd R s pp op e :: aCel (B + 1) 24 (Cs.clA (Cs.of p)) :: aCel B 24 (Cs.clA Dm.zero) :: μ))
theorem join_eq (p : Set) (lo hi : Nat) {q : List Nat} (hq : Cs.of p = q) : Cs.zip (· ||| ·) q (Cs.of fun x => decide ((lo : Int) ≤ (x : Int) ∧ (x : Int) ≤ (hi : Int))) = Cs.of (joinTo p lo hi) := by
  subst hq
  rw [Cs.or_eq (Cs.ok_of _) (Cs.ok_of _)]
  refine Cs.of_congr fun x hx => ?_
  rw [Cs.mem_of hx, Cs.mem_of hx]
  unfold joinTo
  congr 1
  rw [decide_eq_decide]
  omega
set_option maxRecDepth 100000 in
theorem clJoin_to (p : Set) (lo hi : Nat) {q0 q1 q2 q3 r0 r1 r2 r3 : Nat} (hq : Cs.of p = [q0, q1, q2, q3]) (hr : Cs.of (joinTo p lo hi) = [r0, r1, r2, r3]) (W : World) : Calls Try.prog 222 #[.agg #[.int .u64 q0, .int .u64 q1, .int .u64 q2, .int .u64 q3], Cs.clV (Cs.of fun x => decide ((lo : Int) ≤ (x : Int) ∧ (x : Int) ≤ (hi : Int)))] W fun e w' => e = .returned (.agg #[.int .u64 r0, .int .u64 r1, .int .u64 r2, .int .u64 r3]) ∧ Below W.heap.size W w' := by
  refine (show Calls Try.prog 222 #[Cs.clV [q0, q1, q2, q3], Cs.clV (Cs.of fun x => decide ((lo : Int) ≤ (x : Int) ∧ (x : Int) ≤ (hi : Int)))] W _ from clJoin_any [q0, q1, q2, q3] _ (by rw [← hq]; exact Cs.ok_of _) (Cs.ok_of _) W).mono ?_
  rintro e w' ⟨rfl, hb⟩
  refine ⟨?_, hb⟩
  rw [join_eq p lo hi hq, hr]
  rfl
theorem item_err {s : ByteArray} {a p : Nat} {e : Int} (h : chr s a = .error (e, p)) : item s a = .error (e, p) := by unfold item; rw [h]; rfl
theorem item_one {s : ByteArray} {a lo b : Nat} (h : chr s a = .ok (lo, b)) (hp : pk s b ≠ 45) : item s a = .ok ((lo, lo), b) := by unfold item; rw [h]; simp only [on]; rw [if_neg hp]
theorem item_two {s : ByteArray} {a lo b : Nat} (h : chr s a = .ok (lo, b)) (hp : pk s b = 45) : item s a = on (chr s (b + 1)) fun hi a2 => if hi < lo then .error (6, b + 1) else .ok ((lo, hi), a2) := by unfold item; rw [h]; simp only [on]; rw [if_pos hp]
theorem cls_end {s : ByteArray} {nt : Bool} {f n a : Nat} {p : Set} (h : pk s a = 93 ∧ (0 < n ∨ nt = true)) : cls s nt (f + 1) n p a = .ok (p, a) := by rw [cls, if_pos h]
theorem cls_err {s : ByteArray} {nt : Bool} {f n a pp : Nat} {p : Set} {e : Int} (h : ¬ (pk s a = 93 ∧ (0 < n ∨ nt = true))) (hi : item s a = .error (e, pp)) : cls s nt (f + 1) n p a = .error (e, pp) := by rw [cls, if_neg h, hi]; rfl
theorem cls_step {s : ByteArray} {nt : Bool} {f n a b lo hi : Nat} {p : Set} (h : ¬ (pk s a = 93 ∧ (0 < n ∨ nt = true))) (hi' : item s a = .ok ((lo, hi), b)) : cls s nt (f + 1) n p a = cls s nt f (n + 1) (joinTo p lo hi) b := by rw [cls, if_neg h, hi']; rfl
theorem clsW_true (p : Set) : clsW true p = Cs.of fun b => !p b := Cs.of_congr fun b _ => by cases p b <;> rfl
theorem clsW_false (p : Set) : clsW false p = Cs.of p := Cs.of_congr fun b _ => by cases p b <;> rfl
set_option maxRecDepth 100000 in
theorem clNot_to (p : Set) {q0 q1 q2 q3 r0 r1 r2 r3 : Nat} (hq : Cs.of p = [q0, q1, q2, q3]) (hr : clsW true p = [r0, r1, r2, r3]) (W : World) : Calls Try.prog 205 #[.agg #[.int .u64 q0, .int .u64 q1, .int .u64 q2, .int .u64 q3]] W fun e w' => e = .returned (.agg #[.int .u64 r0, .int .u64 r1, .int .u64 r2, .int .u64 r3]) ∧ Below W.heap.size W w' := by
  refine (show Calls Try.prog 205 #[Cs.clV [q0, q1, q2, q3]] W _ from clNot_any [q0, q1, q2, q3] (by rw [← hq]; exact Cs.ok_of _) W).mono ?_
  rintro e w' ⟨rfl, hb⟩
  refine ⟨?_, hb⟩
  rw [← hq, Cs.inv_eq (Cs.ok_of _), show (Cs.of fun x => !Dm.mem (Cs.of p) x) = clsW true p from (Cs.of_congr fun x hx => by rw [Cs.mem_of hx]).trans (clsW_true p).symm, hr]
  rfl
theorem ok4_cls (nt : Bool) (p : Set) : Dm.Ok4 (clsW nt p) := Cs.ok_of _
def Ends (s : ByteArray) (RES : Re Set) (p : Set) (pp : Nat) (e : Int) : Prop := (e = 0 ∧ RES = .ok (p, pp) ∧ pk s pp = 93) ∨ (e ≠ 0 ∧ RES = .error (e, pp))
/-- What stands behind the class. -/
theorem leftC_zero {R : Nat} {s : ByteArray} {op : Int} {w0 w' : World} {μ : List Asrt} {RES : Re Set} {nt : Bool} {p : Set} {pp : Nat} {e : Int} {c : List Nat} {ex : Ending} (hR : Ends s RES p pp e) (hz : clsW nt p = Dm.zero) (hc : Dm.Ok4 c) (hex : ex = .returned (Cs.clV c)) (h : St w0 w' (rd R s pp op (errOf e 6) :: μ)) :
    LeftC R s op w0 μ (on RES (clsEnd nt)) ex w' := by
  rcases hR with ⟨rfl, rfl, h93⟩ | ⟨he, rfl⟩
  · simp only [on]
    unfold clsEnd
    rw [if_pos hz]
    exact ⟨⟨c, hc, hex⟩, h⟩
  · unfold errOf at h
    rw [if_neg he] at h
    exact ⟨⟨c, hc, hex⟩, h⟩
theorem leftC_some {R : Nat} {s : ByteArray} {op : Int} {w0 w' : World} {μ : List Asrt} {RES : Re Set} {nt : Bool} {p : Set} {pp : Nat} {e : Int} {ex : Ending} (hR : Ends s RES p pp e) (hz : ¬ clsW nt p = Dm.zero) (hex : ex = .returned (Cs.clV (clsW nt p))) (h : St w0 w' (rd R s (tk s pp e 93 : Nat) op e :: μ)) :
    LeftC R s op w0 μ (on RES (clsEnd nt)) ex w' := by
  rcases hR with ⟨rfl, rfl, h93⟩ | ⟨he, rfl⟩
  · simp only [on]
    unfold clsEnd
    rw [if_neg hz]
    rw [tk_yes (by rw [isB_ok]; exact decide_eq_true h93)] at h
    exact ⟨hex, h⟩
  · rw [tk_no (isB_bad he)] at h
    exact ⟨⟨_, ok4_cls nt p, hex⟩, h⟩
theorem errOf_ne (e : Int) : errOf e 6 ≠ 0 := by unfold errOf; split <;> omega
theorem six_or {e : Int} (h : e = 6 ∨ e = 7) : (e == 0) = false ∧ e ≠ 0 := by
  constructor
  · rw [beq_eq_false_iff_ne]; omega
  · omega
end Rp


set_option maxRecDepth 100000 in
set_option maxHeartbeats 16000000 in
theorem rpClass_any (s : ByteArray) (a : Nat) (op : Int) (ha : a ≤ s.size) (hs : s.size ≤ 300) (R : Nat) (w0 w : World) (μ : List Asrt) (h : St w0 w (Rp.rd R s a op 0 :: μ)) :
    Calls Try.prog 204 #[.pointer (some ⟨R, 0, none⟩)] w (Rp.LeftC R s op w0 μ (Rp.clsAt s a)) := by
  have hst := ((h.alloc (Cs.clA Dm.zero) 24).alloc (Cs.clA Dm.zero) 24).pick [2, 0, 1] 3 (ρ := Rp.rd R s a op 0 :: aCel (w.heap.size + 1) 24 (Cs.clA Dm.zero) :: aCel w.heap.size 24 (Cs.clA Dm.zero) :: μ) rfl (by simp)
  have HT := Lib.hid (rpTake_any s a op 0 94 R w0 _ _ hst (by decide) ha hs)
  clear h hst
  obtain ⟨nt, hnt⟩ : ∃ nt, Rp.isB s a 0 94 = nt := ⟨_, rfl⟩
  obtain ⟨a1, ha1⟩ : ∃ a1, Rp.tk s a 0 94 = a1 := ⟨_, rfl⟩
  have hle := Rp.tk_le (s := s) (a := a) (e := 0) (b := 94) ha (by decide)
  have hRES : Rp.clsAt s a = Rp.on (Rp.cls s nt (s.size + 1 - a1) 0 (fun _ => false) a1) (Rp.clsEnd nt) := by
    unfold Rp.clsAt
    cases nt with
    | true =>
      have h1 := hnt
      rw [Rp.isB_ok, decide_eq_true_iff] at h1
      rw [if_pos h1, ← ha1, Rp.tk_yes hnt]
    | false =>
      have h1 := hnt
      rw [Rp.isB_ok, decide_eq_false_iff_not] at h1
      rw [if_neg h1, ← ha1, Rp.tk_no hnt]
  rw [hRES]
  rw [hnt, ha1] at HT
  rw [ha1] at hle
  obtain ⟨RES, hR⟩ : ∃ RES, Rp.cls s nt (s.size + 1 - a1) 0 (fun _ => false) a1 = RES := ⟨_, rfl⟩
  rw [hR]
  have HR := Lib.hid hR
  have HFIT := Lib.hid (Rp.cls_fit (s := s) (not := nt) (f := s.size + 1 - a1) (n := 0) (p := fun _ => false) (a := a1) hle)
  rw [hR] at HFIT
  clear hR hRES hnt ha1 ha
  go_enter Try.func204, Try.ntmps204
  go_wp2_with (fail)
  go_at_call 116
  refine HT.out.mono ?_
  rintro ex w1 ⟨rfl, hst⟩
  have HST := Lib.hid hst
  clear hst HT
  go_wp2_with (fail)
  go_loopg [5] (s.size + 1 - a1) (fun gk v5 wr => Rp.ClsRel w0 R s op nt μ w.heap.size RES gk v5 wr)
  case atStart =>
    refine .inl ⟨0, fun _ => false, a1, s.size + 1 - a1, rfl, hle, Nat.zero_le _, rfl, HR, by omega, ?_⟩
    rw [Cs.of_false]
    exact HST.out
  case round =>
    clear HST HR
    rcases hrel with ⟨n, p, a, f, rfl, ha, hna, hgk, HRES, hf, hst⟩ | ⟨n, e, pp, p, rfl, hn, hgk, HRES, hee, hst⟩
    · obtain ⟨f, rfl⟩ : ∃ f', f = f' + 1 := ⟨f - 1, by omega⟩
      have HGK := Lib.hid hgk
      clear hgk
      obtain ⟨c0, c1, c2, c3, f1, f2, f3⟩ := Rp.rdAt hst
      have HS := Lib.hid hst
      clear hst
      have hnI : IntKind.i64.wrap ((n : Int) + 1) = (n : Int) + 1 := IntWalk.i64_in _ (by omega)
      have HI := Lib.hid (fun w' h' => rpIs_any s a op 0 93 R w0 w' (aCel (w.heap.size + 1) 24 (Cs.clA (Cs.of p)) :: aCel w.heap.size 24 (Cs.clA Dm.zero) :: μ) h' (by decide) ha hs)
      by_cases h93 : Rp.pk s a = 93
      · rw [Rp.isB_ok, decide_eq_true h93] at HI
        by_cases hend : 0 < n ∨ nt = true
        · have hres := HRES.out
          rw [Rp.cls_end ⟨h93, hend⟩] at hres
          subst hres
          have HRE := Lib.hid (show Rp.Ends s (.ok (p, a)) p a 0 from .inl ⟨rfl, rfl, h93⟩)
          have hpp := ha
          by_cases hn0 : 0 < n
          · have hn0I : (0 : Int) < (n : Int) := by omega
            have hn0J : decide ((0 : Int) < (n : Int)) = true := decide_eq_true hn0I
            clear h93 hend
            go_wp2_with (fail)
            go_at_call 157
            refine (HI.out _ HS.out).mono ?_
            rintro ex w2 ⟨rfl, hst⟩
            have HS := Lib.hid hst
            clear hst
            obtain ⟨q0, q1, q2, q3, hq⟩ := Cs.okFour (Cs.ok_of p)
            have HQ := Lib.hid hq
            have hsq := HS.out
            rw [hq] at hsq
            have HS := Lib.hid hsq
            clear hsq hq
            obtain ⟨z0, z1, z2, z3⟩ := Cs.at4 HS.out 1 rfl
            cases nt with
            | true =>
              obtain ⟨r0, r1, r2, r3, hr4⟩ := Cs.okFour (Rp.ok4_cls true p)
              have HNOT := Lib.hid (fun W => Rp.clNot_to p HQ.out hr4 W)
              have HR4 := Lib.hid hr4
              clear hr4
              go_wp2_with (fail)
              go_at_call 205
              refine (HNOT.out _).mono ?_
              rintro ex w5 ⟨rfl, hb5⟩
              have HS := Lib.hid (HS.out.call hb5)
              clear hb5 z0 z1 z2 z3
              obtain ⟨z0, z1, z2, z3⟩ := Cs.at4 HS.out 1 rfl
              have y0 := (HS.out.nth 1 rfl).celFree 0
              have y1 := (HS.out.nth 1 rfl).celFree 1
              have y2 := (HS.out.nth 1 rfl).celFree 2
              have y3 := (HS.out.nth 1 rfl).celFree 3
              have HSN := Lib.hid ((((HS.out.get2.setCel 0 (.int .u64 r0)).setCel 1 (.int .u64 r1)).setCel 2 (.int .u64 r2)).setCel 3 (.int .u64 r3)).get2
              clear HS
              have HS := HSN
              clear HSN
              have HEQ := fun W => Rx.eqz (a0 := r0) (a1 := r1) (a2 := r2) (a3 := r3) W
              by_cases hz : Rp.clsW true p = Dm.zero
              · rw [decide_eq_true (by rw [← HR4.out]; exact hz)] at HEQ
                have HZ := Lib.hid hz
                clear hz
                go_wp2_with (fail)
                go_at_call 53
                refine (rpFail_any s a op 0 6 R w0 _ _ HS.out).mono ?_
                rintro ex w6 ⟨rfl, hst⟩
                go_wp2_with (fail)
                go_at_call 116
                refine (rpTake_any s a op (Rp.errOf 0 6) 93 R w0 _ _ hst (by decide) hpp hs).mono ?_
                rintro ex w7 ⟨rfl, hst7⟩
                rw [Rp.tk_no (Rp.isB_bad (Rp.errOf_ne 0))] at hst7
                clear hst HS
                obtain ⟨u0, u1, u2, u3⟩ := Cs.at4 hst7 1 rfl
                obtain ⟨x0, x1, x2, x3⟩ := Cs.at4 (a := 0) (b := 0) (c := 0) (d := 0) hst7 2 rfl
                have v0 := (hst7.nth 2 rfl).celFree 0
                have v1 := (hst7.nth 2 rfl).celFree 1
                have v2 := (hst7.nth 2 rfl).celFree 2
                have v3 := (hst7.nth 2 rfl).celFree 3
                have HS9 := Lib.hid (((((hst7.pick [2, 0, 1] 3 rfl rfl).setCel 0 (.int .u64 r0)).setCel 1 (.int .u64 r1)).setCel 2 (.int .u64 r2)).setCel 3 (.int .u64 r3))
                clear hst7
                go_wp2
                refine bodyPost_ret (results_row rfl _ _ w.heap.size 24 _ _ rfl (HS9.out.heapAt 0 rfl) Try.underlying24 rfl (by kernel_rfl)) rfl ?_
                exact Rp.leftC_zero (c := [r0, r1, r2, r3]) HRE.out HZ.out (by rw [← HR4.out]; exact Rp.ok4_cls true p) rfl (HS9.out.pick [1] 3 rfl rfl)
              · rw [decide_eq_false (by rw [← HR4.out]; exact hz)] at HEQ
                have HZ := Lib.hid hz
                clear hz
                go_wp2_with (fail)
                go_at_call 116
                refine (rpTake_any s a op 0 93 R w0 _ _ HS.out (by decide) hpp hs).mono ?_
                rintro ex w7 ⟨rfl, hst7⟩
                clear HS
                obtain ⟨u0, u1, u2, u3⟩ := Cs.at4 hst7 1 rfl
                obtain ⟨x0, x1, x2, x3⟩ := Cs.at4 (a := 0) (b := 0) (c := 0) (d := 0) hst7 2 rfl
                have v0 := (hst7.nth 2 rfl).celFree 0
                have v1 := (hst7.nth 2 rfl).celFree 1
                have v2 := (hst7.nth 2 rfl).celFree 2
                have v3 := (hst7.nth 2 rfl).celFree 3
                have HS9 := Lib.hid (((((hst7.pick [2, 0, 1] 3 rfl rfl).setCel 0 (.int .u64 r0)).setCel 1 (.int .u64 r1)).setCel 2 (.int .u64 r2)).setCel 3 (.int .u64 r3))
                clear hst7
                go_wp2
                refine bodyPost_ret (results_row rfl _ _ w.heap.size 24 _ _ rfl (HS9.out.heapAt 0 rfl) Try.underlying24 rfl (by kernel_rfl)) rfl ?_
                exact Rp.leftC_some HRE.out HZ.out (by rw [HR4.out]; rfl) (HS9.out.pick [1] 3 rfl rfl)
            | false =>
              have HR4 := Lib.hid (show Rp.clsW false p = [q0, q1, q2, q3] from by rw [Rp.clsW_false, HQ.out])
              have HEQ := fun W => Rx.eqz (a0 := q0) (a1 := q1) (a2 := q2) (a3 := q3) W
              by_cases hz : Rp.clsW false p = Dm.zero
              · rw [decide_eq_true (by rw [← HR4.out]; exact hz)] at HEQ
                have HZ := Lib.hid hz
                clear hz
                go_wp2_with (fail)
                go_at_call 53
                refine (rpFail_any s a op 0 6 R w0 _ _ HS.out).mono ?_
                rintro ex w6 ⟨rfl, hst⟩
                go_wp2_with (fail)
                go_at_call 116
                refine (rpTake_any s a op (Rp.errOf 0 6) 93 R w0 _ _ hst (by decide) hpp hs).mono ?_
                rintro ex w7 ⟨rfl, hst7⟩
                rw [Rp.tk_no (Rp.isB_bad (Rp.errOf_ne 0))] at hst7
                clear hst HS
                obtain ⟨u0, u1, u2, u3⟩ := Cs.at4 hst7 1 rfl
                obtain ⟨x0, x1, x2, x3⟩ := Cs.at4 (a := 0) (b := 0) (c := 0) (d := 0) hst7 2 rfl
                have v0 := (hst7.nth 2 rfl).celFree 0
                have v1 := (hst7.nth 2 rfl).celFree 1
                have v2 := (hst7.nth 2 rfl).celFree 2
                have v3 := (hst7.nth 2 rfl).celFree 3
                have HS9 := Lib.hid (((((hst7.pick [2, 0, 1] 3 rfl rfl).setCel 0 (.int .u64 q0)).setCel 1 (.int .u64 q1)).setCel 2 (.int .u64 q2)).setCel 3 (.int .u64 q3))
                clear hst7
                go_wp2
                refine bodyPost_ret (results_row rfl _ _ w.heap.size 24 _ _ rfl (HS9.out.heapAt 0 rfl) Try.underlying24 rfl (by kernel_rfl)) rfl ?_
                exact Rp.leftC_zero (c := [q0, q1, q2, q3]) HRE.out HZ.out (by rw [← HR4.out]; exact Rp.ok4_cls false p) rfl (HS9.out.pick [1] 3 rfl rfl)
              · rw [decide_eq_false (by rw [← HR4.out]; exact hz)] at HEQ
                have HZ := Lib.hid hz
                clear hz
                go_wp2_with (fail)
                go_at_call 116
                refine (rpTake_any s a op 0 93 R w0 _ _ HS.out (by decide) hpp hs).mono ?_
                rintro ex w7 ⟨rfl, hst7⟩
                clear HS
                obtain ⟨u0, u1, u2, u3⟩ := Cs.at4 hst7 1 rfl
                obtain ⟨x0, x1, x2, x3⟩ := Cs.at4 (a := 0) (b := 0) (c := 0) (d := 0) hst7 2 rfl
                have v0 := (hst7.nth 2 rfl).celFree 0
                have v1 := (hst7.nth 2 rfl).celFree 1
                have v2 := (hst7.nth 2 rfl).celFree 2
                have v3 := (hst7.nth 2 rfl).celFree 3
                have HS9 := Lib.hid (((((hst7.pick [2, 0, 1] 3 rfl rfl).setCel 0 (.int .u64 q0)).setCel 1 (.int .u64 q1)).setCel 2 (.int .u64 q2)).setCel 3 (.int .u64 q3))
                clear hst7
                go_wp2
                refine bodyPost_ret (results_row rfl _ _ w.heap.size 24 _ _ rfl (HS9.out.heapAt 0 rfl) Try.underlying24 rfl (by kernel_rfl)) rfl ?_
                exact Rp.leftC_some HRE.out HZ.out (by rw [HR4.out]; rfl) (HS9.out.pick [1] 3 rfl rfl)
          · have hn0I : ¬ (0 : Int) < (n : Int) := by omega
            have hn0J : decide ((0 : Int) < (n : Int)) = false := decide_eq_false hn0I
            obtain rfl : nt = true := by rcases hend with h | h; exact absurd h hn0; exact h
            clear h93 hend
            go_wp2_with (fail)
            go_at_call 157
            refine (HI.out _ HS.out).mono ?_
            rintro ex w2 ⟨rfl, hst⟩
            have HS := Lib.hid hst
            clear hst
            obtain ⟨q0, q1, q2, q3, hq⟩ := Cs.okFour (Cs.ok_of p)
            have HQ := Lib.hid hq
            have hsq := HS.out
            rw [hq] at hsq
            have HS := Lib.hid hsq
            clear hsq hq
            obtain ⟨z0, z1, z2, z3⟩ := Cs.at4 HS.out 1 rfl
            obtain ⟨r0, r1, r2, r3, hr4⟩ := Cs.okFour (Rp.ok4_cls true p)
            have HNOT := Lib.hid (fun W => Rp.clNot_to p HQ.out hr4 W)
            have HR4 := Lib.hid hr4
            clear hr4
            go_wp2_with (fail)
            go_at_call 205
            refine (HNOT.out _).mono ?_
            rintro ex w5 ⟨rfl, hb5⟩
            have HS := Lib.hid (HS.out.call hb5)
            clear hb5 z0 z1 z2 z3
            obtain ⟨z0, z1, z2, z3⟩ := Cs.at4 HS.out 1 rfl
            have y0 := (HS.out.nth 1 rfl).celFree 0
            have y1 := (HS.out.nth 1 rfl).celFree 1
            have y2 := (HS.out.nth 1 rfl).celFree 2
            have y3 := (HS.out.nth 1 rfl).celFree 3
            have HSN := Lib.hid ((((HS.out.get2.setCel 0 (.int .u64 r0)).setCel 1 (.int .u64 r1)).setCel 2 (.int .u64 r2)).setCel 3 (.int .u64 r3)).get2
            clear HS
            have HS := HSN
            clear HSN
            have HEQ := fun W => Rx.eqz (a0 := r0) (a1 := r1) (a2 := r2) (a3 := r3) W
            by_cases hz : Rp.clsW true p = Dm.zero
            · rw [decide_eq_true (by rw [← HR4.out]; exact hz)] at HEQ
              have HZ := Lib.hid hz
              clear hz
              go_wp2_with (fail)
              go_at_call 53
              refine (rpFail_any s a op 0 6 R w0 _ _ HS.out).mono ?_
              rintro ex w6 ⟨rfl, hst⟩
              go_wp2_with (fail)
              go_at_call 116
              refine (rpTake_any s a op (Rp.errOf 0 6) 93 R w0 _ _ hst (by decide) hpp hs).mono ?_
              rintro ex w7 ⟨rfl, hst7⟩
              rw [Rp.tk_no (Rp.isB_bad (Rp.errOf_ne 0))] at hst7
              clear hst HS
              obtain ⟨u0, u1, u2, u3⟩ := Cs.at4 hst7 1 rfl
              obtain ⟨x0, x1, x2, x3⟩ := Cs.at4 (a := 0) (b := 0) (c := 0) (d := 0) hst7 2 rfl
              have v0 := (hst7.nth 2 rfl).celFree 0
              have v1 := (hst7.nth 2 rfl).celFree 1
              have v2 := (hst7.nth 2 rfl).celFree 2
              have v3 := (hst7.nth 2 rfl).celFree 3
              have HS9 := Lib.hid (((((hst7.pick [2, 0, 1] 3 rfl rfl).setCel 0 (.int .u64 r0)).setCel 1 (.int .u64 r1)).setCel 2 (.int .u64 r2)).setCel 3 (.int .u64 r3))
              clear hst7
              go_wp2
              refine bodyPost_ret (results_row rfl _ _ w.heap.size 24 _ _ rfl (HS9.out.heapAt 0 rfl) Try.underlying24 rfl (by kernel_rfl)) rfl ?_
              exact Rp.leftC_zero (c := [r0, r1, r2, r3]) HRE.out HZ.out (by rw [← HR4.out]; exact Rp.ok4_cls true p) rfl (HS9.out.pick [1] 3 rfl rfl)
            · rw [decide_eq_false (by rw [← HR4.out]; exact hz)] at HEQ
              have HZ := Lib.hid hz
              clear hz
              go_wp2_with (fail)
              go_at_call 116
              refine (rpTake_any s a op 0 93 R w0 _ _ HS.out (by decide) hpp hs).mono ?_
              rintro ex w7 ⟨rfl, hst7⟩
              clear HS
              obtain ⟨u0, u1, u2, u3⟩ := Cs.at4 hst7 1 rfl
              obtain ⟨x0, x1, x2, x3⟩ := Cs.at4 (a := 0) (b := 0) (c := 0) (d := 0) hst7 2 rfl
              have v0 := (hst7.nth 2 rfl).celFree 0
              have v1 := (hst7.nth 2 rfl).celFree 1
              have v2 := (hst7.nth 2 rfl).celFree 2
              have v3 := (hst7.nth 2 rfl).celFree 3
              have HS9 := Lib.hid (((((hst7.pick [2, 0, 1] 3 rfl rfl).setCel 0 (.int .u64 r0)).setCel 1 (.int .u64 r1)).setCel 2 (.int .u64 r2)).setCel 3 (.int .u64 r3))
              clear hst7
              go_wp2
              refine bodyPost_ret (results_row rfl _ _ w.heap.size 24 _ _ rfl (HS9.out.heapAt 0 rfl) Try.underlying24 rfl (by kernel_rfl)) rfl ?_
              exact Rp.leftC_some HRE.out HZ.out (by rw [HR4.out]; rfl) (HS9.out.pick [1] 3 rfl rfl)
        · -- ']' at the beginning: a sign: no item
          have hb : Rp.byt s a < 256 := Rp.byt_lt s a
          have hlt := Rp.pk_lt 93 (by decide) h93
          have hch : Rp.chr s a = .error (6, a) := by
            rw [Rp.pk_in hlt] at h93
            have h9 : Rp.byt s a = 93 := by omega
            unfold Rp.chr
            rw [if_pos hlt, h9]
            rfl
          have hn0 : ¬ 0 < n := fun h => hend (.inl h)
          obtain rfl : nt = false := by cases nt with | true => exact absurd (.inr rfl) hend | false => rfl
          have hn0I : ¬ (0 : Int) < (n : Int) := by omega
          have hn0J : decide ((0 : Int) < (n : Int)) = false := decide_eq_false hn0I
          have hres := HRES.out
          rw [Rp.cls_err (fun h => hend h.2) (Rp.item_err hch)] at hres
          have HRES := Lib.hid hres.symm
          have HCH := Lib.hid (fun w' h' => rpChar_any s a op ha hs R w0 w' (aCel (w.heap.size + 1) 24 (Cs.clA (Cs.of p)) :: aCel w.heap.size 24 (Cs.clA Dm.zero) :: μ) h')
          rw [hch] at HCH
          clear hres h93 hend hch hb
          go_wp2_with (fail)
          go_at_call 157
          refine (HI.out _ HS.out).mono ?_
          rintro ex w2 ⟨rfl, hst⟩
          have HS := Lib.hid hst
          clear hst
          obtain ⟨e, he6⟩ : ∃ e : Int, e = 6 := ⟨6, rfl⟩
          rw [← he6] at HCH HRES
          have hee : e = 6 ∨ e = 7 := .inl he6
          have hppl : a ≤ s.size := by omega
          clear he6
          go_wp2_with (fail)
          go_at_call 207
          refine (HCH.out _ HS.out).mono ?_
          rintro ex w3 ⟨⟨lo, hlo, rfl⟩, hst⟩
          have HS := Lib.hid hst
          have HEE := Lib.hid hee
          have hsix := Rp.six_or hee
          have HTK := Lib.hid (fun w' h' => rpTake_any s a op e 45 R w0 w' (aCel (w.heap.size + 1) 24 (Cs.clA (Cs.of p)) :: aCel w.heap.size 24 (Cs.clA Dm.zero) :: μ) h' (by decide) hppl hs)
          rw [Rp.isB_bad hsix.2, Rp.tk_no (Rp.isB_bad hsix.2)] at HTK
          clear hst c0 c1 c2 c3 f1 f2 f3 hsix hee
          go_wp2_with (fail)
          go_at_call 116
          refine (HTK.out _ HS.out).mono ?_
          rintro ex w4 ⟨rfl, hst⟩
          have HS := Lib.hid hst
          clear hst
          obtain ⟨c0, c1, c2, c3, f1, f2, f3⟩ := Rp.rdAt HS.out
          obtain ⟨q0, q1, q2, q3, hq⟩ := Cs.okFour (Cs.ok_of p)
          have HQ := Lib.hid hq
          have hsq := HS.out
          rw [hq] at hsq
          have HS := Lib.hid hsq
          clear hsq hq
          obtain ⟨z0, z1, z2, z3⟩ := Cs.at4 HS.out 1 rfl
          have HRG := Lib.hid (fun W => clRange_any (lo : Int) (lo : Int) (by omega) (by omega) (by omega) (by omega) W)
          obtain ⟨ZZ, hZZ⟩ : ∃ ZZ, (Cs.of fun x => decide ((lo : Int) ≤ (x : Int) ∧ (x : Int) ≤ (lo : Int))) = ZZ := ⟨_, rfl⟩
          rw [hZZ] at HRG
          have hlw : IntKind.i64.wrap (lo : Int) = (lo : Int) := IntWalk.i64_in _ (by omega)
          have hhw : IntKind.i64.wrap (lo : Int) = (lo : Int) := IntWalk.i64_in _ (by omega)
          obtain ⟨r0, r1, r2, r3, hr4⟩ := Cs.okFour (Cs.ok_of (Rp.joinTo p lo lo))
          have HR4 := Lib.hid hr4
          have HJN := Lib.hid (fun W => Rp.clJoin_to p lo lo HQ.out HR4.out W)
          rw [hZZ] at HJN
          clear hr4 hZZ
          have HSJ := Lib.hid HS.out.drew
          obtain ⟨z0, z1, z2, z3⟩ := Cs.at4 HSJ.out 1 rfl
          go_wp2
          refine wp_region_held_drew (S := (fun w' => True)) (by kernel_rfl) ?_ (fun hHeld => ?_)
          · (try dsimp only); (first | trivial | skip)

          refine wpAnyH_take (i := 1) (v := ?_) rfl (by kernel_rfl) (by kernel_rfl) (by kernel_rfl) (fun _ _ _ h => h) (Or.inl ⟨by rfl, ?_⟩) (by assumption) ?_
          rotate_left; focus (intro w hSw; (try dsimp only at hSw); go_simp; try (with_reducible rfl); done)
          try simp only [List.getElem_toArray, List.getElem_cons_zero, List.getElem_cons_succ, Act.put, List.setIfInBounds_toArray, List.set_cons_zero, List.set_cons_succ]
          refine wpAnyH_take (i := 2) (v := ?_) rfl (by kernel_rfl) (by kernel_rfl) (by kernel_rfl) (fun _ _ _ h => h) (Or.inl ⟨by rfl, ?_⟩) (by assumption) ?_
          rotate_left; focus (intro w hSw; (try dsimp only at hSw); go_simp; try (with_reducible rfl); done)
          try simp only [List.getElem_toArray, List.getElem_cons_zero, List.getElem_cons_succ, Act.put, List.setIfInBounds_toArray, List.set_cons_zero, List.set_cons_succ]
          refine wpAnyH_take (i := 3) (v := ?_) rfl (by kernel_rfl) (by kernel_rfl) (by kernel_rfl) (fun _ _ _ h => h) (Or.inl ⟨by rfl, ?_⟩) (by assumption) ?_
          rotate_left; focus (intro w hSw; (try dsimp only at hSw); go_simp; try (with_reducible rfl); done)
          try simp only [List.getElem_toArray, List.getElem_cons_zero, List.getElem_cons_succ, Act.put, List.setIfInBounds_toArray, List.set_cons_zero, List.set_cons_succ]
          refine wpAnyH_take (i := 4) (v := ?_) rfl (by kernel_rfl) (by kernel_rfl) (by kernel_rfl) (fun _ _ _ h => h) (Or.inl ⟨by rfl, ?_⟩) (by assumption) ?_
          rotate_left; focus (intro w hSw; (try dsimp only at hSw); go_simp; try (with_reducible rfl); done)
          try simp only [List.getElem_toArray, List.getElem_cons_zero, List.getElem_cons_succ, Act.put, List.setIfInBounds_toArray, List.set_cons_zero, List.set_cons_succ]
          refine wpAnyH_ready (rs := [0, 5]) (by kernel_rfl) (by simp) ?_
          refine AllReadyH.cons rfl (fun K hK => ?_) (AllReadyH.cons rfl (fun K hK => ?_) (AllReadyH.nil))
          · skip
            go_simp
            refine hK.out _ _ ?_ (fun hHeld => ?_)
            · (try dsimp only); (first | trivial | skip)
            clear hK K
            try simp only [List.getElem_toArray, List.getElem_cons_zero, List.getElem_cons_succ, Act.put, List.setIfInBounds_toArray, List.set_cons_zero, List.set_cons_succ]
            refine wpAnyH_ready (rs := [5]) (by kernel_rfl) (by simp) ?_
            refine AllReadyH.cons rfl (fun K hK => ?_) (AllReadyH.nil)
            go_simp
            (go_at_call 206; refine (HRG.out _).mono ?_; rintro ex w7 ⟨rfl, hb7⟩; have HS1 := Lib.hid (HSJ.out.call hb7); clear hb7; clear z0 z1 z2 z3; obtain ⟨z0, z1, z2, z3⟩ := Cs.at4 HS1.out 1 rfl)
            refine hK.out _ _ ?_ (fun hHeld => ?_)
            · (try dsimp only); (first | trivial | skip)
            clear hK K
            try simp only [List.getElem_toArray, List.getElem_cons_zero, List.getElem_cons_succ, Act.put, List.setIfInBounds_toArray, List.set_cons_zero, List.set_cons_succ]
            refine wpAnyH_ready (rs := [6]) (by kernel_rfl) (by simp) ?_
            refine AllReadyH.cons rfl (fun K hK => ?_) (AllReadyH.nil)
            go_simp
            (go_at_call 222; refine (HJN.out _).mono ?_; rintro ex w8 ⟨rfl, hb8⟩; have HS2 := Lib.hid (HS1.out.call hb8); clear hb8; clear z0 z1 z2 z3; obtain ⟨z0, z1, z2, z3⟩ := Cs.at4 HS2.out 1 rfl; have y0 := (HS2.out.nth 1 rfl).celFree 0; have y1 := (HS2.out.nth 1 rfl).celFree 1; have y2 := (HS2.out.nth 1 rfl).celFree 2; have y3 := (HS2.out.nth 1 rfl).celFree 3)
            refine hK.out _ _ ?_ (fun hHeld => ?_)
            · (try dsimp only); (first | trivial | skip)
            clear hK K
            try simp only [List.getElem_toArray, List.getElem_cons_zero, List.getElem_cons_succ, Act.put, List.setIfInBounds_toArray, List.set_cons_zero, List.set_cons_succ]
            refine wpAnyH_ready (rs := [7]) (by kernel_rfl) (by simp) ?_
            refine AllReadyH.cons rfl (fun K hK => ?_) (AllReadyH.nil)
            go_simp
            refine hK.out _ _ ?_ (fun hHeld => ?_)
            · (try dsimp only); (first | trivial | skip)
            clear hK K
            try simp only [List.getElem_toArray, List.getElem_cons_zero, List.getElem_cons_succ, Act.put, List.setIfInBounds_toArray, List.set_cons_zero, List.set_cons_succ]
            refine wpAnyH_done (by kernel_rfl) ?_ _
            have HS3 := Lib.hid ((((HS2.out.get2.setCel 0 (.int .u64 r0)).setCel 1 (.int .u64 r1)).setCel 2 (.int .u64 r2)).setCel 3 (.int .u64 r3)).get2
            go_wp2
            go_roundg 0
            case rel => exact .inr ⟨n + 1, e, a, Rp.joinTo p lo lo, by go_num, by omega, rfl, HRES, HEE.out, by rw [HR4.out]; exact HS3.out⟩
            case measure => have := HGK.out; omega
          · skip
            go_simp
            (go_at_call 206; refine (HRG.out _).mono ?_; rintro ex w7 ⟨rfl, hb7⟩; have HS1 := Lib.hid (HSJ.out.call hb7); clear hb7; clear z0 z1 z2 z3; obtain ⟨z0, z1, z2, z3⟩ := Cs.at4 HS1.out 1 rfl)
            refine hK.out _ _ ?_ (fun hHeld => ?_)
            · (try dsimp only); (first | trivial | skip)
            clear hK K
            try simp only [List.getElem_toArray, List.getElem_cons_zero, List.getElem_cons_succ, Act.put, List.setIfInBounds_toArray, List.set_cons_zero, List.set_cons_succ]
            refine wpAnyH_ready (rs := [0]) (by kernel_rfl) (by simp) ?_
            refine AllReadyH.cons rfl (fun K hK => ?_) (AllReadyH.nil)
            go_simp
            refine hK.out _ _ ?_ (fun hHeld => ?_)
            · (try dsimp only); (first | trivial | skip)
            clear hK K
            try simp only [List.getElem_toArray, List.getElem_cons_zero, List.getElem_cons_succ, Act.put, List.setIfInBounds_toArray, List.set_cons_zero, List.set_cons_succ]
            refine wpAnyH_ready (rs := [6]) (by kernel_rfl) (by simp) ?_
            refine AllReadyH.cons rfl (fun K hK => ?_) (AllReadyH.nil)
            go_simp
            (go_at_call 222; refine (HJN.out _).mono ?_; rintro ex w8 ⟨rfl, hb8⟩; have HS2 := Lib.hid (HS1.out.call hb8); clear hb8; clear z0 z1 z2 z3; obtain ⟨z0, z1, z2, z3⟩ := Cs.at4 HS2.out 1 rfl; have y0 := (HS2.out.nth 1 rfl).celFree 0; have y1 := (HS2.out.nth 1 rfl).celFree 1; have y2 := (HS2.out.nth 1 rfl).celFree 2; have y3 := (HS2.out.nth 1 rfl).celFree 3)
            refine hK.out _ _ ?_ (fun hHeld => ?_)
            · (try dsimp only); (first | trivial | skip)
            clear hK K
            try simp only [List.getElem_toArray, List.getElem_cons_zero, List.getElem_cons_succ, Act.put, List.setIfInBounds_toArray, List.set_cons_zero, List.set_cons_succ]
            refine wpAnyH_ready (rs := [7]) (by kernel_rfl) (by simp) ?_
            refine AllReadyH.cons rfl (fun K hK => ?_) (AllReadyH.nil)
            go_simp
            refine hK.out _ _ ?_ (fun hHeld => ?_)
            · (try dsimp only); (first | trivial | skip)
            clear hK K
            try simp only [List.getElem_toArray, List.getElem_cons_zero, List.getElem_cons_succ, Act.put, List.setIfInBounds_toArray, List.set_cons_zero, List.set_cons_succ]
            refine wpAnyH_done (by kernel_rfl) ?_ _
            have HS3 := Lib.hid ((((HS2.out.get2.setCel 0 (.int .u64 r0)).setCel 1 (.int .u64 r1)).setCel 2 (.int .u64 r2)).setCel 3 (.int .u64 r3)).get2
            go_wp2
            go_roundg 0
            case rel => exact .inr ⟨n + 1, e, a, Rp.joinTo p lo lo, by go_num, by omega, rfl, HRES, HEE.out, by rw [HR4.out]; exact HS3.out⟩
            case measure => have := HGK.out; omega
      · -- no ']'
        rw [Rp.isB_ok, decide_eq_false h93] at HI
        have hno : ¬ (Rp.pk s a = 93 ∧ (0 < n ∨ nt = true)) := fun h => h93 h.1
        obtain ⟨CH, hch⟩ : ∃ r, Rp.chr s a = r := ⟨_, rfl⟩
        have HCH := Lib.hid (fun w' h' => rpChar_any s a op ha hs R w0 w' (aCel (w.heap.size + 1) 24 (Cs.clA (Cs.of p)) :: aCel w.heap.size 24 (Cs.clA Dm.zero) :: μ) h')
        rw [hch] at HCH
        cases CH with
        | error ep =>
          obtain ⟨e, pp⟩ := ep
          obtain ⟨hee, hppl⟩ := Rp.chr_err ha hch
          have hres := HRES.out
          rw [Rp.cls_err hno (Rp.item_err hch)] at hres
          have HRES := Lib.hid hres.symm
          clear hres h93 hno hch
          go_wp2_with (fail)
          go_at_call 157
          refine (HI.out _ HS.out).mono ?_
          rintro ex w2 ⟨rfl, hst⟩
          have HS := Lib.hid hst
          clear hst
          go_wp2_with (fail)
          go_at_call 207
          refine (HCH.out _ HS.out).mono ?_
          rintro ex w3 ⟨⟨lo, hlo, rfl⟩, hst⟩
          have HS := Lib.hid hst
          have HEE := Lib.hid hee
          have hsix := Rp.six_or hee
          have HTK := Lib.hid (fun w' h' => rpTake_any s pp op e 45 R w0 w' (aCel (w.heap.size + 1) 24 (Cs.clA (Cs.of p)) :: aCel w.heap.size 24 (Cs.clA Dm.zero) :: μ) h' (by decide) hppl hs)
          rw [Rp.isB_bad hsix.2, Rp.tk_no (Rp.isB_bad hsix.2)] at HTK
          clear hst c0 c1 c2 c3 f1 f2 f3 hsix hee
          go_wp2_with (fail)
          go_at_call 116
          refine (HTK.out _ HS.out).mono ?_
          rintro ex w4 ⟨rfl, hst⟩
          have HS := Lib.hid hst
          clear hst
          obtain ⟨c0, c1, c2, c3, f1, f2, f3⟩ := Rp.rdAt HS.out
          obtain ⟨q0, q1, q2, q3, hq⟩ := Cs.okFour (Cs.ok_of p)
          have HQ := Lib.hid hq
          have hsq := HS.out
          rw [hq] at hsq
          have HS := Lib.hid hsq
          clear hsq hq
          obtain ⟨z0, z1, z2, z3⟩ := Cs.at4 HS.out 1 rfl
          have HRG := Lib.hid (fun W => clRange_any (lo : Int) (lo : Int) (by omega) (by omega) (by omega) (by omega) W)
          obtain ⟨ZZ, hZZ⟩ : ∃ ZZ, (Cs.of fun x => decide ((lo : Int) ≤ (x : Int) ∧ (x : Int) ≤ (lo : Int))) = ZZ := ⟨_, rfl⟩
          rw [hZZ] at HRG
          have hlw : IntKind.i64.wrap (lo : Int) = (lo : Int) := IntWalk.i64_in _ (by omega)
          have hhw : IntKind.i64.wrap (lo : Int) = (lo : Int) := IntWalk.i64_in _ (by omega)
          obtain ⟨r0, r1, r2, r3, hr4⟩ := Cs.okFour (Cs.ok_of (Rp.joinTo p lo lo))
          have HR4 := Lib.hid hr4
          have HJN := Lib.hid (fun W => Rp.clJoin_to p lo lo HQ.out HR4.out W)
          rw [hZZ] at HJN
          clear hr4 hZZ
          have HSJ := Lib.hid HS.out.drew
          obtain ⟨z0, z1, z2, z3⟩ := Cs.at4 HSJ.out 1 rfl
          go_wp2
          refine wp_region_held_drew (S := (fun w' => True)) (by kernel_rfl) ?_ (fun hHeld => ?_)
          · (try dsimp only); (first | trivial | skip)

          refine wpAnyH_take (i := 1) (v := ?_) rfl (by kernel_rfl) (by kernel_rfl) (by kernel_rfl) (fun _ _ _ h => h) (Or.inl ⟨by rfl, ?_⟩) (by assumption) ?_
          rotate_left; focus (intro w hSw; (try dsimp only at hSw); go_simp; try (with_reducible rfl); done)
          try simp only [List.getElem_toArray, List.getElem_cons_zero, List.getElem_cons_succ, Act.put, List.setIfInBounds_toArray, List.set_cons_zero, List.set_cons_succ]
          refine wpAnyH_take (i := 2) (v := ?_) rfl (by kernel_rfl) (by kernel_rfl) (by kernel_rfl) (fun _ _ _ h => h) (Or.inl ⟨by rfl, ?_⟩) (by assumption) ?_
          rotate_left; focus (intro w hSw; (try dsimp only at hSw); go_simp; try (with_reducible rfl); done)
          try simp only [List.getElem_toArray, List.getElem_cons_zero, List.getElem_cons_succ, Act.put, List.setIfInBounds_toArray, List.set_cons_zero, List.set_cons_succ]
          refine wpAnyH_take (i := 3) (v := ?_) rfl (by kernel_rfl) (by kernel_rfl) (by kernel_rfl) (fun _ _ _ h => h) (Or.inl ⟨by rfl, ?_⟩) (by assumption) ?_
          rotate_left; focus (intro w hSw; (try dsimp only at hSw); go_simp; try (with_reducible rfl); done)
          try simp only [List.getElem_toArray, List.getElem_cons_zero, List.getElem_cons_succ, Act.put, List.setIfInBounds_toArray, List.set_cons_zero, List.set_cons_succ]
          refine wpAnyH_take (i := 4) (v := ?_) rfl (by kernel_rfl) (by kernel_rfl) (by kernel_rfl) (fun _ _ _ h => h) (Or.inl ⟨by rfl, ?_⟩) (by assumption) ?_
          rotate_left; focus (intro w hSw; (try dsimp only at hSw); go_simp; try (with_reducible rfl); done)
          try simp only [List.getElem_toArray, List.getElem_cons_zero, List.getElem_cons_succ, Act.put, List.setIfInBounds_toArray, List.set_cons_zero, List.set_cons_succ]
          refine wpAnyH_ready (rs := [0, 5]) (by kernel_rfl) (by simp) ?_
          refine AllReadyH.cons rfl (fun K hK => ?_) (AllReadyH.cons rfl (fun K hK => ?_) (AllReadyH.nil))
          · skip
            go_simp
            refine hK.out _ _ ?_ (fun hHeld => ?_)
            · (try dsimp only); (first | trivial | skip)
            clear hK K
            try simp only [List.getElem_toArray, List.getElem_cons_zero, List.getElem_cons_succ, Act.put, List.setIfInBounds_toArray, List.set_cons_zero, List.set_cons_succ]
            refine wpAnyH_ready (rs := [5]) (by kernel_rfl) (by simp) ?_
            refine AllReadyH.cons rfl (fun K hK => ?_) (AllReadyH.nil)
            go_simp
            (go_at_call 206; refine (HRG.out _).mono ?_; rintro ex w7 ⟨rfl, hb7⟩; have HS1 := Lib.hid (HSJ.out.call hb7); clear hb7; clear z0 z1 z2 z3; obtain ⟨z0, z1, z2, z3⟩ := Cs.at4 HS1.out 1 rfl)
            refine hK.out _ _ ?_ (fun hHeld => ?_)
            · (try dsimp only); (first | trivial | skip)
            clear hK K
            try simp only [List.getElem_toArray, List.getElem_cons_zero, List.getElem_cons_succ, Act.put, List.setIfInBounds_toArray, List.set_cons_zero, List.set_cons_succ]
            refine wpAnyH_ready (rs := [6]) (by kernel_rfl) (by simp) ?_
            refine AllReadyH.cons rfl (fun K hK => ?_) (AllReadyH.nil)
            go_simp
            (go_at_call 222; refine (HJN.out _).mono ?_; rintro ex w8 ⟨rfl, hb8⟩; have HS2 := Lib.hid (HS1.out.call hb8); clear hb8; clear z0 z1 z2 z3; obtain ⟨z0, z1, z2, z3⟩ := Cs.at4 HS2.out 1 rfl; have y0 := (HS2.out.nth 1 rfl).celFree 0; have y1 := (HS2.out.nth 1 rfl).celFree 1; have y2 := (HS2.out.nth 1 rfl).celFree 2; have y3 := (HS2.out.nth 1 rfl).celFree 3)
            refine hK.out _ _ ?_ (fun hHeld => ?_)
            · (try dsimp only); (first | trivial | skip)
            clear hK K
            try simp only [List.getElem_toArray, List.getElem_cons_zero, List.getElem_cons_succ, Act.put, List.setIfInBounds_toArray, List.set_cons_zero, List.set_cons_succ]
            refine wpAnyH_ready (rs := [7]) (by kernel_rfl) (by simp) ?_
            refine AllReadyH.cons rfl (fun K hK => ?_) (AllReadyH.nil)
            go_simp
            refine hK.out _ _ ?_ (fun hHeld => ?_)
            · (try dsimp only); (first | trivial | skip)
            clear hK K
            try simp only [List.getElem_toArray, List.getElem_cons_zero, List.getElem_cons_succ, Act.put, List.setIfInBounds_toArray, List.set_cons_zero, List.set_cons_succ]
            refine wpAnyH_done (by kernel_rfl) ?_ _
            have HS3 := Lib.hid ((((HS2.out.get2.setCel 0 (.int .u64 r0)).setCel 1 (.int .u64 r1)).setCel 2 (.int .u64 r2)).setCel 3 (.int .u64 r3)).get2
            go_wp2
            go_roundg 0
            case rel => exact .inr ⟨n + 1, e, pp, Rp.joinTo p lo lo, by go_num, by omega, rfl, HRES, HEE.out, by rw [HR4.out]; exact HS3.out⟩
            case measure => have := HGK.out; omega
          · skip
            go_simp
            (go_at_call 206; refine (HRG.out _).mono ?_; rintro ex w7 ⟨rfl, hb7⟩; have HS1 := Lib.hid (HSJ.out.call hb7); clear hb7; clear z0 z1 z2 z3; obtain ⟨z0, z1, z2, z3⟩ := Cs.at4 HS1.out 1 rfl)
            refine hK.out _ _ ?_ (fun hHeld => ?_)
            · (try dsimp only); (first | trivial | skip)
            clear hK K
            try simp only [List.getElem_toArray, List.getElem_cons_zero, List.getElem_cons_succ, Act.put, List.setIfInBounds_toArray, List.set_cons_zero, List.set_cons_succ]
            refine wpAnyH_ready (rs := [0]) (by kernel_rfl) (by simp) ?_
            refine AllReadyH.cons rfl (fun K hK => ?_) (AllReadyH.nil)
            go_simp
            refine hK.out _ _ ?_ (fun hHeld => ?_)
            · (try dsimp only); (first | trivial | skip)
            clear hK K
            try simp only [List.getElem_toArray, List.getElem_cons_zero, List.getElem_cons_succ, Act.put, List.setIfInBounds_toArray, List.set_cons_zero, List.set_cons_succ]
            refine wpAnyH_ready (rs := [6]) (by kernel_rfl) (by simp) ?_
            refine AllReadyH.cons rfl (fun K hK => ?_) (AllReadyH.nil)
            go_simp
            (go_at_call 222; refine (HJN.out _).mono ?_; rintro ex w8 ⟨rfl, hb8⟩; have HS2 := Lib.hid (HS1.out.call hb8); clear hb8; clear z0 z1 z2 z3; obtain ⟨z0, z1, z2, z3⟩ := Cs.at4 HS2.out 1 rfl; have y0 := (HS2.out.nth 1 rfl).celFree 0; have y1 := (HS2.out.nth 1 rfl).celFree 1; have y2 := (HS2.out.nth 1 rfl).celFree 2; have y3 := (HS2.out.nth 1 rfl).celFree 3)
            refine hK.out _ _ ?_ (fun hHeld => ?_)
            · (try dsimp only); (first | trivial | skip)
            clear hK K
            try simp only [List.getElem_toArray, List.getElem_cons_zero, List.getElem_cons_succ, Act.put, List.setIfInBounds_toArray, List.set_cons_zero, List.set_cons_succ]
            refine wpAnyH_ready (rs := [7]) (by kernel_rfl) (by simp) ?_
            refine AllReadyH.cons rfl (fun K hK => ?_) (AllReadyH.nil)
            go_simp
            refine hK.out _ _ ?_ (fun hHeld => ?_)
            · (try dsimp only); (first | trivial | skip)
            clear hK K
            try simp only [List.getElem_toArray, List.getElem_cons_zero, List.getElem_cons_succ, Act.put, List.setIfInBounds_toArray, List.set_cons_zero, List.set_cons_succ]
            refine wpAnyH_done (by kernel_rfl) ?_ _
            have HS3 := Lib.hid ((((HS2.out.get2.setCel 0 (.int .u64 r0)).setCel 1 (.int .u64 r1)).setCel 2 (.int .u64 r2)).setCel 3 (.int .u64 r3)).get2
            go_wp2
            go_roundg 0
            case rel => exact .inr ⟨n + 1, e, pp, Rp.joinTo p lo lo, by go_num, by omega, rfl, HRES, HEE.out, by rw [HR4.out]; exact HS3.out⟩
            case measure => have := HGK.out; omega
        | ok xb =>
          obtain ⟨lo, b1⟩ := xb
          obtain ⟨hab, hb1, hlo⟩ := Rp.chr_ok ha hch
          clear h93
          go_wp2_with (fail)
          go_at_call 157
          refine (HI.out _ HS.out).mono ?_
          rintro ex w2 ⟨rfl, hst⟩
          have HS := Lib.hid hst
          clear hst
          go_wp2_with (fail)
          go_at_call 207
          refine (HCH.out _ HS.out).mono ?_
          rintro ex w3 ⟨rfl, hst⟩
          have HS := Lib.hid hst
          clear hst c0 c1 c2 c3 f1 f2 f3
          by_cases h45 : Rp.pk s b1 = 45
          · have hb45 := Rp.pk_lt 45 (by decide) h45
            have HTK := Lib.hid (fun w' h' => rpTake_any s b1 op 0 45 R w0 w' (aCel (w.heap.size + 1) 24 (Cs.clA (Cs.of p)) :: aCel w.heap.size 24 (Cs.clA Dm.zero) :: μ) h' (by decide) hb1 hs)
            rw [Rp.isB_ok, decide_eq_true h45, Rp.tk_yes (by rw [Rp.isB_ok]; exact decide_eq_true h45)] at HTK
            have hit := Rp.item_two hch h45
            obtain ⟨CH2, hch2⟩ : ∃ r, Rp.chr s (b1 + 1) = r := ⟨_, rfl⟩
            have HCH2 := Lib.hid (fun w' h' => rpChar_any s (b1 + 1) op hb45 hs R w0 w' (aCel (w.heap.size + 1) 24 (Cs.clA (Cs.of p)) :: aCel w.heap.size 24 (Cs.clA Dm.zero) :: μ) h')
            rw [hch2] at HCH2 hit
            go_wp2_with (fail)
            go_at_call 116
            refine (HTK.out _ HS.out).mono ?_
            rintro ex w4 ⟨rfl, hst⟩
            obtain ⟨c0, c1, c2, c3, f1, f2, f3⟩ := Rp.rdAt hst
            have HS := Lib.hid hst
            clear hst
            go_wp2_with (fail)
            go_at_call 207
            cases CH2 with
            | error ep =>
              obtain ⟨e, pp⟩ := ep
              obtain ⟨hee, hppl⟩ := Rp.chr_err hb45 hch2
              have hres := HRES.out
              rw [Rp.cls_err hno (hit.trans rfl)] at hres
              have HRES := Lib.hid hres.symm
              have hsix := Rp.six_or hee
              have HEE := Lib.hid hee
              obtain ⟨he0, -⟩ := hsix
              clear hres hno hch hit hch2 hee
              refine (HCH2.out _ HS.out).mono ?_
              rintro ex w5 ⟨⟨hi, hhi, rfl⟩, hst⟩
              have HS := Lib.hid hst
              clear hst c0 c1 c2 c3 f1 f2 f3
              obtain ⟨c0, c1, c2, c3, f1, f2, f3⟩ := Rp.rdAt HS.out
              obtain ⟨q0, q1, q2, q3, hq⟩ := Cs.okFour (Cs.ok_of p)
              have HQ := Lib.hid hq
              have hsq := HS.out
              rw [hq] at hsq
              have HS := Lib.hid hsq
              clear hsq hq
              obtain ⟨z0, z1, z2, z3⟩ := Cs.at4 HS.out 1 rfl
              go_wp2_with (fail)
              have HRG := Lib.hid (fun W => clRange_any (lo : Int) (hi : Int) (by omega) (by omega) (by omega) (by omega) W)
              obtain ⟨ZZ, hZZ⟩ : ∃ ZZ, (Cs.of fun x => decide ((lo : Int) ≤ (x : Int) ∧ (x : Int) ≤ (hi : Int))) = ZZ := ⟨_, rfl⟩
              rw [hZZ] at HRG
              have hlw : IntKind.i64.wrap (lo : Int) = (lo : Int) := IntWalk.i64_in _ (by omega)
              have hhw : IntKind.i64.wrap (hi : Int) = (hi : Int) := IntWalk.i64_in _ (by omega)
              obtain ⟨r0, r1, r2, r3, hr4⟩ := Cs.okFour (Cs.ok_of (Rp.joinTo p lo hi))
              have HR4 := Lib.hid hr4
              have HJN := Lib.hid (fun W => Rp.clJoin_to p lo hi HQ.out HR4.out W)
              rw [hZZ] at HJN
              clear hr4 hZZ
              have HSJ := Lib.hid HS.out.drew
              obtain ⟨z0, z1, z2, z3⟩ := Cs.at4 HSJ.out 1 rfl
              go_wp2
              refine wp_region_held_drew (S := (fun w' => True)) (by kernel_rfl) ?_ (fun hHeld => ?_)
              · (try dsimp only); (first | trivial | skip)

              refine wpAnyH_take (i := 1) (v := ?_) rfl (by kernel_rfl) (by kernel_rfl) (by kernel_rfl) (fun _ _ _ h => h) (Or.inl ⟨by rfl, ?_⟩) (by assumption) ?_
              rotate_left; focus (intro w hSw; (try dsimp only at hSw); go_simp; try (with_reducible rfl); done)
              try simp only [List.getElem_toArray, List.getElem_cons_zero, List.getElem_cons_succ, Act.put, List.setIfInBounds_toArray, List.set_cons_zero, List.set_cons_succ]
              refine wpAnyH_take (i := 2) (v := ?_) rfl (by kernel_rfl) (by kernel_rfl) (by kernel_rfl) (fun _ _ _ h => h) (Or.inl ⟨by rfl, ?_⟩) (by assumption) ?_
              rotate_left; focus (intro w hSw; (try dsimp only at hSw); go_simp; try (with_reducible rfl); done)
              try simp only [List.getElem_toArray, List.getElem_cons_zero, List.getElem_cons_succ, Act.put, List.setIfInBounds_toArray, List.set_cons_zero, List.set_cons_succ]
              refine wpAnyH_take (i := 3) (v := ?_) rfl (by kernel_rfl) (by kernel_rfl) (by kernel_rfl) (fun _ _ _ h => h) (Or.inl ⟨by rfl, ?_⟩) (by assumption) ?_
              rotate_left; focus (intro w hSw; (try dsimp only at hSw); go_simp; try (with_reducible rfl); done)
              try simp only [List.getElem_toArray, List.getElem_cons_zero, List.getElem_cons_succ, Act.put, List.setIfInBounds_toArray, List.set_cons_zero, List.set_cons_succ]
              refine wpAnyH_take (i := 4) (v := ?_) rfl (by kernel_rfl) (by kernel_rfl) (by kernel_rfl) (fun _ _ _ h => h) (Or.inl ⟨by rfl, ?_⟩) (by assumption) ?_
              rotate_left; focus (intro w hSw; (try dsimp only at hSw); go_simp; try (with_reducible rfl); done)
              try simp only [List.getElem_toArray, List.getElem_cons_zero, List.getElem_cons_succ, Act.put, List.setIfInBounds_toArray, List.set_cons_zero, List.set_cons_succ]
              refine wpAnyH_ready (rs := [0, 5]) (by kernel_rfl) (by simp) ?_
              refine AllReadyH.cons rfl (fun K hK => ?_) (AllReadyH.cons rfl (fun K hK => ?_) (AllReadyH.nil))
              · skip
                go_simp
                refine hK.out _ _ ?_ (fun hHeld => ?_)
                · (try dsimp only); (first | trivial | skip)
                clear hK K
                try simp only [List.getElem_toArray, List.getElem_cons_zero, List.getElem_cons_succ, Act.put, List.setIfInBounds_toArray, List.set_cons_zero, List.set_cons_succ]
                refine wpAnyH_ready (rs := [5]) (by kernel_rfl) (by simp) ?_
                refine AllReadyH.cons rfl (fun K hK => ?_) (AllReadyH.nil)
                go_simp
                (go_at_call 206; refine (HRG.out _).mono ?_; rintro ex w7 ⟨rfl, hb7⟩; have HS1 := Lib.hid (HSJ.out.call hb7); clear hb7; clear z0 z1 z2 z3; obtain ⟨z0, z1, z2, z3⟩ := Cs.at4 HS1.out 1 rfl)
                refine hK.out _ _ ?_ (fun hHeld => ?_)
                · (try dsimp only); (first | trivial | skip)
                clear hK K
                try simp only [List.getElem_toArray, List.getElem_cons_zero, List.getElem_cons_succ, Act.put, List.setIfInBounds_toArray, List.set_cons_zero, List.set_cons_succ]
                refine wpAnyH_ready (rs := [6]) (by kernel_rfl) (by simp) ?_
                refine AllReadyH.cons rfl (fun K hK => ?_) (AllReadyH.nil)
                go_simp
                (go_at_call 222; refine (HJN.out _).mono ?_; rintro ex w8 ⟨rfl, hb8⟩; have HS2 := Lib.hid (HS1.out.call hb8); clear hb8; clear z0 z1 z2 z3; obtain ⟨z0, z1, z2, z3⟩ := Cs.at4 HS2.out 1 rfl; have y0 := (HS2.out.nth 1 rfl).celFree 0; have y1 := (HS2.out.nth 1 rfl).celFree 1; have y2 := (HS2.out.nth 1 rfl).celFree 2; have y3 := (HS2.out.nth 1 rfl).celFree 3)
                refine hK.out _ _ ?_ (fun hHeld => ?_)
                · (try dsimp only); (first | trivial | skip)
                clear hK K
                try simp only [List.getElem_toArray, List.getElem_cons_zero, List.getElem_cons_succ, Act.put, List.setIfInBounds_toArray, List.set_cons_zero, List.set_cons_succ]
                refine wpAnyH_ready (rs := [7]) (by kernel_rfl) (by simp) ?_
                refine AllReadyH.cons rfl (fun K hK => ?_) (AllReadyH.nil)
                go_simp
                refine hK.out _ _ ?_ (fun hHeld => ?_)
                · (try dsimp only); (first | trivial | skip)
                clear hK K
                try simp only [List.getElem_toArray, List.getElem_cons_zero, List.getElem_cons_succ, Act.put, List.setIfInBounds_toArray, List.set_cons_zero, List.set_cons_succ]
                refine wpAnyH_done (by kernel_rfl) ?_ _
                have HS3 := Lib.hid ((((HS2.out.get2.setCel 0 (.int .u64 r0)).setCel 1 (.int .u64 r1)).setCel 2 (.int .u64 r2)).setCel 3 (.int .u64 r3)).get2
                go_wp2
                go_roundg 0
                case rel => exact .inr ⟨n + 1, e, pp, Rp.joinTo p lo hi, by go_num, by omega, rfl, HRES, HEE.out, by rw [HR4.out]; exact HS3.out⟩
                case measure => have := HGK.out; omega
              · skip
                go_simp
                (go_at_call 206; refine (HRG.out _).mono ?_; rintro ex w7 ⟨rfl, hb7⟩; have HS1 := Lib.hid (HSJ.out.call hb7); clear hb7; clear z0 z1 z2 z3; obtain ⟨z0, z1, z2, z3⟩ := Cs.at4 HS1.out 1 rfl)
                refine hK.out _ _ ?_ (fun hHeld => ?_)
                · (try dsimp only); (first | trivial | skip)
                clear hK K
                try simp only [List.getElem_toArray, List.getElem_cons_zero, List.getElem_cons_succ, Act.put, List.setIfInBounds_toArray, List.set_cons_zero, List.set_cons_succ]
                refine wpAnyH_ready (rs := [0]) (by kernel_rfl) (by simp) ?_
                refine AllReadyH.cons rfl (fun K hK => ?_) (AllReadyH.nil)
                go_simp
                refine hK.out _ _ ?_ (fun hHeld => ?_)
                · (try dsimp only); (first | trivial | skip)
                clear hK K
                try simp only [List.getElem_toArray, List.getElem_cons_zero, List.getElem_cons_succ, Act.put, List.setIfInBounds_toArray, List.set_cons_zero, List.set_cons_succ]
                refine wpAnyH_ready (rs := [6]) (by kernel_rfl) (by simp) ?_
                refine AllReadyH.cons rfl (fun K hK => ?_) (AllReadyH.nil)
                go_simp
                (go_at_call 222; refine (HJN.out _).mono ?_; rintro ex w8 ⟨rfl, hb8⟩; have HS2 := Lib.hid (HS1.out.call hb8); clear hb8; clear z0 z1 z2 z3; obtain ⟨z0, z1, z2, z3⟩ := Cs.at4 HS2.out 1 rfl; have y0 := (HS2.out.nth 1 rfl).celFree 0; have y1 := (HS2.out.nth 1 rfl).celFree 1; have y2 := (HS2.out.nth 1 rfl).celFree 2; have y3 := (HS2.out.nth 1 rfl).celFree 3)
                refine hK.out _ _ ?_ (fun hHeld => ?_)
                · (try dsimp only); (first | trivial | skip)
                clear hK K
                try simp only [List.getElem_toArray, List.getElem_cons_zero, List.getElem_cons_succ, Act.put, List.setIfInBounds_toArray, List.set_cons_zero, List.set_cons_succ]
                refine wpAnyH_ready (rs := [7]) (by kernel_rfl) (by simp) ?_
                refine AllReadyH.cons rfl (fun K hK => ?_) (AllReadyH.nil)
                go_simp
                refine hK.out _ _ ?_ (fun hHeld => ?_)
                · (try dsimp only); (first | trivial | skip)
                clear hK K
                try simp only [List.getElem_toArray, List.getElem_cons_zero, List.getElem_cons_succ, Act.put, List.setIfInBounds_toArray, List.set_cons_zero, List.set_cons_succ]
                refine wpAnyH_done (by kernel_rfl) ?_ _
                have HS3 := Lib.hid ((((HS2.out.get2.setCel 0 (.int .u64 r0)).setCel 1 (.int .u64 r1)).setCel 2 (.int .u64 r2)).setCel 3 (.int .u64 r3)).get2
                go_wp2
                go_roundg 0
                case rel => exact .inr ⟨n + 1, e, pp, Rp.joinTo p lo hi, by go_num, by omega, rfl, HRES, HEE.out, by rw [HR4.out]; exact HS3.out⟩
                case measure => have := HGK.out; omega
            | ok xb =>
              obtain ⟨hi, b2⟩ := xb
              obtain ⟨hbb, hb2, hhi⟩ := Rp.chr_ok hb45 hch2
              refine (HCH2.out _ HS.out).mono ?_
              rintro ex w5 ⟨rfl, hst⟩
              have HS := Lib.hid hst
              clear hst c0 c1 c2 c3 f1 f2 f3
              obtain ⟨c0, c1, c2, c3, f1, f2, f3⟩ := Rp.rdAt HS.out
              by_cases hlt : hi < lo
              · have hltI : (hi : Int) < (lo : Int) := by omega
                have hltJ : decide ((hi : Int) < (lo : Int)) = true := decide_eq_true hltI
                have hres := HRES.out
                rw [Rp.cls_err hno (hit.trans (if_pos hlt))] at hres
                have HRES := Lib.hid hres.symm
                have HS6 := Lib.hid (Rp.setAtR HS.out ((b1 + 1 : Nat) : Int))
                clear hres hno hch hit hch2 hlt HS
                go_wp2_with (fail)
                go_at_call 53
                refine (rpFail_any s (b1 + 1 : Nat) op 0 6 R w0 _ _ HS6.out).mono ?_
                rintro ex w6 ⟨rfl, hst⟩
                have HS : Hid (St w0 w6 (Rp.rd R s ((b1 + 1 : Nat) : Int) op 6 :: aCel (w.heap.size + 1) 24 (Cs.clA (Cs.of p)) :: aCel w.heap.size 24 (Cs.clA Dm.zero) :: μ)) := Lib.hid hst
                clear hst c0 c1 c2 c3 f1 f2 f3
                obtain ⟨c0, c1, c2, c3, f1, f2, f3⟩ := Rp.rdAt HS.out
                obtain ⟨q0, q1, q2, q3, hq⟩ := Cs.okFour (Cs.ok_of p)
                have HQ := Lib.hid hq
                have hsq := HS.out
                rw [hq] at hsq
                have HS := Lib.hid hsq
                clear hsq hq
                obtain ⟨z0, z1, z2, z3⟩ := Cs.at4 HS.out 1 rfl
                have HRG := Lib.hid (fun W => clRange_any (lo : Int) (hi : Int) (by omega) (by omega) (by omega) (by omega) W)
                obtain ⟨ZZ, hZZ⟩ : ∃ ZZ, (Cs.of fun x => decide ((lo : Int) ≤ (x : Int) ∧ (x : Int) ≤ (hi : Int))) = ZZ := ⟨_, rfl⟩
                rw [hZZ] at HRG
                have hlw : IntKind.i64.wrap (lo : Int) = (lo : Int) := IntWalk.i64_in _ (by omega)
                have hhw : IntKind.i64.wrap (hi : Int) = (hi : Int) := IntWalk.i64_in _ (by omega)
                obtain ⟨r0, r1, r2, r3, hr4⟩ := Cs.okFour (Cs.ok_of (Rp.joinTo p lo hi))
                have HR4 := Lib.hid hr4
                have HJN := Lib.hid (fun W => Rp.clJoin_to p lo hi HQ.out HR4.out W)
                rw [hZZ] at HJN
                clear hr4 hZZ
                have HSJ := Lib.hid HS.out.drew
                obtain ⟨z0, z1, z2, z3⟩ := Cs.at4 HSJ.out 1 rfl
                go_wp2
                refine wp_region_held_drew (S := (fun w' => True)) (by kernel_rfl) ?_ (fun hHeld => ?_)
                · (try dsimp only); (first | trivial | skip)

                refine wpAnyH_take (i := 1) (v := ?_) rfl (by kernel_rfl) (by kernel_rfl) (by kernel_rfl) (fun _ _ _ h => h) (Or.inl ⟨by rfl, ?_⟩) (by assumption) ?_
                rotate_left; focus (intro w hSw; (try dsimp only at hSw); go_simp; try (with_reducible rfl); done)
                try simp only [List.getElem_toArray, List.getElem_cons_zero, List.getElem_cons_succ, Act.put, List.setIfInBounds_toArray, List.set_cons_zero, List.set_cons_succ]
                refine wpAnyH_take (i := 2) (v := ?_) rfl (by kernel_rfl) (by kernel_rfl) (by kernel_rfl) (fun _ _ _ h => h) (Or.inl ⟨by rfl, ?_⟩) (by assumption) ?_
                rotate_left; focus (intro w hSw; (try dsimp only at hSw); go_simp; try (with_reducible rfl); done)
                try simp only [List.getElem_toArray, List.getElem_cons_zero, List.getElem_cons_succ, Act.put, List.setIfInBounds_toArray, List.set_cons_zero, List.set_cons_succ]
                refine wpAnyH_take (i := 3) (v := ?_) rfl (by kernel_rfl) (by kernel_rfl) (by kernel_rfl) (fun _ _ _ h => h) (Or.inl ⟨by rfl, ?_⟩) (by assumption) ?_
                rotate_left; focus (intro w hSw; (try dsimp only at hSw); go_simp; try (with_reducible rfl); done)
                try simp only [List.getElem_toArray, List.getElem_cons_zero, List.getElem_cons_succ, Act.put, List.setIfInBounds_toArray, List.set_cons_zero, List.set_cons_succ]
                refine wpAnyH_take (i := 4) (v := ?_) rfl (by kernel_rfl) (by kernel_rfl) (by kernel_rfl) (fun _ _ _ h => h) (Or.inl ⟨by rfl, ?_⟩) (by assumption) ?_
                rotate_left; focus (intro w hSw; (try dsimp only at hSw); go_simp; try (with_reducible rfl); done)
                try simp only [List.getElem_toArray, List.getElem_cons_zero, List.getElem_cons_succ, Act.put, List.setIfInBounds_toArray, List.set_cons_zero, List.set_cons_succ]
                refine wpAnyH_ready (rs := [0, 5]) (by kernel_rfl) (by simp) ?_
                refine AllReadyH.cons rfl (fun K hK => ?_) (AllReadyH.cons rfl (fun K hK => ?_) (AllReadyH.nil))
                · skip
                  go_simp
                  refine hK.out _ _ ?_ (fun hHeld => ?_)
                  · (try dsimp only); (first | trivial | skip)
                  clear hK K
                  try simp only [List.getElem_toArray, List.getElem_cons_zero, List.getElem_cons_succ, Act.put, List.setIfInBounds_toArray, List.set_cons_zero, List.set_cons_succ]
                  refine wpAnyH_ready (rs := [5]) (by kernel_rfl) (by simp) ?_
                  refine AllReadyH.cons rfl (fun K hK => ?_) (AllReadyH.nil)
                  go_simp
                  (go_at_call 206; refine (HRG.out _).mono ?_; rintro ex w7 ⟨rfl, hb7⟩; have HS1 := Lib.hid (HSJ.out.call hb7); clear hb7; clear z0 z1 z2 z3; obtain ⟨z0, z1, z2, z3⟩ := Cs.at4 HS1.out 1 rfl)
                  refine hK.out _ _ ?_ (fun hHeld => ?_)
                  · (try dsimp only); (first | trivial | skip)
                  clear hK K
                  try simp only [List.getElem_toArray, List.getElem_cons_zero, List.getElem_cons_succ, Act.put, List.setIfInBounds_toArray, List.set_cons_zero, List.set_cons_succ]
                  refine wpAnyH_ready (rs := [6]) (by kernel_rfl) (by simp) ?_
                  refine AllReadyH.cons rfl (fun K hK => ?_) (AllReadyH.nil)
                  go_simp
                  (go_at_call 222; refine (HJN.out _).mono ?_; rintro ex w8 ⟨rfl, hb8⟩; have HS2 := Lib.hid (HS1.out.call hb8); clear hb8; clear z0 z1 z2 z3; obtain ⟨z0, z1, z2, z3⟩ := Cs.at4 HS2.out 1 rfl; have y0 := (HS2.out.nth 1 rfl).celFree 0; have y1 := (HS2.out.nth 1 rfl).celFree 1; have y2 := (HS2.out.nth 1 rfl).celFree 2; have y3 := (HS2.out.nth 1 rfl).celFree 3)
                  refine hK.out _ _ ?_ (fun hHeld => ?_)
                  · (try dsimp only); (first | trivial | skip)
                  clear hK K
                  try simp only [List.getElem_toArray, List.getElem_cons_zero, List.getElem_cons_succ, Act.put, List.setIfInBounds_toArray, List.set_cons_zero, List.set_cons_succ]
                  refine wpAnyH_ready (rs := [7]) (by kernel_rfl) (by simp) ?_
                  refine AllReadyH.cons rfl (fun K hK => ?_) (AllReadyH.nil)
                  go_simp
                  refine hK.out _ _ ?_ (fun hHeld => ?_)
                  · (try dsimp only); (first | trivial | skip)
                  clear hK K
                  try simp only [List.getElem_toArray, List.getElem_cons_zero, List.getElem_cons_succ, Act.put, List.setIfInBounds_toArray, List.set_cons_zero, List.set_cons_succ]
                  refine wpAnyH_done (by kernel_rfl) ?_ _
                  have HS3 := Lib.hid ((((HS2.out.get2.setCel 0 (.int .u64 r0)).setCel 1 (.int .u64 r1)).setCel 2 (.int .u64 r2)).setCel 3 (.int .u64 r3)).get2
                  go_wp2
                  go_roundg 0
                  case rel => exact .inr ⟨n + 1, 6, b1 + 1, Rp.joinTo p lo hi, by go_num, by omega, rfl, HRES, .inl rfl, by rw [HR4.out]; exact HS3.out⟩
                  case measure => have := HGK.out; omega
                · skip
                  go_simp
                  (go_at_call 206; refine (HRG.out _).mono ?_; rintro ex w7 ⟨rfl, hb7⟩; have HS1 := Lib.hid (HSJ.out.call hb7); clear hb7; clear z0 z1 z2 z3; obtain ⟨z0, z1, z2, z3⟩ := Cs.at4 HS1.out 1 rfl)
                  refine hK.out _ _ ?_ (fun hHeld => ?_)
                  · (try dsimp only); (first | trivial | skip)
                  clear hK K
                  try simp only [List.getElem_toArray, List.getElem_cons_zero, List.getElem_cons_succ, Act.put, List.setIfInBounds_toArray, List.set_cons_zero, List.set_cons_succ]
                  refine wpAnyH_ready (rs := [0]) (by kernel_rfl) (by simp) ?_
                  refine AllReadyH.cons rfl (fun K hK => ?_) (AllReadyH.nil)
                  go_simp
                  refine hK.out _ _ ?_ (fun hHeld => ?_)
                  · (try dsimp only); (first | trivial | skip)
                  clear hK K
                  try simp only [List.getElem_toArray, List.getElem_cons_zero, List.getElem_cons_succ, Act.put, List.setIfInBounds_toArray, List.set_cons_zero, List.set_cons_succ]
                  refine wpAnyH_ready (rs := [6]) (by kernel_rfl) (by simp) ?_
                  refine AllReadyH.cons rfl (fun K hK => ?_) (AllReadyH.nil)
                  go_simp
                  (go_at_call 222; refine (HJN.out _).mono ?_; rintro ex w8 ⟨rfl, hb8⟩; have HS2 := Lib.hid (HS1.out.call hb8); clear hb8; clear z0 z1 z2 z3; obtain ⟨z0, z1, z2, z3⟩ := Cs.at4 HS2.out 1 rfl; have y0 := (HS2.out.nth 1 rfl).celFree 0; have y1 := (HS2.out.nth 1 rfl).celFree 1; have y2 := (HS2.out.nth 1 rfl).celFree 2; have y3 := (HS2.out.nth 1 rfl).celFree 3)
                  refine hK.out _ _ ?_ (fun hHeld => ?_)
                  · (try dsimp only); (first | trivial | skip)
                  clear hK K
                  try simp only [List.getElem_toArray, List.getElem_cons_zero, List.getElem_cons_succ, Act.put, List.setIfInBounds_toArray, List.set_cons_zero, List.set_cons_succ]
                  refine wpAnyH_ready (rs := [7]) (by kernel_rfl) (by simp) ?_
                  refine AllReadyH.cons rfl (fun K hK => ?_) (AllReadyH.nil)
                  go_simp
                  refine hK.out _ _ ?_ (fun hHeld => ?_)
                  · (try dsimp only); (first | trivial | skip)
                  clear hK K
                  try simp only [List.getElem_toArray, List.getElem_cons_zero, List.getElem_cons_succ, Act.put, List.setIfInBounds_toArray, List.set_cons_zero, List.set_cons_succ]
                  refine wpAnyH_done (by kernel_rfl) ?_ _
                  have HS3 := Lib.hid ((((HS2.out.get2.setCel 0 (.int .u64 r0)).setCel 1 (.int .u64 r1)).setCel 2 (.int .u64 r2)).setCel 3 (.int .u64 r3)).get2
                  go_wp2
                  go_roundg 0
                  case rel => exact .inr ⟨n + 1, 6, b1 + 1, Rp.joinTo p lo hi, by go_num, by omega, rfl, HRES, .inl rfl, by rw [HR4.out]; exact HS3.out⟩
                  case measure => have := HGK.out; omega
              · have hltI : ¬ (hi : Int) < (lo : Int) := by omega
                have hltJ : decide ((hi : Int) < (lo : Int)) = false := decide_eq_false hltI
                have hres := HRES.out
                rw [Rp.cls_step hno (hit.trans (if_neg hlt))] at hres
                have HRES := Lib.hid hres
                clear hres hno hch hit hch2 hlt
                obtain ⟨q0, q1, q2, q3, hq⟩ := Cs.okFour (Cs.ok_of p)
                have HQ := Lib.hid hq
                have hsq := HS.out
                rw [hq] at hsq
                have HS := Lib.hid hsq
                clear hsq hq
                obtain ⟨z0, z1, z2, z3⟩ := Cs.at4 HS.out 1 rfl
                have HRG := Lib.hid (fun W => clRange_any (lo : Int) (hi : Int) (by omega) (by omega) (by omega) (by omega) W)
                obtain ⟨ZZ, hZZ⟩ : ∃ ZZ, (Cs.of fun x => decide ((lo : Int) ≤ (x : Int) ∧ (x : Int) ≤ (hi : Int))) = ZZ := ⟨_, rfl⟩
                rw [hZZ] at HRG
                have hlw : IntKind.i64.wrap (lo : Int) = (lo : Int) := IntWalk.i64_in _ (by omega)
                have hhw : IntKind.i64.wrap (hi : Int) = (hi : Int) := IntWalk.i64_in _ (by omega)
                obtain ⟨r0, r1, r2, r3, hr4⟩ := Cs.okFour (Cs.ok_of (Rp.joinTo p lo hi))
                have HR4 := Lib.hid hr4
                have HJN := Lib.hid (fun W => Rp.clJoin_to p lo hi HQ.out HR4.out W)
                rw [hZZ] at HJN
                clear hr4 hZZ
                have HSJ := Lib.hid HS.out.drew
                obtain ⟨z0, z1, z2, z3⟩ := Cs.at4 HSJ.out 1 rfl
                go_wp2
                refine wp_region_held_drew (S := (fun w' => True)) (by kernel_rfl) ?_ (fun hHeld => ?_)
                · (try dsimp only); (first | trivial | skip)

                refine wpAnyH_take (i := 1) (v := ?_) rfl (by kernel_rfl) (by kernel_rfl) (by kernel_rfl) (fun _ _ _ h => h) (Or.inl ⟨by rfl, ?_⟩) (by assumption) ?_
                rotate_left; focus (intro w hSw; (try dsimp only at hSw); go_simp; try (with_reducible rfl); done)
                try simp only [List.getElem_toArray, List.getElem_cons_zero, List.getElem_cons_succ, Act.put, List.setIfInBounds_toArray, List.set_cons_zero, List.set_cons_succ]
                refine wpAnyH_take (i := 2) (v := ?_) rfl (by kernel_rfl) (by kernel_rfl) (by kernel_rfl) (fun _ _ _ h => h) (Or.inl ⟨by rfl, ?_⟩) (by assumption) ?_
                rotate_left; focus (intro w hSw; (try dsimp only at hSw); go_simp; try (with_reducible rfl); done)
                try simp only [List.getElem_toArray, List.getElem_cons_zero, List.getElem_cons_succ, Act.put, List.setIfInBounds_toArray, List.set_cons_zero, List.set_cons_succ]
                refine wpAnyH_take (i := 3) (v := ?_) rfl (by kernel_rfl) (by kernel_rfl) (by kernel_rfl) (fun _ _ _ h => h) (Or.inl ⟨by rfl, ?_⟩) (by assumption) ?_
                rotate_left; focus (intro w hSw; (try dsimp only at hSw); go_simp; try (with_reducible rfl); done)
                try simp only [List.getElem_toArray, List.getElem_cons_zero, List.getElem_cons_succ, Act.put, List.setIfInBounds_toArray, List.set_cons_zero, List.set_cons_succ]
                refine wpAnyH_take (i := 4) (v := ?_) rfl (by kernel_rfl) (by kernel_rfl) (by kernel_rfl) (fun _ _ _ h => h) (Or.inl ⟨by rfl, ?_⟩) (by assumption) ?_
                rotate_left; focus (intro w hSw; (try dsimp only at hSw); go_simp; try (with_reducible rfl); done)
                try simp only [List.getElem_toArray, List.getElem_cons_zero, List.getElem_cons_succ, Act.put, List.setIfInBounds_toArray, List.set_cons_zero, List.set_cons_succ]
                refine wpAnyH_ready (rs := [0, 5]) (by kernel_rfl) (by simp) ?_
                refine AllReadyH.cons rfl (fun K hK => ?_) (AllReadyH.cons rfl (fun K hK => ?_) (AllReadyH.nil))
                · skip
                  go_simp
                  refine hK.out _ _ ?_ (fun hHeld => ?_)
                  · (try dsimp only); (first | trivial | skip)
                  clear hK K
                  try simp only [List.getElem_toArray, List.getElem_cons_zero, List.getElem_cons_succ, Act.put, List.setIfInBounds_toArray, List.set_cons_zero, List.set_cons_succ]
                  refine wpAnyH_ready (rs := [5]) (by kernel_rfl) (by simp) ?_
                  refine AllReadyH.cons rfl (fun K hK => ?_) (AllReadyH.nil)
                  go_simp
                  (go_at_call 206; refine (HRG.out _).mono ?_; rintro ex w7 ⟨rfl, hb7⟩; have HS1 := Lib.hid (HSJ.out.call hb7); clear hb7; clear z0 z1 z2 z3; obtain ⟨z0, z1, z2, z3⟩ := Cs.at4 HS1.out 1 rfl)
                  refine hK.out _ _ ?_ (fun hHeld => ?_)
                  · (try dsimp only); (first | trivial | skip)
                  clear hK K
                  try simp only [List.getElem_toArray, List.getElem_cons_zero, List.getElem_cons_succ, Act.put, List.setIfInBounds_toArray, List.set_cons_zero, List.set_cons_succ]
                  refine wpAnyH_ready (rs := [6]) (by kernel_rfl) (by simp) ?_
                  refine AllReadyH.cons rfl (fun K hK => ?_) (AllReadyH.nil)
                  go_simp
                  (go_at_call 222; refine (HJN.out _).mono ?_; rintro ex w8 ⟨rfl, hb8⟩; have HS2 := Lib.hid (HS1.out.call hb8); clear hb8; clear z0 z1 z2 z3; obtain ⟨z0, z1, z2, z3⟩ := Cs.at4 HS2.out 1 rfl; have y0 := (HS2.out.nth 1 rfl).celFree 0; have y1 := (HS2.out.nth 1 rfl).celFree 1; have y2 := (HS2.out.nth 1 rfl).celFree 2; have y3 := (HS2.out.nth 1 rfl).celFree 3)
                  refine hK.out _ _ ?_ (fun hHeld => ?_)
                  · (try dsimp only); (first | trivial | skip)
                  clear hK K
                  try simp only [List.getElem_toArray, List.getElem_cons_zero, List.getElem_cons_succ, Act.put, List.setIfInBounds_toArray, List.set_cons_zero, List.set_cons_succ]
                  refine wpAnyH_ready (rs := [7]) (by kernel_rfl) (by simp) ?_
                  refine AllReadyH.cons rfl (fun K hK => ?_) (AllReadyH.nil)
                  go_simp
                  refine hK.out _ _ ?_ (fun hHeld => ?_)
                  · (try dsimp only); (first | trivial | skip)
                  clear hK K
                  try simp only [List.getElem_toArray, List.getElem_cons_zero, List.getElem_cons_succ, Act.put, List.setIfInBounds_toArray, List.set_cons_zero, List.set_cons_succ]
                  refine wpAnyH_done (by kernel_rfl) ?_ _
                  have HS3 := Lib.hid ((((HS2.out.get2.setCel 0 (.int .u64 r0)).setCel 1 (.int .u64 r1)).setCel 2 (.int .u64 r2)).setCel 3 (.int .u64 r3)).get2
                  go_wp2
                  go_roundg (s.size + 1 - b2)
                  case rel => exact .inl ⟨n + 1, Rp.joinTo p lo hi, b2, f, by go_num, by omega, by omega, rfl, HRES, by omega, by rw [HR4.out]; exact HS3.out⟩
                  case measure => have := HGK.out; omega
                · skip
                  go_simp
                  (go_at_call 206; refine (HRG.out _).mono ?_; rintro ex w7 ⟨rfl, hb7⟩; have HS1 := Lib.hid (HSJ.out.call hb7); clear hb7; clear z0 z1 z2 z3; obtain ⟨z0, z1, z2, z3⟩ := Cs.at4 HS1.out 1 rfl)
                  refine hK.out _ _ ?_ (fun hHeld => ?_)
                  · (try dsimp only); (first | trivial | skip)
                  clear hK K
                  try simp only [List.getElem_toArray, List.getElem_cons_zero, List.getElem_cons_succ, Act.put, List.setIfInBounds_toArray, List.set_cons_zero, List.set_cons_succ]
                  refine wpAnyH_ready (rs := [0]) (by kernel_rfl) (by simp) ?_
                  refine AllReadyH.cons rfl (fun K hK => ?_) (AllReadyH.nil)
                  go_simp
                  refine hK.out _ _ ?_ (fun hHeld => ?_)
                  · (try dsimp only); (first | trivial | skip)
                  clear hK K
                  try simp only [List.getElem_toArray, List.getElem_cons_zero, List.getElem_cons_succ, Act.put, List.setIfInBounds_toArray, List.set_cons_zero, List.set_cons_succ]
                  refine wpAnyH_ready (rs := [6]) (by kernel_rfl) (by simp) ?_
                  refine AllReadyH.cons rfl (fun K hK => ?_) (AllReadyH.nil)
                  go_simp
                  (go_at_call 222; refine (HJN.out _).mono ?_; rintro ex w8 ⟨rfl, hb8⟩; have HS2 := Lib.hid (HS1.out.call hb8); clear hb8; clear z0 z1 z2 z3; obtain ⟨z0, z1, z2, z3⟩ := Cs.at4 HS2.out 1 rfl; have y0 := (HS2.out.nth 1 rfl).celFree 0; have y1 := (HS2.out.nth 1 rfl).celFree 1; have y2 := (HS2.out.nth 1 rfl).celFree 2; have y3 := (HS2.out.nth 1 rfl).celFree 3)
                  refine hK.out _ _ ?_ (fun hHeld => ?_)
                  · (try dsimp only); (first | trivial | skip)
                  clear hK K
                  try simp only [List.getElem_toArray, List.getElem_cons_zero, List.getElem_cons_succ, Act.put, List.setIfInBounds_toArray, List.set_cons_zero, List.set_cons_succ]
                  refine wpAnyH_ready (rs := [7]) (by kernel_rfl) (by simp) ?_
                  refine AllReadyH.cons rfl (fun K hK => ?_) (AllReadyH.nil)
                  go_simp
                  refine hK.out _ _ ?_ (fun hHeld => ?_)
                  · (try dsimp only); (first | trivial | skip)
                  clear hK K
                  try simp only [List.getElem_toArray, List.getElem_cons_zero, List.getElem_cons_succ, Act.put, List.setIfInBounds_toArray, List.set_cons_zero, List.set_cons_succ]
                  refine wpAnyH_done (by kernel_rfl) ?_ _
                  have HS3 := Lib.hid ((((HS2.out.get2.setCel 0 (.int .u64 r0)).setCel 1 (.int .u64 r1)).setCel 2 (.int .u64 r2)).setCel 3 (.int .u64 r3)).get2
                  go_wp2
                  go_roundg (s.size + 1 - b2)
                  case rel => exact .inl ⟨n + 1, Rp.joinTo p lo hi, b2, f, by go_num, by omega, by omega, rfl, HRES, by omega, by rw [HR4.out]; exact HS3.out⟩
                  case measure => have := HGK.out; omega
          · have HTK := Lib.hid (fun w' h' => rpTake_any s b1 op 0 45 R w0 w' (aCel (w.heap.size + 1) 24 (Cs.clA (Cs.of p)) :: aCel w.heap.size 24 (Cs.clA Dm.zero) :: μ) h' (by decide) hb1 hs)
            rw [Rp.isB_ok, decide_eq_false h45, Rp.tk_no (by rw [Rp.isB_ok]; exact decide_eq_false h45)] at HTK
            have hres := HRES.out
            rw [Rp.cls_step hno (Rp.item_one hch h45)] at hres
            have HRES := Lib.hid hres
            clear hres hno hch h45
            go_wp2_with (fail)
            go_at_call 116
            refine (HTK.out _ HS.out).mono ?_
            rintro ex w4 ⟨rfl, hst⟩
            have HS := Lib.hid hst
            clear hst
            obtain ⟨c0, c1, c2, c3, f1, f2, f3⟩ := Rp.rdAt HS.out
            obtain ⟨q0, q1, q2, q3, hq⟩ := Cs.okFour (Cs.ok_of p)
            have HQ := Lib.hid hq
            have hsq := HS.out
            rw [hq] at hsq
            have HS := Lib.hid hsq
            clear hsq hq
            obtain ⟨z0, z1, z2, z3⟩ := Cs.at4 HS.out 1 rfl
            have HRG := Lib.hid (fun W => clRange_any (lo : Int) (lo : Int) (by omega) (by omega) (by omega) (by omega) W)
            obtain ⟨ZZ, hZZ⟩ : ∃ ZZ, (Cs.of fun x => decide ((lo : Int) ≤ (x : Int) ∧ (x : Int) ≤ (lo : Int))) = ZZ := ⟨_, rfl⟩
            rw [hZZ] at HRG
            have hlw : IntKind.i64.wrap (lo : Int) = (lo : Int) := IntWalk.i64_in _ (by omega)
            have hhw : IntKind.i64.wrap (lo : Int) = (lo : Int) := IntWalk.i64_in _ (by omega)
            obtain ⟨r0, r1, r2, r3, hr4⟩ := Cs.okFour (Cs.ok_of (Rp.joinTo p lo lo))
            have HR4 := Lib.hid hr4
            have HJN := Lib.hid (fun W => Rp.clJoin_to p lo lo HQ.out HR4.out W)
            rw [hZZ] at HJN
            clear hr4 hZZ
            have HSJ := Lib.hid HS.out.drew
            obtain ⟨z0, z1, z2, z3⟩ := Cs.at4 HSJ.out 1 rfl
            go_wp2
            refine wp_region_held_drew (S := (fun w' => True)) (by kernel_rfl) ?_ (fun hHeld => ?_)
            · (try dsimp only); (first | trivial | skip)

            refine wpAnyH_take (i := 1) (v := ?_) rfl (by kernel_rfl) (by kernel_rfl) (by kernel_rfl) (fun _ _ _ h => h) (Or.inl ⟨by rfl, ?_⟩) (by assumption) ?_
            rotate_left; focus (intro w hSw; (try dsimp only at hSw); go_simp; try (with_reducible rfl); done)
            try simp only [List.getElem_toArray, List.getElem_cons_zero, List.getElem_cons_succ, Act.put, List.setIfInBounds_toArray, List.set_cons_zero, List.set_cons_succ]
            refine wpAnyH_take (i := 2) (v := ?_) rfl (by kernel_rfl) (by kernel_rfl) (by kernel_rfl) (fun _ _ _ h => h) (Or.inl ⟨by rfl, ?_⟩) (by assumption) ?_
            rotate_left; focus (intro w hSw; (try dsimp only at hSw); go_simp; try (with_reducible rfl); done)
            try simp only [List.getElem_toArray, List.getElem_cons_zero, List.getElem_cons_succ, Act.put, List.setIfInBounds_toArray, List.set_cons_zero, List.set_cons_succ]
            refine wpAnyH_take (i := 3) (v := ?_) rfl (by kernel_rfl) (by kernel_rfl) (by kernel_rfl) (fun _ _ _ h => h) (Or.inl ⟨by rfl, ?_⟩) (by assumption) ?_
            rotate_left; focus (intro w hSw; (try dsimp only at hSw); go_simp; try (with_reducible rfl); done)
            try simp only [List.getElem_toArray, List.getElem_cons_zero, List.getElem_cons_succ, Act.put, List.setIfInBounds_toArray, List.set_cons_zero, List.set_cons_succ]
            refine wpAnyH_take (i := 4) (v := ?_) rfl (by kernel_rfl) (by kernel_rfl) (by kernel_rfl) (fun _ _ _ h => h) (Or.inl ⟨by rfl, ?_⟩) (by assumption) ?_
            rotate_left; focus (intro w hSw; (try dsimp only at hSw); go_simp; try (with_reducible rfl); done)
            try simp only [List.getElem_toArray, List.getElem_cons_zero, List.getElem_cons_succ, Act.put, List.setIfInBounds_toArray, List.set_cons_zero, List.set_cons_succ]
            refine wpAnyH_ready (rs := [0, 5]) (by kernel_rfl) (by simp) ?_
            refine AllReadyH.cons rfl (fun K hK => ?_) (AllReadyH.cons rfl (fun K hK => ?_) (AllReadyH.nil))
            · skip
              go_simp
              refine hK.out _ _ ?_ (fun hHeld => ?_)
              · (try dsimp only); (first | trivial | skip)
              clear hK K
              try simp only [List.getElem_toArray, List.getElem_cons_zero, List.getElem_cons_succ, Act.put, List.setIfInBounds_toArray, List.set_cons_zero, List.set_cons_succ]
              refine wpAnyH_ready (rs := [5]) (by kernel_rfl) (by simp) ?_
              refine AllReadyH.cons rfl (fun K hK => ?_) (AllReadyH.nil)
              go_simp
              (go_at_call 206; refine (HRG.out _).mono ?_; rintro ex w7 ⟨rfl, hb7⟩; have HS1 := Lib.hid (HSJ.out.call hb7); clear hb7; clear z0 z1 z2 z3; obtain ⟨z0, z1, z2, z3⟩ := Cs.at4 HS1.out 1 rfl)
              refine hK.out _ _ ?_ (fun hHeld => ?_)
              · (try dsimp only); (first | trivial | skip)
              clear hK K
              try simp only [List.getElem_toArray, List.getElem_cons_zero, List.getElem_cons_succ, Act.put, List.setIfInBounds_toArray, List.set_cons_zero, List.set_cons_succ]
              refine wpAnyH_ready (rs := [6]) (by kernel_rfl) (by simp) ?_
              refine AllReadyH.cons rfl (fun K hK => ?_) (AllReadyH.nil)
              go_simp
              (go_at_call 222; refine (HJN.out _).mono ?_; rintro ex w8 ⟨rfl, hb8⟩; have HS2 := Lib.hid (HS1.out.call hb8); clear hb8; clear z0 z1 z2 z3; obtain ⟨z0, z1, z2, z3⟩ := Cs.at4 HS2.out 1 rfl; have y0 := (HS2.out.nth 1 rfl).celFree 0; have y1 := (HS2.out.nth 1 rfl).celFree 1; have y2 := (HS2.out.nth 1 rfl).celFree 2; have y3 := (HS2.out.nth 1 rfl).celFree 3)
              refine hK.out _ _ ?_ (fun hHeld => ?_)
              · (try dsimp only); (first | trivial | skip)
              clear hK K
              try simp only [List.getElem_toArray, List.getElem_cons_zero, List.getElem_cons_succ, Act.put, List.setIfInBounds_toArray, List.set_cons_zero, List.set_cons_succ]
              refine wpAnyH_ready (rs := [7]) (by kernel_rfl) (by simp) ?_
              refine AllReadyH.cons rfl (fun K hK => ?_) (AllReadyH.nil)
              go_simp
              refine hK.out _ _ ?_ (fun hHeld => ?_)
              · (try dsimp only); (first | trivial | skip)
              clear hK K
              try simp only [List.getElem_toArray, List.getElem_cons_zero, List.getElem_cons_succ, Act.put, List.setIfInBounds_toArray, List.set_cons_zero, List.set_cons_succ]
              refine wpAnyH_done (by kernel_rfl) ?_ _
              have HS3 := Lib.hid ((((HS2.out.get2.setCel 0 (.int .u64 r0)).setCel 1 (.int .u64 r1)).setCel 2 (.int .u64 r2)).setCel 3 (.int .u64 r3)).get2
              go_wp2
              go_roundg (s.size + 1 - b1)
              case rel => exact .inl ⟨n + 1, Rp.joinTo p lo lo, b1, f, by go_num, by omega, by omega, rfl, HRES, by omega, by rw [HR4.out]; exact HS3.out⟩
              case measure => have := HGK.out; omega
            · skip
              go_simp
              (go_at_call 206; refine (HRG.out _).mono ?_; rintro ex w7 ⟨rfl, hb7⟩; have HS1 := Lib.hid (HSJ.out.call hb7); clear hb7; clear z0 z1 z2 z3; obtain ⟨z0, z1, z2, z3⟩ := Cs.at4 HS1.out 1 rfl)
              refine hK.out _ _ ?_ (fun hHeld => ?_)
              · (try dsimp only); (first | trivial | skip)
              clear hK K
              try simp only [List.getElem_toArray, List.getElem_cons_zero, List.getElem_cons_succ, Act.put, List.setIfInBounds_toArray, List.set_cons_zero, List.set_cons_succ]
              refine wpAnyH_ready (rs := [0]) (by kernel_rfl) (by simp) ?_
              refine AllReadyH.cons rfl (fun K hK => ?_) (AllReadyH.nil)
              go_simp
              refine hK.out _ _ ?_ (fun hHeld => ?_)
              · (try dsimp only); (first | trivial | skip)
              clear hK K
              try simp only [List.getElem_toArray, List.getElem_cons_zero, List.getElem_cons_succ, Act.put, List.setIfInBounds_toArray, List.set_cons_zero, List.set_cons_succ]
              refine wpAnyH_ready (rs := [6]) (by kernel_rfl) (by simp) ?_
              refine AllReadyH.cons rfl (fun K hK => ?_) (AllReadyH.nil)
              go_simp
              (go_at_call 222; refine (HJN.out _).mono ?_; rintro ex w8 ⟨rfl, hb8⟩; have HS2 := Lib.hid (HS1.out.call hb8); clear hb8; clear z0 z1 z2 z3; obtain ⟨z0, z1, z2, z3⟩ := Cs.at4 HS2.out 1 rfl; have y0 := (HS2.out.nth 1 rfl).celFree 0; have y1 := (HS2.out.nth 1 rfl).celFree 1; have y2 := (HS2.out.nth 1 rfl).celFree 2; have y3 := (HS2.out.nth 1 rfl).celFree 3)
              refine hK.out _ _ ?_ (fun hHeld => ?_)
              · (try dsimp only); (first | trivial | skip)
              clear hK K
              try simp only [List.getElem_toArray, List.getElem_cons_zero, List.getElem_cons_succ, Act.put, List.setIfInBounds_toArray, List.set_cons_zero, List.set_cons_succ]
              refine wpAnyH_ready (rs := [7]) (by kernel_rfl) (by simp) ?_
              refine AllReadyH.cons rfl (fun K hK => ?_) (AllReadyH.nil)
              go_simp
              refine hK.out _ _ ?_ (fun hHeld => ?_)
              · (try dsimp only); (first | trivial | skip)
              clear hK K
              try simp only [List.getElem_toArray, List.getElem_cons_zero, List.getElem_cons_succ, Act.put, List.setIfInBounds_toArray, List.set_cons_zero, List.set_cons_succ]
              refine wpAnyH_done (by kernel_rfl) ?_ _
              have HS3 := Lib.hid ((((HS2.out.get2.setCel 0 (.int .u64 r0)).setCel 1 (.int .u64 r1)).setCel 2 (.int .u64 r2)).setCel 3 (.int .u64 r3)).get2
              go_wp2
              go_roundg (s.size + 1 - b1)
              case rel => exact .inl ⟨n + 1, Rp.joinTo p lo lo, b1, f, by go_num, by omega, by omega, rfl, HRES, by omega, by rw [HR4.out]; exact HS3.out⟩
              case measure => have := HGK.out; omega
    · -- what is wrong ends the loop
      have hres := HRES.out
      subst hres
      obtain ⟨he0, hene⟩ := Rp.six_or hee
      have hpp : pp ≤ s.size := HFIT.out.2
      have HRE := Lib.hid (show Rp.Ends s (.error (e, pp)) p pp e from .inr ⟨hene, rfl⟩)
      have HS := Lib.hid hst
      clear hst hee hene
      obtain ⟨c0, c1, c2, c3, f1, f2, f3⟩ := Rp.rdAt HS.out
      obtain ⟨q0, q1, q2, q3, hq⟩ := Cs.okFour (Cs.ok_of p)
      have HQ := Lib.hid hq
      have hsq := HS.out
      rw [hq] at hsq
      have HS := Lib.hid hsq
      clear hsq hq
      obtain ⟨z0, z1, z2, z3⟩ := Cs.at4 HS.out 1 rfl
      cases nt with
      | true =>
        obtain ⟨r0, r1, r2, r3, hr4⟩ := Cs.okFour (Rp.ok4_cls true p)
        have HNOT := Lib.hid (fun W => Rp.clNot_to p HQ.out hr4 W)
        have HR4 := Lib.hid hr4
        clear hr4
        go_wp2_with (fail)
        go_at_call 205
        refine (HNOT.out _).mono ?_
        rintro ex w5 ⟨rfl, hb5⟩
        have HS := Lib.hid (HS.out.call hb5)
        clear hb5 z0 z1 z2 z3
        obtain ⟨z0, z1, z2, z3⟩ := Cs.at4 HS.out 1 rfl
        have y0 := (HS.out.nth 1 rfl).celFree 0
        have y1 := (HS.out.nth 1 rfl).celFree 1
        have y2 := (HS.out.nth 1 rfl).celFree 2
        have y3 := (HS.out.nth 1 rfl).celFree 3
        have HSN := Lib.hid ((((HS.out.get2.setCel 0 (.int .u64 r0)).setCel 1 (.int .u64 r1)).setCel 2 (.int .u64 r2)).setCel 3 (.int .u64 r3)).get2
        clear HS
        have HS := HSN
        clear HSN
        have HEQ := fun W => Rx.eqz (a0 := r0) (a1 := r1) (a2 := r2) (a3 := r3) W
        by_cases hz : Rp.clsW true p = Dm.zero
        · rw [decide_eq_true (by rw [← HR4.out]; exact hz)] at HEQ
          have HZ := Lib.hid hz
          clear hz
          go_wp2_with (fail)
          go_at_call 53
          refine (rpFail_any s pp op e 6 R w0 _ _ HS.out).mono ?_
          rintro ex w6 ⟨rfl, hst⟩
          go_wp2_with (fail)
          go_at_call 116
          refine (rpTake_any s pp op (Rp.errOf e 6) 93 R w0 _ _ hst (by decide) hpp hs).mono ?_
          rintro ex w7 ⟨rfl, hst7⟩
          rw [Rp.tk_no (Rp.isB_bad (Rp.errOf_ne e))] at hst7
          clear hst HS
          obtain ⟨u0, u1, u2, u3⟩ := Cs.at4 hst7 1 rfl
          obtain ⟨x0, x1, x2, x3⟩ := Cs.at4 (a := 0) (b := 0) (c := 0) (d := 0) hst7 2 rfl
          have v0 := (hst7.nth 2 rfl).celFree 0
          have v1 := (hst7.nth 2 rfl).celFree 1
          have v2 := (hst7.nth 2 rfl).celFree 2
          have v3 := (hst7.nth 2 rfl).celFree 3
          have HS9 := Lib.hid (((((hst7.pick [2, 0, 1] 3 rfl rfl).setCel 0 (.int .u64 r0)).setCel 1 (.int .u64 r1)).setCel 2 (.int .u64 r2)).setCel 3 (.int .u64 r3))
          clear hst7
          go_wp2
          refine bodyPost_ret (results_row rfl _ _ w.heap.size 24 _ _ rfl (HS9.out.heapAt 0 rfl) Try.underlying24 rfl (by kernel_rfl)) rfl ?_
          exact Rp.leftC_zero (c := [r0, r1, r2, r3]) HRE.out HZ.out (by rw [← HR4.out]; exact Rp.ok4_cls true p) rfl (HS9.out.pick [1] 3 rfl rfl)
        · rw [decide_eq_false (by rw [← HR4.out]; exact hz)] at HEQ
          have HZ := Lib.hid hz
          clear hz
          go_wp2_with (fail)
          go_at_call 116
          refine (rpTake_any s pp op e 93 R w0 _ _ HS.out (by decide) hpp hs).mono ?_
          rintro ex w7 ⟨rfl, hst7⟩
          clear HS
          obtain ⟨u0, u1, u2, u3⟩ := Cs.at4 hst7 1 rfl
          obtain ⟨x0, x1, x2, x3⟩ := Cs.at4 (a := 0) (b := 0) (c := 0) (d := 0) hst7 2 rfl
          have v0 := (hst7.nth 2 rfl).celFree 0
          have v1 := (hst7.nth 2 rfl).celFree 1
          have v2 := (hst7.nth 2 rfl).celFree 2
          have v3 := (hst7.nth 2 rfl).celFree 3
          have HS9 := Lib.hid (((((hst7.pick [2, 0, 1] 3 rfl rfl).setCel 0 (.int .u64 r0)).setCel 1 (.int .u64 r1)).setCel 2 (.int .u64 r2)).setCel 3 (.int .u64 r3))
          clear hst7
          go_wp2
          refine bodyPost_ret (results_row rfl _ _ w.heap.size 24 _ _ rfl (HS9.out.heapAt 0 rfl) Try.underlying24 rfl (by kernel_rfl)) rfl ?_
          exact Rp.leftC_some HRE.out HZ.out (by rw [HR4.out]; rfl) (HS9.out.pick [1] 3 rfl rfl)
      | false =>
        have HR4 := Lib.hid (show Rp.clsW false p = [q0, q1, q2, q3] from by rw [Rp.clsW_false, HQ.out])
        have HEQ := fun W => Rx.eqz (a0 := q0) (a1 := q1) (a2 := q2) (a3 := q3) W
        by_cases hz : Rp.clsW false p = Dm.zero
        · rw [decide_eq_true (by rw [← HR4.out]; exact hz)] at HEQ
          have HZ := Lib.hid hz
          clear hz
          go_wp2_with (fail)
          go_at_call 53
          refine (rpFail_any s pp op e 6 R w0 _ _ HS.out).mono ?_
          rintro ex w6 ⟨rfl, hst⟩
          go_wp2_with (fail)
          go_at_call 116
          refine (rpTake_any s pp op (Rp.errOf e 6) 93 R w0 _ _ hst (by decide) hpp hs).mono ?_
          rintro ex w7 ⟨rfl, hst7⟩
          rw [Rp.tk_no (Rp.isB_bad (Rp.errOf_ne e))] at hst7
          clear hst HS
          obtain ⟨u0, u1, u2, u3⟩ := Cs.at4 hst7 1 rfl
          obtain ⟨x0, x1, x2, x3⟩ := Cs.at4 (a := 0) (b := 0) (c := 0) (d := 0) hst7 2 rfl
          have v0 := (hst7.nth 2 rfl).celFree 0
          have v1 := (hst7.nth 2 rfl).celFree 1
          have v2 := (hst7.nth 2 rfl).celFree 2
          have v3 := (hst7.nth 2 rfl).celFree 3
          have HS9 := Lib.hid (((((hst7.pick [2, 0, 1] 3 rfl rfl).setCel 0 (.int .u64 q0)).setCel 1 (.int .u64 q1)).setCel 2 (.int .u64 q2)).setCel 3 (.int .u64 q3))
          clear hst7
          go_wp2
          refine bodyPost_ret (results_row rfl _ _ w.heap.size 24 _ _ rfl (HS9.out.heapAt 0 rfl) Try.underlying24 rfl (by kernel_rfl)) rfl ?_
          exact Rp.leftC_zero (c := [q0, q1, q2, q3]) HRE.out HZ.out (by rw [← HR4.out]; exact Rp.ok4_cls false p) rfl (HS9.out.pick [1] 3 rfl rfl)
        · rw [decide_eq_false (by rw [← HR4.out]; exact hz)] at HEQ
          have HZ := Lib.hid hz
          clear hz
          go_wp2_with (fail)
          go_at_call 116
          refine (rpTake_any s pp op e 93 R w0 _ _ HS.out (by decide) hpp hs).mono ?_
          rintro ex w7 ⟨rfl, hst7⟩
          clear HS
          obtain ⟨u0, u1, u2, u3⟩ := Cs.at4 hst7 1 rfl
          obtain ⟨x0, x1, x2, x3⟩ := Cs.at4 (a := 0) (b := 0) (c := 0) (d := 0) hst7 2 rfl
          have v0 := (hst7.nth 2 rfl).celFree 0
          have v1 := (hst7.nth 2 rfl).celFree 1
          have v2 := (hst7.nth 2 rfl).celFree 2
          have v3 := (hst7.nth 2 rfl).celFree 3
          have HS9 := Lib.hid (((((hst7.pick [2, 0, 1] 3 rfl rfl).setCel 0 (.int .u64 q0)).setCel 1 (.int .u64 q1)).setCel 2 (.int .u64 q2)).setCel 3 (.int .u64 q3))
          clear hst7
          go_wp2
          refine bodyPost_ret (results_row rfl _ _ w.heap.size 24 _ _ rfl (HS9.out.heapAt 0 rfl) Try.underlying24 rfl (by kernel_rfl)) rfl ?_
          exact Rp.leftC_some HRE.out HZ.out (by rw [HR4.out]; rfl) (HS9.out.pick [1] 3 rfl rfl)

end Go.Proofs.Ytfelikfppjlcmaa

/-
  Regular expressions that the call makes. (A helper text; it claims nothing of the program.)
-/
namespace Go.Proofs.Ytfelikfppjlcmaa
set_option linter.unusedVariables false
set_option linter.unusedSimpArgs false
open Go.ChangeShapes Go.WideShapes Go.ChangeAt Go.RowKit

namespace Rp
/-- A word of its class. -/
def cw (t : Rx) (i : Nat) : Int := t.cls.getD i 0
/-- A tree's own cells. -/
def rxA (t : Rx) (ao : Option Addr) (c : Nat) : Array Value := #[.int .i64 t.kind, .int .u64 (cw t 0), .int .u64 (cw t 1), .int .u64 (cw t 2), .int .u64 (cw t 3), .slice ao t.kids.length c]
/-- Its kids, in the blocks fp. -/
def kidsA (fp : List Nat) (ao : Option Addr) (c : Nat) (t : Rx) : Asrt := aEnc (Rx.any.sl 64) fp [.slice ao t.kids.length c] t.kids
def Fine (t : Rx) : Prop := (Lit.int .i64 t.kind).wf = true ∧ Rx.ClsOk t.cls
theorem rxA_cells {t : Rx} (h : Fine t) (ao : Option Addr) (c : Nat) : (rxA t ao c).toList = Rx.cells t (.slice ao t.kids.length c) := by
  obtain ⟨a, b, d, e, hc⟩ := Rx.cls4 h.2
  unfold rxA Rx.cells cw
  rw [hc]
  rfl
theorem rxA_any {t : Rx} (h : Fine t) {F : Nat → Prop} {w : World} {ao : Option Addr} {c : Nat} (hk : (Rx.any.sl 64).R F w [.slice ao t.kids.length c] t.kids) : Rx.any.R F w (rxA t ao c).toList t := by
  rw [rxA_cells h]
  obtain ⟨k, cl, ks⟩ := t
  exact Rx.any_mk h.1 h.2 hk
theorem any_rxA {t : Rx} {F : Nat → Prop} {w : World} {cs : List Value} (h : Rx.any.R F w cs t) : ∃ ao c, cs = (rxA t ao c).toList ∧ Fine t ∧ (Rx.any.sl 64).R F w [.slice ao t.kids.length c] t.kids := by
  obtain ⟨vk, h1, h2, h3, h4⟩ := Rx.any_open h
  have h5 := h4
  obtain ⟨ao, b, off, c, hv, _⟩ := h5
  simp only [List.cons.injEq, and_true] at hv
  subst hv
  refine ⟨ao, c, ?_, ⟨h2, h3⟩, h4⟩
  rw [rxA_cells ⟨h2, h3⟩]
  exact h1
theorem clsOk_ints {ws : List Nat} (h : Dm.Ok4 ws) : Rx.ClsOk (ints ws) := by
  refine ⟨by simp [ints, h.len], fun x hx => ?_⟩
  obtain ⟨n, hn, rfl⟩ := List.mem_map.1 hx
  obtain ⟨i, hi, rfl⟩ := List.getElem_of_mem hn
  have := h.lt i
  rw [List.getD_eq_getElem?_getD, List.getElem?_eq_getElem hi] at this
  simp only [Option.getD_some] at this
  have e : (2 : Nat) ^ 64 = 18446744073709551616 := rfl
  rw [e] at this
  simp [Lit.wf, IntKind.min, IntKind.max, IntKind.signed, IntKind.bits]
  omega
theorem zero_ok : Dm.Ok4 Dm.zero := Dm.ok_zero
theorem wf_small {k : Int} (h0 : 0 ≤ k) (h1 : k ≤ 10) : (Lit.int .i64 k).wf = true := WalkArith.wf_i64 ⟨by omega, by omega⟩
theorem fine_mk {k : Int} {ws : List Nat} {l : List Rx} (h0 : 0 ≤ k) (h1 : k ≤ 10) (h : Dm.Ok4 ws) : Fine (.mk k (ints ws) l) := ⟨wf_small h0 h1, clsOk_ints h⟩
theorem fine_two {k : Int} {a b : Rx} (h0 : 0 ≤ k) (h1 : k ≤ 10) : Fine (two k a b) := fine_mk h0 h1 zero_ok
theorem fine_star {a : Rx} : Fine (star a) := fine_mk (by decide) (by decide) zero_ok
theorem fine_empty : Fine empty := fine_mk (by decide) (by decide) zero_ok
theorem fine_none : Fine none_ := fine_mk (by decide) (by decide) zero_ok
theorem fine_byte {c : List Nat} (h : Dm.Ok4 c) : Fine (byte c) := fine_mk (by decide) (by decide) h
/-- One kid in a block. -/
theorem kids1 {F : Nat → Prop} {w : World} {g : Nat} {T : TypeId} {a : Rx} {ao : Option Addr} {c : Nat} (hg : w.heap[g]? = some (.cells (rxA a ao c) T (0, 0))) (hF : F g) (hf : Fine a) (hk : (Rx.any.sl 64).R F w [.slice ao a.kids.length c] a.kids) :
    (Rx.any.sl 64).R F w [.slice (some ⟨g, 0, none⟩) 1 1] [a] := by
  refine ⟨_, g, 0, 1, rfl, Nat.le_refl 1, by decide, (by show (1 : Int) * 64 ≤ _; decide), (fun h => by cases h), fun _ => ⟨rfl, (Array.getElem?_eq_some_iff.1 hg).1, hF⟩, fun i hi => ?_⟩
  obtain rfl : i = 0 := by simpa using hi
  refine ⟨(rxA a ao c).toList, rfl, fun j hj => ?_, rxA_any hf hk⟩
  rw [Nat.zero_mul, Nat.zero_add]
  simp [World.cell?, hg]
/-- Two kids in a block. -/
theorem kids2 {F : Nat → Prop} {w : World} {g : Nat} {T : TypeId} {a b : Rx} {ao bo : Option Addr} {c d : Nat} (hg : w.heap[g]? = some (.cells (rxA a ao c ++ rxA b bo d) T (0, 0))) (hF : F g) (hf : Fine a) (hf2 : Fine b) (hk : (Rx.any.sl 64).R F w [.slice ao a.kids.length c] a.kids) (hk2 : (Rx.any.sl 64).R F w [.slice bo b.kids.length d] b.kids) :
    (Rx.any.sl 64).R F w [.slice (some ⟨g, 0, none⟩) 2 2] [a, b] := by
  refine ⟨_, g, 0, 2, rfl, Nat.le_refl 2, by decide, (by show (2 : Int) * 64 ≤ _; decide), (fun h => by cases h), fun _ => ⟨rfl, (Array.getElem?_eq_some_iff.1 hg).1, hF⟩, fun i hi => ?_⟩
  have hsz : (rxA a ao c).size = 6 := rfl
  have hi2 : i = 0 ∨ i = 1 := by
    have : i < 2 := hi
    omega
  rcases hi2 with rfl | rfl
  · refine ⟨(rxA a ao c).toList, rfl, fun j hj => ?_, rxA_any hf hk⟩
    have hj6 : j < 6 := hj
    rw [Nat.zero_mul, Nat.zero_add]
    simp only [World.cell?, hg]
    rw [Array.getElem?_append_left (by rw [hsz]; exact hj6)]
    simp
  · refine ⟨(rxA b bo d).toList, rfl, fun j hj => ?_, rxA_any hf2 hk2⟩
    have hj6 : j < 6 := hj
    rw [Nat.one_mul, Nat.zero_add]
    show w.cell? ⟨g, 6 + j, none⟩ = _
    simp only [World.cell?, hg]
    rw [Array.getElem?_append_right (by rw [hsz]; omega), hsz]
    simp
theorem St.star {w0 w : World} {μ : List Asrt} {g : Nat} {T : TypeId} {a : Rx} {ao : Option Addr} {c : Nat} {fp : List Nat} (h : St w0 w (aCel g T (rxA a ao c) :: kidsA fp ao c a :: μ)) (hf : Fine a) : St w0 w (kidsA (g :: fp) (some ⟨g, 0, none⟩) 1 (star a) :: μ) := by
  refine h.merge rfl (fun h1 h2 => ?_)
  exact kids1 h1 (.head _) hf (Enc.mono (Rx.any.sl 64) h2 (fun b hb => List.mem_cons_of_mem _ hb) (fun _ _ => rfl))
theorem St.two {w0 w : World} {μ : List Asrt} {g : Nat} {T : TypeId} {a b : Rx} {ao bo : Option Addr} {c d : Nat} {fp fq : List Nat} {k : Int} (h : St w0 w (aCel g T (rxA a ao c ++ rxA b bo d) :: kidsA fp ao c a :: kidsA fq bo d b :: μ)) (hf : Fine a) (hf2 : Fine b) :
    St w0 w (kidsA (g :: (fp ++ fq)) (some ⟨g, 0, none⟩) 2 (two k a b) :: μ) := by
  have h2 : St w0 w (aAll [kidsA fp ao c a, kidsA fq bo d b] :: aCel g T (rxA a ao c ++ rxA b bo d) :: μ) := by
    have h3 := ((h.pick [1, 2, 0] 3 (ρ := kidsA fp ao c a :: kidsA fq bo d b :: aCel g T (rxA a ao c ++ rxA b bo d) :: μ) rfl (by simp)))
    exact h3.merge (by simp [aAll]) (fun h1 h2 B hB => by
      rcases List.mem_cons.1 hB with rfl | hB
      · exact h1
      · rw [List.mem_singleton.1 hB]; exact h2)
  refine h2.get2.merge (by simp [aAll]; rfl) (fun h1 h2 => ?_)
  refine kids2 h1 (.head _) hf hf2 (Enc.mono (Rx.any.sl 64) (h2 _ (.head _)) (fun b hb => ?_) (fun _ _ => rfl)) (Enc.mono (Rx.any.sl 64) (h2 _ (.tail _ (.head _))) (fun b hb => ?_) (fun _ _ => rfl))
  · exact List.mem_cons_of_mem _ (List.mem_append.2 (.inl hb))
  · exact List.mem_cons_of_mem _ (List.mem_append.2 (.inr hb))
/-- No kids. -/
theorem St.leaf {w0 w : World} {μ : List Asrt} (h : St w0 w μ) {k : Int} {c : List Int} : St w0 w (kidsA [] none 0 (.mk k c []) :: μ) :=
  h.push (Below.refl _ _) Rx.sl_nil (fun b hb => by cases hb) (by simp [kidsA, aEnc])
end Rp

set_option maxRecDepth 100000 in
theorem rpTwo_any (k : Int) (hk0 : 0 ≤ k) (hk1 : k ≤ 10) (a b : Rx) (ao bo : Option Addr) (c d : Nat) (fp fq : List Nat) (hfa : Rp.Fine a) (hfb : Rp.Fine b) (w0 w : World) (μ : List Asrt) (h : St w0 w (Rp.kidsA fp ao c a :: Rp.kidsA fq bo d b :: μ)) :
    Calls Try.prog 117 #[.int .i64 k, .agg (Rp.rxA a ao c), .agg (Rp.rxA b bo d)] w fun ex w' => ∃ g fr, ex = .returned (.agg (Rp.rxA (Rp.two k a b) (some ⟨g, 0, none⟩) 2)) ∧ St w0 w' (Rp.kidsA fr (some ⟨g, 0, none⟩) 2 (Rp.two k a b) :: μ) := by
  have hst := (((h.alloc (Rp.rxA a ao c) 27).alloc (Rp.rxA b bo d) 27).alloc (Rp.rxA (Rp.two k a b) (some ⟨w.heap.size + 1 + 1 + 1, 0, none⟩) 2) 27).alloc (Rp.rxA a ao c ++ Rp.rxA b bo d) 27
  simp only [World.size_alloc] at hst
  have HST := Lib.hid hst
  clear h hst
  unfold Rp.rxA
  go_enter Try.func117, Try.ntmps117
  go_wp2
  refine bodyPost_ret (results_row rfl _ _ (w.heap.size + 1 + 1) 27 _ _ rfl (HST.out.heapAt 1 rfl) Try.underlying27 rfl (by kernel_rfl)) rfl ?_
  exact ⟨w.heap.size + 1 + 1 + 1, _, rfl, Rp.St.two (HST.out.pick (ρ := aCel (w.heap.size + 1 + 1 + 1) 27 (Rp.rxA a ao c ++ Rp.rxA b bo d) :: Rp.kidsA fp ao c a :: Rp.kidsA fq bo d b :: μ) [0, 4, 5] 6 rfl rfl) hfa hfb⟩
end Go.Proofs.Ytfelikfppjlcmaa

/-
  size of package rex: the nodes of a tree.
-/
namespace Go.Proofs.Ytfelikfppjlcmaa
set_option linter.unusedVariables false
set_option linter.unusedSimpArgs false
open Go.ChangeShapes Go.WideShapes Go.ChangeAt Go.RowKit

namespace Rp
theorem enc_open {n : Nat} {F : Nat → Prop} {w : World} {cs : List Value} {t : Rx} (h : (Rx.enc n).R F w cs t) : ∃ m, n = m + 1 ∧ ∃ ao c, cs = (rxA t ao c).toList ∧ Fine t ∧ ((Rx.enc m).sl 64).R F w [.slice ao t.kids.length c] t.kids := by
  obtain ⟨ao, c, h1, h2, -⟩ := any_rxA ⟨n, h⟩
  obtain ⟨m, hm, vk, h3, -, -, h4⟩ := Rx.opened h
  refine ⟨m, hm, ao, c, h1, h2, ?_⟩
  have e : vk = .slice ao t.kids.length c := by
    have h5 := h1.symm.trans h3
    have h6 := congrArg List.reverse h5
    simp only [rxA, Rx.cel, List.reverse_cons, List.reverse_append, List.reverse_nil, List.nil_append, List.singleton_append, List.cons_append] at h6
    exact (List.cons.inj h6).1.symm
  rw [← e]
  exact h4
theorem kidsR {n : Nat} {F : Nat → Prop} {w : World} {v : Value} {ks : List Rx} (h : ((Rx.enc n).sl 64).R F w [v] ks) :
    ∃ (ao : Option Addr) (b off cap : Nat), v = .slice ao ks.length cap ∧ (ks.length : Int) * 64 ≤ 140737488355328 ∧ (0 < ks.length → ao = some ⟨b, off, none⟩ ∧ b < w.heap.size ∧ F b) ∧
      ∀ i, i < ks.length → ∃ a c, (w.cell? ⟨b, off + i * 6, none⟩ = some (.int .i64 (ks.getD i Rx.nil).kind) ∧ w.cell? ⟨b, off + i * 6 + 1, none⟩ = some (.int .u64 (cw (ks.getD i Rx.nil) 0)) ∧ w.cell? ⟨b, off + i * 6 + 2, none⟩ = some (.int .u64 (cw (ks.getD i Rx.nil) 1)) ∧ w.cell? ⟨b, off + i * 6 + 3, none⟩ = some (.int .u64 (cw (ks.getD i Rx.nil) 2)) ∧ w.cell? ⟨b, off + i * 6 + 4, none⟩ = some (.int .u64 (cw (ks.getD i Rx.nil) 3)) ∧ w.cell? ⟨b, off + i * 6 + 5, none⟩ = some (.slice a (ks.getD i Rx.nil).kids.length c)) ∧ (Rx.enc n).R F w (rxA (ks.getD i Rx.nil) a c).toList (ks.getD i Rx.nil) := by
  obtain ⟨ao, b, off, cap, h0, h1, h2, h3⟩ := Enc.slN Rx.nil h
  refine ⟨ao, b, off, cap, h0, h1, h2, fun i hi => ?_⟩
  obtain ⟨cs, _, g2, g3⟩ := h3 i hi
  rw [Rx.enc_size] at g2
  obtain ⟨a, c, rfl, -, -⟩ := any_rxA ⟨n, g3⟩
  exact ⟨a, c, ⟨g2 0 (by decide), g2 1 (by decide), g2 2 (by decide), g2 3 (by decide), g2 4 (by decide), g2 5 (by decide)⟩, g3⟩
theorem sizs_drop (l : List Rx) (i : Nat) (h : i < l.length) : sizs (l.drop i) = siz (l.getD i Rx.nil) + sizs (l.drop (i + 1)) := by
  rw [Rx.drop_at l Rx.nil i h, sizs_cons]
theorem sizs_end (l : List Rx) (i : Nat) (h : ¬ i < l.length) : sizs (l.drop i) = 0 := by
  rw [List.drop_eq_nil_of_le (by omega), sizs_nil]
theorem siz_kids (t : Rx) : siz t = sizs t.kids + 1 := by cases t; rw [siz_mk]; rfl
theorem eq_rxA {cs : Array Value} {t : Rx} {ao : Option Addr} {c : Nat} (h : cs.toList = (rxA t ao c).toList) : cs = rxA t ao c := Array.toList_inj.1 h
end Rp

set_option maxRecDepth 100000 in
set_option maxHeartbeats 4000000 in
theorem rpSize_any (w0 : World) (F : Nat → Prop) :
    ∀ (n : Nat) (t : Rx) (cs : Array Value) (w : World), (Rx.enc n).R F w0 cs.toList t → Rp.siz t ≤ 1000000 → Below w0.heap.size w0 w →
      Calls Try.prog 178 #[.agg cs] w fun e w' => e = .returned (.int .i64 (Rp.siz t : Int)) ∧ Below w.heap.size w w' := by
  intro n
  induction n with
  | zero => intro t cs w h; exact h.elim
  | succ n ih =>
    intro t cs w ht hsz hbw
    obtain ⟨m, hm, ao, c, hcs, -, hk⟩ := Rp.enc_open ht
    obtain rfl : n = m := by omega
    obtain rfl := Rp.eq_rxA hcs
    obtain ⟨ak, bk, ok, ck, hv, hkl, k3, k4⟩ := Rp.kidsR hk
    simp only [Value.slice.injEq, true_and] at hv
    obtain ⟨rfl, rfl⟩ := hv
    rw [Rp.siz_kids] at hsz ⊢
    have HST := Lib.hid ((St.init w).alloc (Rp.rxA t ao c) 27)
    have HSZ := Lib.hid hsz
    have K3 := Lib.hid k3; have K4 := Lib.hid k4; have IH := Lib.hid ih; have HBW := Lib.hid hbw
    have c5 := HST.out.celAt (i := 5) rfl
    unfold Rp.rxA at HST c5 ⊢
    clear ht hm hcs hk k3 k4 ih hsz hbw
    generalize t.kind = kd at *
    generalize Rp.cw t 0 = q0 at *
    generalize Rp.cw t 1 = q1 at *
    generalize Rp.cw t 2 = q2 at *
    generalize Rp.cw t 3 = q3 at *
    generalize t.kids = ks at *
    go_enter Try.func178, Try.ntmps178
    go_wp2
    go_loopg [3, 9] ks.length (fun gk v3 v9 wr => ∃ i z : Nat, v9 = .int .i64 i ∧ v3 = .int .i64 z ∧ i ≤ ks.length ∧ gk = ks.length - i ∧ Hid (z + Rp.sizs (ks.drop i) = Rp.sizs ks + 1) ∧ St w wr (aCel w.heap.size 27 #[.int .i64 kd, .int .u64 q0, .int .u64 q1, .int .u64 q2, .int .u64 q3, .slice ao ks.length c] :: []))
    case atStart => exact ⟨0, 1, rfl, rfl, Nat.zero_le _, rfl, Lib.hid (by rw [List.drop_zero]; omega), HST.out⟩
    case round =>
      clear HST
      obtain ⟨i, z, rfl, rfl, hi, hgk, HZ, hst⟩ := hrel
      have HGK := Lib.hid hgk
      have HS := Lib.hid hst
      clear hst hgk
      by_cases hlt : i < ks.length
      · have hltI : (i : Int) < (ks.length : Int) := by omega
        obtain ⟨rfl, -, -⟩ := K3.out (by omega)
        obtain ⟨a', c', ⟨d0, d1, d2, d3, d4, d5⟩, hki⟩ := K4.out i hlt
        have hbel := HBW.out.trans (HS.out.bel.mono HBW.out.size)
        have d0 := bkeep hbel d0
        have d1 := bkeep hbel d1
        have d2 := bkeep hbel d2
        have d3 := bkeep hbel d3
        have d4 := bkeep hbel d4
        have d5 := bkeep hbel d5
        have hz := HZ.out
        rw [Rp.sizs_drop ks i hlt] at hz
        have hsz := HSZ.out
        have hle : Rp.siz (ks.getD i Rx.nil) ≤ 1000000 := by omega
        have hsum : IntKind.i64.wrap ((z : Int) + (Rp.siz (ks.getD i Rx.nil) : Int)) = ((z + Rp.siz (ks.getD i Rx.nil) : Nat) : Int) := by rw [IntWalk.i64_in _ (by omega)]; omega
        have hst2 := HS.out.alloc (Rp.rxA (ks.getD i Rx.nil) a' c') 27
        have HC := Lib.hid (IH.out (ks.getD i Rx.nil) _ (wr.alloc (.cells (Rp.rxA (ks.getD i Rx.nil) a' c') 27)) hki hle (HBW.out.trans (hst2.bel.mono HBW.out.size)))
        have HS2 := Lib.hid hst2
        have HZ2 := Lib.hid hz
        have hiw : IntKind.i64.wrap ((i : Int) + 1) = (i : Int) + 1 := IntWalk.i64_in _ (by omega)
        have h0i : (0 : Int) ≤ (i : Int) := by omega
        unfold Rp.rxA at HC HS2 hst2
        clear hst2 hz hsz hle hki hbel
        generalize (ks.getD i Rx.nil).kind = kd1 at *
        generalize Rp.cw (ks.getD i Rx.nil) 0 = p0 at *
        generalize Rp.cw (ks.getD i Rx.nil) 1 = p1 at *
        generalize Rp.cw (ks.getD i Rx.nil) 2 = p2 at *
        generalize Rp.cw (ks.getD i Rx.nil) 3 = p3 at *
        generalize (ks.getD i Rx.nil).kids.length = nk1 at *
        generalize Rp.siz (ks.getD i Rx.nil) = sz1 at *
        go_wp2_with (fail)
        go_at_call 178
        refine HC.out.mono ?_
        rintro ex w2 ⟨rfl, hb2⟩
        have HS3 := Lib.hid (HS2.out.call hb2)
        clear hb2
        go_wp2
        go_roundg (ks.length - (i + 1))
        case rel => exact ⟨i + 1, z + sz1, by go_num, rfl, by omega, rfl, Lib.hid (by have := HZ2.out; omega), HS3.out.pick [1] 2 rfl rfl⟩
        case measure => have := HGK.out; omega
      · have hz := HZ.out
        rw [Rp.sizs_end ks i hlt] at hz
        obtain rfl : z = Rp.sizs ks + 1 := by omega
        have hltI : ¬ (i : Int) < (ks.length : Int) := by omega
        go_wp2
        go_ret
        exact ⟨rfl, HS.out.bel⟩
end Go.Proofs.Ytfelikfppjlcmaa

/-
  m[k]++ of a map that the call made, at the steps of a region that draws its order; structs of two numbers as keys. (A helper text; it claims nothing of the program.)
-/
namespace Go.Proofs.Ytfelikfppjlcmaa
set_option linter.unusedVariables false
open Go.ChangeShapes Go.WideShapes Go.ChangeAt Go.RowKit Go.ChangeMaps

section
variable {P : Program} {k e t : TypeId} {w : World} {b n : Nat} {D : DataW Unit}
theorem entry_own (h : w.ownsMap P k (plainElem P e) b n D) (KL : WideMaps.KeyLaw P k) (ht : P.underlying t = some (.map k e)) (he : P.underlying e = some (.int .i64)) (hz : ∀ u : World, (zeroValue e).run P u = .ok (.int .i64 0) u) (hn : n < maxLen)
    {key : Value} {kl : Lit} (hkey : keyOf P k key = some kl) :
    ∃ (v0 : Value) (st : Nat) (es1 : Array MapEntry) (clock1 : Nat) (D1 : DataW Unit), (Instr.mapEntry t (.map (some b)) key).run P w = .ok (.tuple #[v0, goInt st]) (setBlock w b (.map es1 clock1)) ∧
      (setBlock w b (.map es1 clock1)).ownsMap P k (plainElem P e) b (n + 1) D1 ∧ D1.atKey kl (.lit (.int .i64 0)) = D.atKey kl (.lit (.int .i64 0)) ∧
      ∀ (w2 : World) (val : Value) (d : DataW Unit) (ps : List MemPlace), w2.heap[b]? = some (.map es1 clock1) → plainElem P e val = some (d, ps) → ∃ w3, (Instr.entryStore t (.map (some b)) (goInt st) val).run P w2 = .ok () w3 ∧ w3.ownsMap P k (plainElem P e) b (n + 1) (D.put kl d) ∧ w2.grownBy w3 (some b) := by
  have K := Maps.Keyed.of_law KL
  have h0 := h
  have hpz : plainElem (H := Unit) P e (.int .i64 0) = some (.lit (.int .i64 0), []) := plainElem_int he (by decide)
  obtain ⟨es, clock, hb, F, hs, hD⟩ := h
  obtain ⟨v0, st, es1, clock1, hrun, hcase, hstore⟩ := WideElems.entry_then_store KL ht hz hb F hkey
  have hsame : ∀ {c1 c2 : Nat} {x1 x2 : Array MapEntry}, setBlock w b (.map x1 c1) = setBlock w b (.map x2 c2) → x1 = x2 ∧ c1 = c2 := by
    intro c1 c2 x1 x2 hh
    have h1 := congrArg (fun u : World => u.heap[b]?) hh
    simp only [heap_setBlock_same hb] at h1
    simpa using h1
  have hst : ∀ (w2 : World) (val : Value) (d : DataW Unit) (ps : List MemPlace), w2.heap[b]? = some (.map es1 clock1) → plainElem P e val = some (d, ps) → ∃ w3, (Instr.entryStore t (.map (some b)) (goInt st) val).run P w2 = .ok () w3 ∧ w3.ownsMap P k (plainElem P e) b (n + 1) (D.put kl d) ∧ w2.grownBy w3 (some b) := by
    intro w2 val d ps hw2 hval
    obtain ⟨es', clock', g1, g2⟩ := hstore w2 val hw2
    obtain ⟨w', g3, g4, g5⟩ := h0.update K ht hn hkey hval
    rw [g2] at g3
    cases g3
    refine ⟨_, g1, ?_, ⟨rfl, rfl, rfl, by simp [setBlock], fun i _ hi => heap_setBlock_other hw2 _ (fun e => hi (by rw [e]))⟩⟩
    obtain ⟨xs, ck, q1, q2⟩ := g4
    refine ⟨xs, ck, ?_, q2⟩
    rw [heap_setBlock_same hb] at q1
    rw [heap_setBlock_same hw2]
    exact q1
  rcases KL.find w hkey es.toList F.keys with ⟨h1, h2⟩ | ⟨j, e0, h1, h2, h3⟩
  · have hrunE : (Instr.mapEntry t (.map (some b)) key).run P w = .ok (.tuple #[.int .i64 0, goInt clock]) (setBlock w b (.map (es.push ⟨key, .int .i64 0, clock⟩) (clock + 1))) := by
      simp [Instr.mapEntry, run_underlying ht, MapKept.run_getObj_map hb, KL.check w false hkey, h1, hz, MapKept.run_setObj_map _ hb, Result.andThen, setBlock]
    have hrunU : (Instr.mapUpdate t (.map (some b)) key (.int .i64 0)).run P w = .ok () (setBlock w b (.map (es.push ⟨key, .int .i64 0, clock⟩) (clock + 1))) := by
      simp [Instr.mapUpdate, run_underlying ht, MapKept.run_getObj_map hb, KL.check w false hkey, h1, MapKept.run_setObj_map _ hb, Result.andThen, setBlock]
    have hrunL : (Instr.lookup t (.map (some b)) key false).run P w = .ok (.int .i64 0) w := by
      obtain ⟨c, hl, _, _⟩ := h0.lookup_int K ht he (hz w) hkey
      rw [hl]
      have : (Instr.lookup t (.map (some b)) key false).run P w = .ok (.int .i64 0) w := by
        rcases Maps.fit_look false K ht (hz w) hb F hkey with ⟨hr, _, _⟩ | ⟨x0, _, hx0, hxk, _⟩
        · exact hr
        · exact absurd hxk (h2 x0 hx0)
      rw [← hl, this]
    obtain ⟨c, hl, hat, _⟩ := h0.lookup_int K ht he (hz w) hkey
    rw [hrunL] at hl
    cases hl
    obtain ⟨w', g3, g4, g5⟩ := h0.update K ht hn hkey hpz
    rw [hrunU] at g3
    cases g3
    rw [hrunE] at hrun
    have hq := Result.ok.inj hrun
    obtain ⟨e1, e2⟩ := hsame hq.2
    subst e1 e2
    refine ⟨v0, st, _, _, _, by rw [hrunE]; exact hrun, g4, ?_, hst⟩
    rw [Maps.atKey_put_same (by rw [hD]; exact ⟨_, rfl⟩) (K.key hkey), hat]
  · have hj : es[j]? = some e0 := by simpa using h2
    have hsm : es.modify j (fun e => { e with key := key }) = es := by
      apply Array.ext'
      rw [Array.toList_modify, modify_eq_set _ _ _ _ h2]
      have : ({ e0 with key := key } : MapEntry) = e0 := by rw [← h3]
      rw [this]
      exact WideElems.set_self _ _ _ h2
    have hrunE : (Instr.mapEntry t (.map (some b)) key).run P w = .ok (.tuple #[e0.val, goInt e0.born]) (setBlock w b (.map es clock)) := by
      simp [Instr.mapEntry, run_underlying ht, MapKept.run_getObj_map hb, KL.check w false hkey, h1, hj, h3, KL.stays w hkey, hsm, MapKept.run_setObj_map _ hb, Result.andThen, setBlock]
    rw [hrunE] at hrun
    have hq := Result.ok.inj hrun
    obtain ⟨e1, e2⟩ := hsame hq.2
    subst e1 e2
    exact ⟨v0, st, _, _, D, by rw [hrunE]; exact hrun, ⟨es, clock, heap_setBlock_same hb _, F, by omega, hD⟩, rfl, hst⟩
end

/-- A map whose entry at a key has been laid open, to be written. -/
def aEnt (k e t : TypeId) (b n : Nat) (D : DataW Unit) (kl : Lit) (st : Nat) : Asrt where
  fp := [b]
  ok := fun w => ∃ (es1 : Array MapEntry) (clock1 : Nat) (D1 : DataW Unit), w.heap[b]? = some (.map es1 clock1) ∧ w.ownsMap Try.prog k (plainElem Try.prog e) b (n + 1) D1 ∧ D1.atKey kl (.lit (.int .i64 0)) = D.atKey kl (.lit (.int .i64 0)) ∧
    ∀ (w2 : World) (val : Value) (d : DataW Unit) (ps : List MemPlace), w2.heap[b]? = some (.map es1 clock1) → plainElem Try.prog e val = some (d, ps) → ∃ w3, (Instr.entryStore t (.map (some b)) (goInt st) val).run Try.prog w2 = .ok () w3 ∧ w3.ownsMap Try.prog k (plainElem Try.prog e) b (n + 1) (D.put kl d) ∧ w2.grownBy w3 (some b)
  loc := fun w w' hb h => by
    obtain ⟨es1, clock1, D1, h1, ⟨xs, ck, q1, q2⟩, h3, h4⟩ := h
    have hh := hb b (by simp)
    exact ⟨es1, clock1, D1, hh.trans h1, ⟨xs, ck, hh.trans q1, q2⟩, h3, h4⟩

section
variable {w0 w : World} {μ : List Asrt} {k e t : TypeId} {b n : Nat} {D : DataW Unit} {ops : Array Oper} {rest : List Oper} {o : Oper} {a : Act} {K : Act → World → Prop} {Q : Exit → Act → World → Prop} {EE : Prop}
/-- A map's literal: an entry of it. -/
theorem St.insertOp (hgd : o.guard = none) (m x v : Operand) (hop : o.op = Op.insert t m x v) (KL : WideMaps.KeyLaw Try.prog k) (ht : Try.prog.underlying t = some (.map k e)) (h : St w0 w (aMap k e b n D :: μ)) (hn : n < maxLen) (hm : a.eval m = .map (some b)) (key val : Value) {kl : Lit} (hx : a.eval x = key) (hv : a.eval v = val) (hkey : keyOf Try.prog k key = some kl)
    (d : DataW Unit) (ps : List MemPlace) (hval : plainElem Try.prog e val = some (d, ps)) (hK : ∀ w', St w0 w' (aMap k e b (n + 1) (D.put kl d) :: μ) → wpList Try.prog ops Q rest (a.put o.dst undef) w') : wpList Try.prog ops Q (o :: rest) a w := by
  refine wpList_plain hgd fun K' hK' => ?_
  obtain ⟨w', hrun, r1, r2⟩ := h.mapOwn.update (Maps.Keyed.of_law KL) ht hn hkey hval
  unfold Oper.wp
  simp [execOp, hop, hm, hx, hv, hrun, Result.andThen]
  exact hK' _ _ (hK w' (h.mapPut r1 r2))
/-- m[k], at a step. -/
theorem St.stepLook (hgd : o.guard = none) (m x : Operand) (hop : o.op = Op.lookup t m x false) (KL : WideMaps.KeyLaw Try.prog k) (ht : Try.prog.underlying t = some (.map k e)) (he : Try.prog.underlying e = some (.int .i64)) (hz : ∀ u : World, (zeroValue e).run Try.prog u = .ok (.int .i64 0) u) (h : w.ownsMap Try.prog k (plainElem Try.prog e) b n D) (hm : a.eval m = .map (some b)) (key : Value) {kl : Lit} (hx : a.eval x = key) (hkey : keyOf Try.prog k key = some kl)
    (c : Int) (hc : D.atKey kl (.lit (.int .i64 0)) = .lit (.int .i64 c)) (hK : K (a.put o.dst (.int .i64 c)) w) : if Region.wanted o (yielded ops a.tmps) = true then Oper.wp Try.prog o a w K Q else EE := by
  have hw : Region.wanted o (yielded ops a.tmps) = true := by simp [Region.wanted, hgd]
  rw [if_pos hw]
  obtain ⟨c', hl, hat, _⟩ := h.lookup_int (Maps.Keyed.of_law KL) ht he (hz w) hkey
  rw [hc] at hat
  cases hat
  unfold Oper.wp
  simp [execOp, hop, hm, hx, hl, Result.andThen]
  exact hK
theorem St.stepLook2 (hgd : o.guard = none) (m x : Operand) (hop : o.op = Op.lookup t m x false) (KL : WideMaps.KeyLaw Try.prog k) (ht : Try.prog.underlying t = some (.map k e)) (he : Try.prog.underlying e = some (.int .i64)) (hz : ∀ u : World, (zeroValue e).run Try.prog u = .ok (.int .i64 0) u) {kl : Lit} {st : Nat} (h : St w0 w (aEnt k e t b n D kl st :: μ)) (hm : a.eval m = .map (some b)) (key : Value) (hx : a.eval x = key) (hkey : keyOf Try.prog k key = some kl)
    (c : Int) (hc : D.atKey kl (.lit (.int .i64 0)) = .lit (.int .i64 c)) (hK : K (a.put o.dst (.int .i64 c)) w) : if Region.wanted o (yielded ops a.tmps) = true then Oper.wp Try.prog o a w K Q else EE := by
  obtain ⟨es1, clock1, D1, h1, h2, h3, _⟩ := h.ok _ (.head _)
  exact St.stepLook hgd m x hop KL ht he hz h2 hm key hx hkey c (h3.trans hc) hK
/-- The entry at k, at a step. -/
theorem St.stepEntry (hgd : o.guard = none) (m x : Operand) (hop : o.op = Op.mapEntry t m x) (KL : WideMaps.KeyLaw Try.prog k) (ht : Try.prog.underlying t = some (.map k e)) (he : Try.prog.underlying e = some (.int .i64)) (hz : ∀ u : World, (zeroValue e).run Try.prog u = .ok (.int .i64 0) u) (h : St w0 w (aMap k e b n D :: μ)) (hn : n < maxLen) (hm : a.eval m = .map (some b)) (key : Value) {kl : Lit} (hx : a.eval x = key) (hkey : keyOf Try.prog k key = some kl)
    (hK : ∀ v0 st w', St w0 w' (aEnt k e t b n D kl st :: μ) → K (a.put o.dst (.tuple #[v0, goInt (st : Nat)])) w') : if Region.wanted o (yielded ops a.tmps) = true then Oper.wp Try.prog o a w K Q else EE := by
  have hw : Region.wanted o (yielded ops a.tmps) = true := by simp [Region.wanted, hgd]
  rw [if_pos hw]
  have hown := h.mapOwn
  obtain ⟨v0, st, es1, clock1, D1, hrun, g1, g2, g3⟩ := entry_own hown KL ht he hz hn hkey
  obtain ⟨es, clock, hb, _⟩ := hown
  unfold Oper.wp
  simp only [execOp, hop, hm, hx, Sem.run_bind, hrun, Result.andThen_ok, Sem.run_pure]
  refine hK v0 st _ (h.upd rfl rfl rfl (by simp [setBlock]) (fun i hi hm => heap_setBlock_other hb _ (fun e => hm (by simp [aMap, e]))) ⟨es1, clock1, D1, heap_setBlock_same hb _, g1, g2, g3⟩ (fun i hi => .inl hi) (by simp [aEnt]))
/-- It is written, at a step. -/
theorem St.stepEntryStore (hgd : o.guard = none) (m s v : Operand) (hop : o.op = Op.entryStore t m s v) {kl : Lit} {st : Nat} (h : St w0 w (aEnt k e t b n D kl st :: μ)) (hm : a.eval m = .map (some b)) (hs : a.eval s = goInt (st : Nat)) (val : Value) (hv : a.eval v = val)
    (d : DataW Unit) (ps : List MemPlace) (hval : plainElem Try.prog e val = some (d, ps)) (hK : ∀ w', St w0 w' (aMap k e b (n + 1) (D.put kl d) :: μ) → K (a.put o.dst undef) w') : if Region.wanted o (yielded ops a.tmps) = true then Oper.wp Try.prog o a w K Q else EE := by
  have hw : Region.wanted o (yielded ops a.tmps) = true := by simp [Region.wanted, hgd]
  rw [if_pos hw]
  obtain ⟨es1, clock1, D1, h1, _, _, h4⟩ := h.ok _ (.head _)
  obtain ⟨w3, hrun, g1, g2⟩ := h4 w val d ps h1 hval
  unfold Oper.wp
  simp only [execOp, hop, hm, hs, hv, Sem.run_bind, hrun, Result.andThen_ok, Sem.run_pure]
  refine hK w3 (h.upd g2.os g2.tape g2.output g2.size (fun i hi hm => g2.block i hi (fun he => hm (by simp [aEnt]; exact (Option.some.inj he)))) g1 (fun i hi => .inl hi) (by simp [aMap]))
end
end Go.Proofs.Ytfelikfppjlcmaa

/-
  Small things that walks share. (A helper text; it claims nothing of the program.)
-/
namespace Go.Proofs.Ytfelikfppjlcmaa
set_option linter.unusedVariables false
set_option linter.unusedSimpArgs false
open Go.ChangeShapes Go.WideShapes Go.ChangeAt Go.RowKit

theorem St.toBack2 {w0 w : World} {μ ν : List Asrt} (h : St w0 w (ν ++ μ)) : St w0 w (μ ++ ν) := h.perm List.perm_append_comm
theorem Fc.callC2 {c : Nat} {fn : Func} (hf : Try.prog.funcs[c]? = some fn) (hn : (fn.name == "runtime.NumGoroutine") = false) (hb : fn.body.isNone = false) (args : Array Value) (W : World) : (callFunc c args).run Try.prog W = .ok (.enter c args) W := by
  have hn2 : ¬ fn.name = "runtime.NumGoroutine" := fun e => by rw [e] at hn; simp at hn
  have hb2 : ¬ fn.body = none := fun e => by rw [e] at hb; cases hb
  simp [callFunc, go_sem, hf, hn2, hb2]

namespace Cp
theorem zeroE (w : World) : (zeroValue 3).run Try.prog w = .ok (.int .i64 0) w := by kernel_rfl
theorem tsz : ∃ m, Try.prog.types.size = m + 1 := ⟨Try.prog.types.size - 1, by kernel_rfl⟩
theorem stepAlloc {P : Program} {w0 w : World} {μ : List Asrt} {ops : Array Oper} {o : Oper} {a : Act} {K : Act → World → Prop} {Q : Exit → Act → World → Prop} {EE : Prop} {T : TypeId} {cs : Array Value} (hgd : o.guard = none) (ha : o.op = Op.alloc T) (hr : ∀ u : World, (execOp a.eval o).run P u = .ok (.value (.pointer (some ⟨u.heap.size, 0, none⟩))) (u.alloc (.cells cs T)))
    (h : St w0 w μ) (hK : ∀ g w', St w0 w' (aCel g T cs :: μ) → K (a.put o.dst (.pointer (some ⟨g, 0, none⟩))) w') : if Region.wanted o (yielded ops a.tmps) = true then Oper.wp P o a w K Q else EE :=
  St.stepNew hgd hr h hK
theorem share0 {P A : World → Prop} {G : Prop} (h1 : (∀ W, A W → P W) → G) (h2 : ∀ W, A W → P W) : G := h1 h2
theorem shareE {P A : Value → Nat → World → Prop} {G : Prop} (h1 : (∀ v s W, A v s W → P v s W) → G) (h2 : ∀ v s W, A v s W → P v s W) : G := h1 h2
theorem share2 {P A : Nat → Nat → World → Prop} {G : Prop} (h1 : (∀ g s W, A g s W → P g s W) → G) (h2 : ∀ g s W, A g s W → P g s W) : G := h1 h2
end Cp
end Go.Proofs.Ytfelikfppjlcmaa

/-
  copyOf of package rex: a tree that shares nothing.
-/
namespace Go.Proofs.Ytfelikfppjlcmaa
set_option linter.unusedVariables false
set_option linter.unusedSimpArgs false
open Go.ChangeShapes Go.WideShapes Go.ChangeAt Go.RowKit

namespace Rp
/-- A kid: the tree, where its kids lie, the blocks that these look into. -/
abbrev K4 := Rx × (Option Addr × Nat) × List Nat
def kidV (q : K4) : Value := .agg (rxA q.1 q.2.1.1 q.2.1.2)
def kidA (q : K4) : Asrt := kidsA q.2.2 q.2.1.1 q.2.1.2 q.1
def ShowsAs (t : Rx) (kd p0 p1 p2 p3 : Int) (nk : Nat) : Prop := ∀ (a : Option Addr) (c : Nat) (fp : List Nat), kidV (t, (a, c), fp) = .agg #[.int .i64 kd, .int .u64 p0, .int .u64 p1, .int .u64 p2, .int .u64 p3, .slice a nk c]
theorem rexE : ET Try.prog 25 27 6 64 := ET.mk' Try.underlying25 (z := .agg #[.int .i64 0, .int .u64 0, .int .u64 0, .int .u64 0, .int .u64 0, .slice Option.none 0 0]) (by kernel_rfl) rfl (by decide)
theorem sealKids {w0 w : World} {μ : List Asrt} {v : Value} {L : List K4} (h : St w0 w (aOwn 27 6 v (L.map kidV) :: aAll (L.map kidA) :: μ)) (hok : ∀ q ∈ L, Fine q.1) (hl : L.length ≤ 1000000) :
    ∃ fp, St w0 w (aEnc (Rx.any.sl 64) fp [v] (L.map (·.1)) :: μ) := by
  refine h.sealed (En := Rx.any) (g := fun q : K4 => q.1) rfl (fun q hq ha => ?_) (by omega)
  exact rxA_any (hok q hq) ha
theorem siz_le_len (l : List Rx) : l.length ≤ sizs l := by
  induction l with
  | nil => exact Nat.zero_le _
  | cons t l ih => rw [sizs_cons, List.length_cons]; have := siz_pos t; omega
end Rp

set_option maxRecDepth 100000 in
set_option maxHeartbeats 8000000 in
theorem rpCopy_any (w0 : World) (F : Nat → Prop) :
    ∀ (n : Nat) (t : Rx) (cs : Array Value) (w : World), (Rx.enc n).R F w0 cs.toList t → Rp.siz t ≤ 1000000 → Below w0.heap.size w0 w →
      Calls Try.prog 179 #[.agg cs] w fun e w' => ∃ (ao : Option Addr) (c : Nat) (fp : List Nat), e = .returned (.agg (Rp.rxA t ao c)) ∧ St w w' [Rp.kidsA fp ao c t] := by
  intro n
  induction n with
  | zero => intro t cs w h; exact h.elim
  | succ n ih =>
    intro t cs w ht hsz hbw
    obtain ⟨m, hm, ao, c, hcs, -, hk⟩ := Rp.enc_open ht
    obtain rfl : n = m := by omega
    obtain rfl := Rp.eq_rxA hcs
    obtain ⟨ak, bk, ok, ck, hv, hkl, k3, k4⟩ := Rp.kidsR hk
    simp only [Value.slice.injEq, true_and] at hv
    obtain ⟨rfl, rfl⟩ := hv
    rw [Rp.siz_kids] at hsz
    have hst := ((((St.init w).alloc (Rp.rxA t ao c) 27).alloc #[.int .i64 0, .int .u64 0, .int .u64 0, .int .u64 0, .int .u64 0, .slice none 0 0] 27).alloc #[.int .i64 t.kind, .int .u64 (Rp.cw t 0), .int .u64 (Rp.cw t 1), .int .u64 (Rp.cw t 2), .int .u64 (Rp.cw t 3), .slice none 0 0] 27)
    simp only [World.size_alloc] at hst
    have hst2 := (hst.nilOwn 27 6).nilAll.get2
    have HST := Lib.hid (show St w _ (aOwn 27 6 (.slice none 0 0) (([] : List Rp.K4).map Rp.kidV) :: aAll (([] : List Rp.K4).map Rp.kidA) :: aCel (w.heap.size + 1 + 1) 27 #[.int .i64 t.kind, .int .u64 (Rp.cw t 0), .int .u64 (Rp.cw t 1), .int .u64 (Rp.cw t 2), .int .u64 (Rp.cw t 3), .slice none 0 0] :: aCel (w.heap.size + 1) 27 #[.int .i64 0, .int .u64 0, .int .u64 0, .int .u64 0, .int .u64 0, .slice none 0 0] :: aCel w.heap.size 27 (Rp.rxA t ao c) :: [] ) from hst2)
    have HSZ := Lib.hid (show t.kids.length ≤ 1000000 by have := Rp.siz_le_len t.kids; omega)
    have HKS := Lib.hid (fun i (h : i < t.kids.length) => show Rp.siz (t.kids.getD i Rx.nil) ≤ 1000000 by have h1 := Rp.sizs_drop t.kids i h; have h2 : ∀ (l : List Rx) (i : Nat), Rp.sizs (l.drop i) ≤ Rp.sizs l := (fun l => by induction l with | nil => intro i; simp | cons x l ih => intro i; cases i with | zero => exact Nat.le_refl _ | succ i => rw [List.drop_succ_cons, Rp.sizs_cons]; have := ih i; omega); have := h2 t.kids i; omega)
    have K3 := Lib.hid k3; have K4 := Lib.hid k4; have IH := Lib.hid ih; have HBW := Lib.hid hbw
    obtain ⟨y0, y1, y2, y3, y4, y5⟩ := Rx.cel6 HST.out 4 rfl
    have HT := Lib.hid (rfl : t.kids = t.kids)
    obtain ⟨ks, hks⟩ : ∃ ks, ks = t.kids := ⟨_, rfl⟩
    have HKSE := Lib.hid hks
    rw [← hks] at K3 K4 HSZ HKS hkl
    unfold Rp.rxA at HST y0 y1 y2 y3 y4 y5 ⊢
    rw [← hks] at HST y5 ⊢
    clear ht hm hcs hk k3 k4 ih hsz hbw hst hst2 HT hks
    generalize t.kind = kd at *
    generalize Rp.cw t 0 = q0 at *
    generalize Rp.cw t 1 = q1 at *
    generalize Rp.cw t 2 = q2 at *
    generalize Rp.cw t 3 = q3 at *
    go_enter Try.func179, Try.ntmps179
    go_wp2
    go_loopg [14] ks.length (fun gk v14 wr => ∃ (i : Nat) (L : List Rp.K4) (a' : Option Addr) (n' c' : Nat), v14 = .int .i64 i ∧ i ≤ ks.length ∧ gk = ks.length - i ∧ Hid (L.map (·.1) = ks.take i ∧ ∀ q ∈ L, Rp.Fine q.1) ∧ St w wr (aOwn 27 6 (.slice a' n' c') (L.map Rp.kidV) :: aAll (L.map Rp.kidA) :: aCel (w.heap.size + 1 + 1) 27 #[.int .i64 kd, .int .u64 q0, .int .u64 q1, .int .u64 q2, .int .u64 q3, .slice a' n' c'] :: aCel (w.heap.size + 1) 27 #[.int .i64 0, .int .u64 0, .int .u64 0, .int .u64 0, .int .u64 0, .slice none 0 0] :: aCel w.heap.size 27 #[.int .i64 kd, .int .u64 q0, .int .u64 q1, .int .u64 q2, .int .u64 q3, .slice ao ks.length c] :: []))
    case atStart => exact ⟨0, [], none, 0, 0, rfl, Nat.zero_le _, rfl, Lib.hid ⟨rfl, fun q h => absurd h List.not_mem_nil⟩, HST.out⟩
    case round =>
      clear HST y0 y1 y2 y3 y4 y5
      obtain ⟨i, L, a', n', c', rfl, hi, hgk, HL, hst⟩ := hrel
      have HGK := Lib.hid hgk
      have HS := Lib.hid hst
      have hLI : L.length = i := by have := congrArg List.length HL.out.1; simp at this; have := HSZ.out; omega
      clear hst hgk
      by_cases hlt : i < ks.length
      · have hltI : (i : Int) < (ks.length : Int) := by omega
        obtain ⟨rfl, -, -⟩ := K3.out (by omega)
        obtain ⟨ax, cx, ⟨d0, d1, d2, d3, d4, d5⟩, hki⟩ := K4.out i hlt
        have hbel := HBW.out.trans (HS.out.bel.mono HBW.out.size)
        have d0 := bkeep hbel d0
        have d1 := bkeep hbel d1
        have d2 := bkeep hbel d2
        have d3 := bkeep hbel d3
        have d4 := bkeep hbel d4
        have d5 := bkeep hbel d5
        have hst2 := (HS.out.alloc (Rp.rxA (ks.getD i Rx.nil) ax cx) 27).drew
        have HC := Lib.hid (IH.out (ks.getD i Rx.nil) _ (wr.alloc (.cells (Rp.rxA (ks.getD i Rx.nil) ax cx) 27)).drew hki (HKS.out i hlt) (HBW.out.trans (hst2.bel.mono HBW.out.size)))
        have hex := hki
        obtain ⟨-, -, ao9, c9, h9, hfine, -⟩ := Rp.enc_open hex
        have HFINE := Lib.hid hfine
        have HTAKE := Lib.hid (show ks.take (i + 1) = ks.take i ++ [ks.getD i Rx.nil] by rw [List.take_add_one, List.getElem?_eq_getElem hlt, show ks.getD i Rx.nil = ks[i] by simp [List.getD, List.getElem?_eq_getElem hlt]]; rfl)
        have HS2 := Lib.hid (hst2.pick [1, 2, 3, 4, 5, 0] 6 rfl rfl)
        have hiw : IntKind.i64.wrap ((i : Int) + 1) = (i : Int) + 1 := IntWalk.i64_in _ (by omega)
        have h0i : (0 : Int) ≤ (i : Int) := by omega
        have hi6 : L.length ≤ 1000000 := by have := HSZ.out; omega
        clear hst2 hki hbel hex h9 hfine
        obtain ⟨tk, htk⟩ : ∃ tk, tk = ks.getD i Rx.nil := ⟨_, rfl⟩
        rw [← htk] at HC HS2 HFINE HTAKE
        unfold Rp.rxA at HC HS2
        rw [← htk] at d0 d1 d2 d3 d4 d5
        clear htk
        have HKV := Lib.hid (show Rp.ShowsAs tk tk.kind (Rp.cw tk 0) (Rp.cw tk 1) (Rp.cw tk 2) (Rp.cw tk 3) tk.kids.length from fun _ _ _ => rfl)
        generalize tk.kind = kd1 at *
        generalize Rp.cw tk 0 = p0 at *
        generalize Rp.cw tk 1 = p1 at *
        generalize Rp.cw tk 2 = p2 at *
        generalize Rp.cw tk 3 = p3 at *
        generalize tk.kids.length = nk1 at *
        obtain ⟨z0, z1, z2, z3, z4, z5⟩ := Rx.cel6 HS2.out 5 rfl
        have x5 := (HS2.out.nth 2 rfl).celAt (i := 5) rfl
        go_wp2_with (fail)
        refine wp_region_held_drew (S := (fun w' => w'.cell? ⟨wr.heap.size, 0, none⟩ = some (.int .i64 kd1) ∧ w'.cell? ⟨wr.heap.size, 1, none⟩ = some (.int .u64 p0) ∧ w'.cell? ⟨wr.heap.size, 2, none⟩ = some (.int .u64 p1) ∧ w'.cell? ⟨wr.heap.size, 3, none⟩ = some (.int .u64 p2) ∧ w'.cell? ⟨wr.heap.size, 4, none⟩ = some (.int .u64 p3) ∧ w'.cell? ⟨wr.heap.size, 5, none⟩ = some (.slice ax nk1 cx))) (by kernel_rfl) ?_ (fun hHeld => ?_)
        · (try dsimp only); (first | exact ⟨z0, z1, z2, z3, z4, z5⟩ | exact Rx.cel6 HS3.out 6 rfl | exact Rx.cel6 (HS3.out.skip _) 6 rfl | exact Rx.cel6 HS4.out 6 rfl | exact Rx.cel6 HS5.out 6 rfl)

        refine wpAnyH_take (i := 0) (v := ?_) rfl (by kernel_rfl) (by kernel_rfl) (by kernel_rfl) (fun _ _ _ h => h) (Or.inl ⟨by rfl, ?_⟩) (by assumption) ?_
        rotate_left; focus (intro w hSw; (try dsimp only at hSw); go_simp; try (with_reducible rfl); done)
        try simp only [List.getElem_toArray, List.getElem_cons_zero, List.getElem_cons_succ, Act.put, List.setIfInBounds_toArray, List.set_cons_zero, List.set_cons_succ]
        refine wpAnyH_take (i := 2) (v := ?_) rfl (by kernel_rfl) (by kernel_rfl) (by kernel_rfl) (fun _ _ _ h => h) (Or.inl ⟨by rfl, ?_⟩) (by assumption) ?_
        rotate_left; focus (intro w hSw; (try dsimp only at hSw); go_simp; try (with_reducible rfl); done)
        try simp only [List.getElem_toArray, List.getElem_cons_zero, List.getElem_cons_succ, Act.put, List.setIfInBounds_toArray, List.set_cons_zero, List.set_cons_succ]
        refine wpAnyH_ready (rs := [1, 3]) (by kernel_rfl) (by simp) ?_
        refine AllReadyH.cons rfl (fun K hK => ?_) (AllReadyH.cons rfl (fun K hK => ?_) (AllReadyH.nil))
        · skip
          go_simp
          refine hK.out _ _ ?_ (fun hHeld => ?_)
          · (try dsimp only); (first | exact ⟨z0, z1, z2, z3, z4, z5⟩ | exact Rx.cel6 HS3.out 6 rfl | exact Rx.cel6 (HS3.out.skip _) 6 rfl | exact Rx.cel6 HS4.out 6 rfl | exact Rx.cel6 HS5.out 6 rfl)
          clear hK K
          try simp only [List.getElem_toArray, List.getElem_cons_zero, List.getElem_cons_succ, Act.put, List.setIfInBounds_toArray, List.set_cons_zero, List.set_cons_succ]
          refine wpAnyH_ready (rs := [3]) (by kernel_rfl) (by simp) ?_
          refine AllReadyH.cons rfl (fun K hK => ?_) (AllReadyH.nil)
          go_simp
          (go_at_call 179; refine (HC.out).mono ?_; rintro ex w8 ⟨a2, c2, fp2, rfl, hst8⟩; have HS3 := Lib.hid ((HS2.out.joined hst8).pick [1, 0, 2, 3, 4, 5, 6] 7 rfl rfl); clear hst8; have x5 := (HS3.out.nth 3 rfl).celAt (i := 5) rfl; have x5e := fun cs => bkeep ((Below.refl w8.heap.size w8).alloc (Nat.le_refl _) (.cells cs 27)) x5)
          refine hK.out _ _ ?_ (fun hHeld => ?_)
          · (try dsimp only); (first | exact ⟨z0, z1, z2, z3, z4, z5⟩ | exact Rx.cel6 HS3.out 6 rfl | exact Rx.cel6 (HS3.out.skip _) 6 rfl | exact Rx.cel6 HS4.out 6 rfl | exact Rx.cel6 HS5.out 6 rfl)
          clear hK K
          try simp only [List.getElem_toArray, List.getElem_cons_zero, List.getElem_cons_succ, Act.put, List.setIfInBounds_toArray, List.set_cons_zero, List.set_cons_succ]
          refine wpAnyH_ready (rs := [4]) (by kernel_rfl) (by simp) ?_
          refine AllReadyH.cons rfl (fun K hK => ?_) (AllReadyH.nil)
          go_simp
          refine hK.out _ _ ?_ (fun hHeld => ?_)
          · (try dsimp only); (first | exact ⟨z0, z1, z2, z3, z4, z5⟩ | exact Rx.cel6 HS3.out 6 rfl | exact Rx.cel6 (HS3.out.skip _) 6 rfl | exact Rx.cel6 HS4.out 6 rfl | exact Rx.cel6 HS5.out 6 rfl)
          clear hK K
          try simp only [List.getElem_toArray, List.getElem_cons_zero, List.getElem_cons_succ, Act.put, List.setIfInBounds_toArray, List.set_cons_zero, List.set_cons_succ]
          refine wpAnyH_ready (rs := [5]) (by kernel_rfl) (by simp) ?_
          refine AllReadyH.cons rfl (fun K hK => ?_) AllReadyH.nil
          (refine St.step1n (W := w8) (T := 27) (cs := #[.int .i64 kd1, .int .u64 p0, .int .u64 p1, .int .u64 p2, .int .u64 p3, .slice a2 nk1 c2]) Rp.rexE rfl (.tmp 19) (.tmp 22) rfl rfl HS3.out (.agg #[.int .i64 kd1, .int .u64 p0, .int .u64 p1, .int .u64 p2, .int .u64 p3, .slice a2 nk1 c2]) rfl w8.heap.size 1 rfl rfl rfl (by intro q hq; simp [Value.cells] at hq; rcases hq with rfl | rfl | rfl | rfl | rfl | rfl <;> rfl) (by rw [List.length_map]; unfold maxLen; omega) (by rw [List.length_map]; omega) ?_; intro g9 n9 c9 w9 hst9; have HS4 := Lib.hid hst9; clear hst9; have x5 := (HS4.out.nth 3 rfl).celAt (i := 5) rfl; have f5 := (HS4.out.nth 3 rfl).celFree 5; have HS5 := Lib.hid ((HS4.out.pick [3, 1, 2, 0, 4, 5, 6] 7 rfl rfl).setCel 5 (.slice (some ⟨g9, 0, none⟩) n9 c9)))
          refine hK.out _ _ ?_ (fun hHeld => ?_)
          · (try dsimp only); (first | exact ⟨z0, z1, z2, z3, z4, z5⟩ | exact Rx.cel6 HS3.out 6 rfl | exact Rx.cel6 (HS3.out.skip _) 6 rfl | exact Rx.cel6 HS4.out 6 rfl | exact Rx.cel6 HS5.out 6 rfl)
          clear hK K
          try simp only [List.getElem_toArray, List.getElem_cons_zero, List.getElem_cons_succ, Act.put, List.setIfInBounds_toArray, List.set_cons_zero, List.set_cons_succ]
          refine wpAnyH_take (i := 6) (v := ?_) rfl (by kernel_rfl) (by kernel_rfl) (by kernel_rfl) (fun _ _ _ h => h) (Or.inl ⟨by rfl, ?_⟩) (by assumption) ?_
          rotate_left; focus (intro w hSw; (try dsimp only at hSw); go_simp; try (with_reducible rfl); done)
          try simp only [List.getElem_toArray, List.getElem_cons_zero, List.getElem_cons_succ, Act.put, List.setIfInBounds_toArray, List.set_cons_zero, List.set_cons_succ]
          refine wpAnyH_ready (rs := [7]) (by kernel_rfl) (by simp) ?_
          refine AllReadyH.cons rfl (fun K hK => ?_) AllReadyH.nil
          go_simp
          refine hK.out _ _ ?_ (fun hHeld => ?_)
          · (try dsimp only); (first | exact ⟨z0, z1, z2, z3, z4, z5⟩ | exact Rx.cel6 HS3.out 6 rfl | exact Rx.cel6 (HS3.out.skip _) 6 rfl | exact Rx.cel6 HS4.out 6 rfl | exact Rx.cel6 HS5.out 6 rfl)
          clear hK K
          try simp only [List.getElem_toArray, List.getElem_cons_zero, List.getElem_cons_succ, Act.put, List.setIfInBounds_toArray, List.set_cons_zero, List.set_cons_succ]
          refine wpAnyH_done (by kernel_rfl) ?_ _
          have HS6 := Lib.hid ((HS4.out.pick [3, 1, 2, 0, 4, 5] 7 rfl rfl).setCel 5 (.slice (some ⟨g9, 0, none⟩) n9 c9))
          go_wp2
          go_roundg (ks.length - (i + 1))
          case measure => have := HGK.out; omega
          case rel =>
            have h1 := (HS6.out.pick (ρ := Rp.kidA (tk, (a2, c2), fp2) :: aAll (L.map Rp.kidA) :: aCel (w.heap.size + 1 + 1) 27 #[.int .i64 kd, .int .u64 q0, .int .u64 q1, .int .u64 q2, .int .u64 q3, .slice (some ⟨g9, 0, none⟩) n9 c9] :: _ :: _ :: _ :: []) [1, 2, 0, 3, 4, 5] 6 rfl rfl).snoc.pick [2, 0, 1, 3, 4] 5 rfl rfl
            refine ⟨i + 1, L ++ [(tk, (a2, c2), fp2)], some ⟨g9, 0, none⟩, n9, c9, by go_num, by omega, rfl, Lib.hid ⟨by rw [List.map_append, HL.out.1, HTAKE.out]; rfl, fun x hx => ?_⟩, ?_⟩
            · rcases List.mem_append.1 hx with hx | hx
              · exact HL.out.2 x hx
              · rw [List.mem_singleton.1 hx]; exact HFINE.out
            · rw [List.map_append, List.map_append, List.map_singleton, List.map_singleton, HKV.out a2 c2 fp2]
              exact h1
        · skip
          go_simp
          (go_at_call 179; refine (HC.out).mono ?_; rintro ex w8 ⟨a2, c2, fp2, rfl, hst8⟩; have HS3 := Lib.hid ((HS2.out.joined hst8).pick [1, 0, 2, 3, 4, 5, 6] 7 rfl rfl); clear hst8; have x5 := (HS3.out.nth 3 rfl).celAt (i := 5) rfl; have x5e := fun cs => bkeep ((Below.refl w8.heap.size w8).alloc (Nat.le_refl _) (.cells cs 27)) x5)
          refine hK.out _ _ ?_ (fun hHeld => ?_)
          · (try dsimp only); (first | exact ⟨z0, z1, z2, z3, z4, z5⟩ | exact Rx.cel6 HS3.out 6 rfl | exact Rx.cel6 (HS3.out.skip _) 6 rfl | exact Rx.cel6 HS4.out 6 rfl | exact Rx.cel6 HS5.out 6 rfl)
          clear hK K
          try simp only [List.getElem_toArray, List.getElem_cons_zero, List.getElem_cons_succ, Act.put, List.setIfInBounds_toArray, List.set_cons_zero, List.set_cons_succ]
          refine wpAnyH_ready (rs := [1, 4]) (by kernel_rfl) (by simp) ?_
          refine AllReadyH.cons rfl (fun K hK => ?_) (AllReadyH.cons rfl (fun K hK => ?_) (AllReadyH.nil))
          · skip
            go_simp
            refine hK.out _ _ ?_ (fun hHeld => ?_)
            · (try dsimp only); (first | exact ⟨z0, z1, z2, z3, z4, z5⟩ | exact Rx.cel6 HS3.out 6 rfl | exact Rx.cel6 (HS3.out.skip _) 6 rfl | exact Rx.cel6 HS4.out 6 rfl | exact Rx.cel6 HS5.out 6 rfl)
            clear hK K
            try simp only [List.getElem_toArray, List.getElem_cons_zero, List.getElem_cons_succ, Act.put, List.setIfInBounds_toArray, List.set_cons_zero, List.set_cons_succ]
            refine wpAnyH_ready (rs := [4]) (by kernel_rfl) (by simp) ?_
            refine AllReadyH.cons rfl (fun K hK => ?_) (AllReadyH.nil)
            go_simp
            refine hK.out _ _ ?_ (fun hHeld => ?_)
            · (try dsimp only); (first | exact ⟨z0, z1, z2, z3, z4, z5⟩ | exact Rx.cel6 HS3.out 6 rfl | exact Rx.cel6 (HS3.out.skip _) 6 rfl | exact Rx.cel6 HS4.out 6 rfl | exact Rx.cel6 HS5.out 6 rfl)
            clear hK K
            try simp only [List.getElem_toArray, List.getElem_cons_zero, List.getElem_cons_succ, Act.put, List.setIfInBounds_toArray, List.set_cons_zero, List.set_cons_succ]
            refine wpAnyH_ready (rs := [5]) (by kernel_rfl) (by simp) ?_
            refine AllReadyH.cons rfl (fun K hK => ?_) AllReadyH.nil
            (refine St.step1n (W := w8) (T := 27) (cs := #[.int .i64 kd1, .int .u64 p0, .int .u64 p1, .int .u64 p2, .int .u64 p3, .slice a2 nk1 c2]) Rp.rexE rfl (.tmp 19) (.tmp 22) rfl rfl HS3.out (.agg #[.int .i64 kd1, .int .u64 p0, .int .u64 p1, .int .u64 p2, .int .u64 p3, .slice a2 nk1 c2]) rfl w8.heap.size 1 rfl rfl rfl (by intro q hq; simp [Value.cells] at hq; rcases hq with rfl | rfl | rfl | rfl | rfl | rfl <;> rfl) (by rw [List.length_map]; unfold maxLen; omega) (by rw [List.length_map]; omega) ?_; intro g9 n9 c9 w9 hst9; have HS4 := Lib.hid hst9; clear hst9; have x5 := (HS4.out.nth 3 rfl).celAt (i := 5) rfl; have f5 := (HS4.out.nth 3 rfl).celFree 5; have HS5 := Lib.hid ((HS4.out.pick [3, 1, 2, 0, 4, 5, 6] 7 rfl rfl).setCel 5 (.slice (some ⟨g9, 0, none⟩) n9 c9)))
            refine hK.out _ _ ?_ (fun hHeld => ?_)
            · (try dsimp only); (first | exact ⟨z0, z1, z2, z3, z4, z5⟩ | exact Rx.cel6 HS3.out 6 rfl | exact Rx.cel6 (HS3.out.skip _) 6 rfl | exact Rx.cel6 HS4.out 6 rfl | exact Rx.cel6 HS5.out 6 rfl)
            clear hK K
            try simp only [List.getElem_toArray, List.getElem_cons_zero, List.getElem_cons_succ, Act.put, List.setIfInBounds_toArray, List.set_cons_zero, List.set_cons_succ]
            refine wpAnyH_take (i := 6) (v := ?_) rfl (by kernel_rfl) (by kernel_rfl) (by kernel_rfl) (fun _ _ _ h => h) (Or.inl ⟨by rfl, ?_⟩) (by assumption) ?_
            rotate_left; focus (intro w hSw; (try dsimp only at hSw); go_simp; try (with_reducible rfl); done)
            try simp only [List.getElem_toArray, List.getElem_cons_zero, List.getElem_cons_succ, Act.put, List.setIfInBounds_toArray, List.set_cons_zero, List.set_cons_succ]
            refine wpAnyH_ready (rs := [7]) (by kernel_rfl) (by simp) ?_
            refine AllReadyH.cons rfl (fun K hK => ?_) AllReadyH.nil
            go_simp
            refine hK.out _ _ ?_ (fun hHeld => ?_)
            · (try dsimp only); (first | exact ⟨z0, z1, z2, z3, z4, z5⟩ | exact Rx.cel6 HS3.out 6 rfl | exact Rx.cel6 (HS3.out.skip _) 6 rfl | exact Rx.cel6 HS4.out 6 rfl | exact Rx.cel6 HS5.out 6 rfl)
            clear hK K
            try simp only [List.getElem_toArray, List.getElem_cons_zero, List.getElem_cons_succ, Act.put, List.setIfInBounds_toArray, List.set_cons_zero, List.set_cons_succ]
            refine wpAnyH_done (by kernel_rfl) ?_ _
            have HS6 := Lib.hid ((HS4.out.pick [3, 1, 2, 0, 4, 5] 7 rfl rfl).setCel 5 (.slice (some ⟨g9, 0, none⟩) n9 c9))
            go_wp2
            go_roundg (ks.length - (i + 1))
            case measure => have := HGK.out; omega
            case rel =>
              have h1 := (HS6.out.pick (ρ := Rp.kidA (tk, (a2, c2), fp2) :: aAll (L.map Rp.kidA) :: aCel (w.heap.size + 1 + 1) 27 #[.int .i64 kd, .int .u64 q0, .int .u64 q1, .int .u64 q2, .int .u64 q3, .slice (some ⟨g9, 0, none⟩) n9 c9] :: _ :: _ :: _ :: []) [1, 2, 0, 3, 4, 5] 6 rfl rfl).snoc.pick [2, 0, 1, 3, 4] 5 rfl rfl
              refine ⟨i + 1, L ++ [(tk, (a2, c2), fp2)], some ⟨g9, 0, none⟩, n9, c9, by go_num, by omega, rfl, Lib.hid ⟨by rw [List.map_append, HL.out.1, HTAKE.out]; rfl, fun x hx => ?_⟩, ?_⟩
              · rcases List.mem_append.1 hx with hx | hx
                · exact HL.out.2 x hx
                · rw [List.mem_singleton.1 hx]; exact HFINE.out
              · rw [List.map_append, List.map_append, List.map_singleton, List.map_singleton, HKV.out a2 c2 fp2]
                exact h1
          · skip
            go_simp
            refine hK.out _ _ ?_ (fun hHeld => ?_)
            · (try dsimp only); (first | exact ⟨z0, z1, z2, z3, z4, z5⟩ | exact Rx.cel6 HS3.out 6 rfl | exact Rx.cel6 (HS3.out.skip _) 6 rfl | exact Rx.cel6 HS4.out 6 rfl | exact Rx.cel6 HS5.out 6 rfl)
            clear hK K
            try simp only [List.getElem_toArray, List.getElem_cons_zero, List.getElem_cons_succ, Act.put, List.setIfInBounds_toArray, List.set_cons_zero, List.set_cons_succ]
            refine wpAnyH_ready (rs := [1]) (by kernel_rfl) (by simp) ?_
            refine AllReadyH.cons rfl (fun K hK => ?_) (AllReadyH.nil)
            go_simp
            refine hK.out _ _ ?_ (fun hHeld => ?_)
            · (try dsimp only); (first | exact ⟨z0, z1, z2, z3, z4, z5⟩ | exact Rx.cel6 HS3.out 6 rfl | exact Rx.cel6 (HS3.out.skip _) 6 rfl | exact Rx.cel6 HS4.out 6 rfl | exact Rx.cel6 HS5.out 6 rfl)
            clear hK K
            try simp only [List.getElem_toArray, List.getElem_cons_zero, List.getElem_cons_succ, Act.put, List.setIfInBounds_toArray, List.set_cons_zero, List.set_cons_succ]
            refine wpAnyH_ready (rs := [5]) (by kernel_rfl) (by simp) ?_
            refine AllReadyH.cons rfl (fun K hK => ?_) AllReadyH.nil
            (refine St.step1n (W := w8) (T := 27) (cs := #[.int .i64 kd1, .int .u64 p0, .int .u64 p1, .int .u64 p2, .int .u64 p3, .slice a2 nk1 c2]) Rp.rexE rfl (.tmp 19) (.tmp 22) rfl rfl HS3.out (.agg #[.int .i64 kd1, .int .u64 p0, .int .u64 p1, .int .u64 p2, .int .u64 p3, .slice a2 nk1 c2]) rfl w8.heap.size 1 rfl rfl rfl (by intro q hq; simp [Value.cells] at hq; rcases hq with rfl | rfl | rfl | rfl | rfl | rfl <;> rfl) (by rw [List.length_map]; unfold maxLen; omega) (by rw [List.length_map]; omega) ?_; intro g9 n9 c9 w9 hst9; have HS4 := Lib.hid hst9; clear hst9; have x5 := (HS4.out.nth 3 rfl).celAt (i := 5) rfl; have f5 := (HS4.out.nth 3 rfl).celFree 5; have HS5 := Lib.hid ((HS4.out.pick [3, 1, 2, 0, 4, 5, 6] 7 rfl rfl).setCel 5 (.slice (some ⟨g9, 0, none⟩) n9 c9)))
            refine hK.out _ _ ?_ (fun hHeld => ?_)
            · (try dsimp only); (first | exact ⟨z0, z1, z2, z3, z4, z5⟩ | exact Rx.cel6 HS3.out 6 rfl | exact Rx.cel6 (HS3.out.skip _) 6 rfl | exact Rx.cel6 HS4.out 6 rfl | exact Rx.cel6 HS5.out 6 rfl)
            clear hK K
            try simp only [List.getElem_toArray, List.getElem_cons_zero, List.getElem_cons_succ, Act.put, List.setIfInBounds_toArray, List.set_cons_zero, List.set_cons_succ]
            refine wpAnyH_take (i := 6) (v := ?_) rfl (by kernel_rfl) (by kernel_rfl) (by kernel_rfl) (fun _ _ _ h => h) (Or.inl ⟨by rfl, ?_⟩) (by assumption) ?_
            rotate_left; focus (intro w hSw; (try dsimp only at hSw); go_simp; try (with_reducible rfl); done)
            try simp only [List.getElem_toArray, List.getElem_cons_zero, List.getElem_cons_succ, Act.put, List.setIfInBounds_toArray, List.set_cons_zero, List.set_cons_succ]
            refine wpAnyH_ready (rs := [7]) (by kernel_rfl) (by simp) ?_
            refine AllReadyH.cons rfl (fun K hK => ?_) AllReadyH.nil
            go_simp
            refine hK.out _ _ ?_ (fun hHeld => ?_)
            · (try dsimp only); (first | exact ⟨z0, z1, z2, z3, z4, z5⟩ | exact Rx.cel6 HS3.out 6 rfl | exact Rx.cel6 (HS3.out.skip _) 6 rfl | exact Rx.cel6 HS4.out 6 rfl | exact Rx.cel6 HS5.out 6 rfl)
            clear hK K
            try simp only [List.getElem_toArray, List.getElem_cons_zero, List.getElem_cons_succ, Act.put, List.setIfInBounds_toArray, List.set_cons_zero, List.set_cons_succ]
            refine wpAnyH_done (by kernel_rfl) ?_ _
            have HS6 := Lib.hid ((HS4.out.pick [3, 1, 2, 0, 4, 5] 7 rfl rfl).setCel 5 (.slice (some ⟨g9, 0, none⟩) n9 c9))
            go_wp2
            go_roundg (ks.length - (i + 1))
            case measure => have := HGK.out; omega
            case rel =>
              have h1 := (HS6.out.pick (ρ := Rp.kidA (tk, (a2, c2), fp2) :: aAll (L.map Rp.kidA) :: aCel (w.heap.size + 1 + 1) 27 #[.int .i64 kd, .int .u64 q0, .int .u64 q1, .int .u64 q2, .int .u64 q3, .slice (some ⟨g9, 0, none⟩) n9 c9] :: _ :: _ :: _ :: []) [1, 2, 0, 3, 4, 5] 6 rfl rfl).snoc.pick [2, 0, 1, 3, 4] 5 rfl rfl
              refine ⟨i + 1, L ++ [(tk, (a2, c2), fp2)], some ⟨g9, 0, none⟩, n9, c9, by go_num, by omega, rfl, Lib.hid ⟨by rw [List.map_append, HL.out.1, HTAKE.out]; rfl, fun x hx => ?_⟩, ?_⟩
              · rcases List.mem_append.1 hx with hx | hx
                · exact HL.out.2 x hx
                · rw [List.mem_singleton.1 hx]; exact HFINE.out
              · rw [List.map_append, List.map_append, List.map_singleton, List.map_singleton, HKV.out a2 c2 fp2]
                exact h1
      · have hge : ¬ (i : Int) < (ks.length : Int) := by omega
        have hie : i = ks.length := by omega
        obtain ⟨hL1, hL2⟩ := HL.out
        rw [hie, List.take_length] at hL1
        have hn : n' = L.length := by
          obtain ⟨_, _, hv⟩ := (HS.out.ownAt 0 rfl).isLen
          rw [List.length_map] at hv
          simp only [Value.slice.injEq] at hv
          exact hv.2.1
        obtain ⟨fp, hse⟩ := Rp.sealKids HS.out hL2 (by have := HSZ.out; omega)
        rw [hL1] at hse
        have hnk : n' = ks.length := by omega
        subst hnk
        have HSE := Lib.hid hse
        clear hse hL1 hL2 hn hie HS
        obtain ⟨y0, y1, y2, y3, y4, y5⟩ := Rx.cel6 HSE.out 1 rfl
        obtain ⟨v0, v1, v2, v3, v4, v5⟩ := Rx.cel6 HSE.out 2 rfl
        have f0 := (HSE.out.nth 2 rfl).celFree 0
        have f1 := (HSE.out.nth 2 rfl).celFree 1
        have f2 := (HSE.out.nth 2 rfl).celFree 2
        have f3 := (HSE.out.nth 2 rfl).celFree 3
        have f4 := (HSE.out.nth 2 rfl).celFree 4
        have f5 := (HSE.out.nth 2 rfl).celFree 5
        have HS9 := Lib.hid ((((((((HSE.out.pick [2, 0, 1, 3] 4 rfl rfl).setCel 0 (.int .i64 kd)).setCel 1 (.int .u64 q0)).setCel 2 (.int .u64 q1)).setCel 3 (.int .u64 q2)).setCel 4 (.int .u64 q3)).setCel 5 (.slice a' ks.length c')))
        clear HSE
        go_wp2
        refine bodyPost_ret (results_row rfl _ _ (w.heap.size + 1) 27 _ _ rfl (HS9.out.heapAt 0 rfl) Try.underlying27 rfl (by kernel_rfl)) rfl ?_
        have h9 := HS9.out.pick (ρ := [aEnc (Rx.any.sl 64) fp [.slice a' ks.length c'] ks]) [1] 4 rfl rfl
        rw [HKSE.out] at h9 ⊢
        exact ⟨a', c', rfl, fp, h9⟩
end Go.Proofs.Ytfelikfppjlcmaa

/-
  atom and brackets of package rex's reader.
-/
namespace Go.Proofs.Ytfelikfppjlcmaa
set_option linter.unusedVariables false
set_option linter.unusedSimpArgs false
open Go.ChangeShapes Go.WideShapes Go.ChangeAt Go.RowKit

namespace Rp
/-- What a method that reads a tree leaves. -/
def Outc (r : Re Rx) (t : Rx) (b : Nat) (e : Int) : Prop := (e = 0 ∧ r = .ok (t, b)) ∨ ((e = 6 ∨ e = 7) ∧ r = .error (e, b))
def LeftT (R : Nat) (s : ByteArray) (op : Int) (w0 : World) (μ : List Asrt) (r : Re Rx) (ex : Ending) (w' : World) : Prop :=
  ∃ (t : Rx) (b : Nat) (e : Int) (ao : Option Addr) (c : Nat) (fp : List Nat), Outc r t b e ∧ b ≤ s.size ∧ Fine t ∧ ex = .returned (.agg (rxA t ao c)) ∧ St w0 w' (kidsA fp ao c t :: rd R s b op e :: μ)
/-- A method that reads a tree from a place on. -/
def TC (fn : Nat) (s : ByteArray) (r : Nat → Re Rx) (op : Int) : Prop := ∀ (a : Nat) (R : Nat) (w0 w : World) (μ : List Asrt), a ≤ s.size → St w0 w (rd R s a op 0 :: μ) → Calls Try.prog fn #[.pointer (some ⟨R, 0, none⟩)] w (LeftT R s op w0 μ (r a))
/-- The same where a bracket opens. -/
def TB (fn : Nat) (s : ByteArray) (r : Nat → Re Rx) (op : Int) : Prop := ∀ (a : Nat) (R : Nat) (w0 w : World) (μ : List Asrt), a < s.size → St w0 w (rd R s a op 0 :: μ) → Calls Try.prog fn #[.pointer (some ⟨R, 0, none⟩)] w (LeftT R s op w0 μ (r a))
theorem set6 {w0 w : World} {μ : List Asrt} {g : Nat} {T : TypeId} {a0 a1 a2 a3 a4 a5 : Value} (h : St w0 w (aCel g T #[a0, a1, a2, a3, a4, a5] :: μ)) (b0 b1 b2 b3 b4 b5 : Value) :
    St w0 ((((((w.setCell ⟨g, 0, none⟩ b0).setCell ⟨g, 1, none⟩ b1).setCell ⟨g, 2, none⟩ b2).setCell ⟨g, 3, none⟩ b3).setCell ⟨g, 4, none⟩ b4).setCell ⟨g, 5, none⟩ b5) (aCel g T #[b0, b1, b2, b3, b4, b5] :: μ) :=
  (((((h.setCel 0 b0).setCel 1 b1).setCel 2 b2).setCel 3 b3).setCel 4 b4).setCel 5 b5
theorem free6 {w0 w : World} {μ : List Asrt} {g : Nat} {T : TypeId} {cs : Array Value} (h : St w0 w μ) (i : Nat) (hA : μ[i]? = some (aCel g T cs)) :
    w.frozen? ⟨g, 0, none⟩ = false ∧ w.frozen? ⟨g, 1, none⟩ = false ∧ w.frozen? ⟨g, 2, none⟩ = false ∧ w.frozen? ⟨g, 3, none⟩ = false ∧ w.frozen? ⟨g, 4, none⟩ = false ∧ w.frozen? ⟨g, 5, none⟩ = false := by
  have h1 := h.nth i hA
  exact ⟨h1.celFree 0, h1.celFree 1, h1.celFree 2, h1.celFree 3, h1.celFree 4, h1.celFree 5⟩
theorem outc_bad {r : Re Rx} {t : Rx} {b : Nat} {e : Int} (he : e = 6 ∨ e = 7) (h : r = .error (e, b)) : Outc r t b e := .inr ⟨he, h⟩
theorem outc_ok {r : Re Rx} {t : Rx} {b : Nat} (h : r = .ok (t, b)) : Outc r t b 0 := .inl ⟨rfl, h⟩
theorem wrap_b {n : Nat} (h : n < 256) : IntKind.i64.wrap (n : Int) = (n : Int) := IntWalk.i64_in _ (by omega)
theorem range_one (b : Nat) : (Cs.of fun x => decide ((b : Int) ≤ (x : Int) ∧ (x : Int) ≤ (b : Int))) = Cs.of fun x => decide (x = b) := Cs.of_congr fun x _ => by rw [decide_eq_decide]; omega
theorem clRange_one (b : Nat) (hb : b < 256) {q0 q1 q2 q3 : Nat} (hq : (Cs.of fun x => decide (x = b)) = [q0, q1, q2, q3]) (W : World) : Calls Try.prog 206 #[.int .i64 b, .int .i64 b] W fun e w' => e = .returned (.agg #[.int .u64 q0, .int .u64 q1, .int .u64 q2, .int .u64 q3]) ∧ Below W.heap.size W w' := by
  refine (clRange_any (b : Int) (b : Int) (by omega) (by omega) (by omega) (by omega) W).mono ?_
  rintro e w' ⟨rfl, hb⟩
  refine ⟨?_, hb⟩
  rw [range_one, hq]
  rfl
theorem clNot_dot {q0 q1 q2 q3 r0 r1 r2 r3 : Nat} (hq : (Cs.of fun x => decide (x = 10)) = [q0, q1, q2, q3]) (hr : (Cs.of fun b => decide (b ≠ 10)) = [r0, r1, r2, r3]) (W : World) : Calls Try.prog 205 #[.agg #[.int .u64 q0, .int .u64 q1, .int .u64 q2, .int .u64 q3]] W fun e w' => e = .returned (.agg #[.int .u64 r0, .int .u64 r1, .int .u64 r2, .int .u64 r3]) ∧ Below W.heap.size W w' :=
  clNot_to (fun x => decide (x = 10)) hq ((clsW_true _).trans ((Cs.of_congr fun x _ => by rw [← decide_not]).trans hr)) W
theorem atom_br {s : ByteArray} {br : Nat → Re Rx} {a : Nat} (h : pk s a = 40) : atom s br a = br a := by unfold atom; rw [if_pos h]
theorem atom_none {s : ByteArray} {br : Nat → Re Rx} {a : Nat} (h : pk s a = 91) (h2 : pk s (a + 1) = 93) : atom s br a = .ok (none_, a + 2) := by unfold atom; rw [if_neg (by omega), if_pos h, if_pos h2]
theorem atom_cls {s : ByteArray} {br : Nat → Re Rx} {a : Nat} (h : pk s a = 91) (h2 : ¬ pk s (a + 1) = 93) : atom s br a = on (clsAt s (a + 1)) fun c b => .ok (byte c, b) := by unfold atom; rw [if_neg (by omega), if_pos h, if_neg h2]
theorem atom_dot {s : ByteArray} {br : Nat → Re Rx} {a : Nat} (h : pk s a = 46) : atom s br a = .ok (byte (Cs.of fun b => decide (b ≠ 10)), a + 1) := by unfold atom; rw [if_neg (by omega), if_neg (by omega), if_pos h]
theorem atom_chr {s : ByteArray} {br : Nat → Re Rx} {a : Nat} (h : ¬ pk s a = 40) (h2 : ¬ pk s a = 91) (h3 : ¬ pk s a = 46) : atom s br a = on (chr s a) fun b c => .ok (byte (Cs.of fun x => decide (x = b)), c) := by unfold atom; rw [if_neg h, if_neg h2, if_neg h3]
end Rp


set_option maxRecDepth 100000 in
set_option maxHeartbeats 8000000 in
theorem rpAtom_any (s : ByteArray) (op : Int) (br : Nat → Rp.Re Rx) (hs : s.size ≤ 300) (hbr : Rp.TB 203 s br op) : Rp.TC 177 s (Rp.atom s br) op := by
  intro a R w0 w μ ha h
  have hst := (h.alloc #[.int .i64 0, .int .u64 0, .int .u64 0, .int .u64 0, .int .u64 0, .slice none 0 0] 27).get2
  have HST := Lib.hid hst
  have HBR := Lib.hid hbr
  have HIS := Lib.hid (rpIs_any s a op 0 40 R w0 _ _ hst (by decide) ha hs)
  clear h hst hbr
  by_cases k40 : Rp.pk s a = 40
  · have hlt := Rp.pk_lt 40 (by decide) k40
    rw [Rp.isB_ok, decide_eq_true k40] at HIS
    rw [Rp.atom_br k40]
    clear k40
    go_enter Try.func177, Try.ntmps177
    go_wp2_with (fail)
    go_at_call 157
    refine HIS.out.mono ?_
    rintro ex w1 ⟨rfl, hst⟩
    go_wp2_with (fail)
    go_at_call 203
    refine (HBR.out a R w0 w1 _ hlt hst).mono ?_
    clear hst
    rintro ex w2 ⟨t, b, e, ao, c, fp, hout, hb, hf, rfl, hst⟩
    have HS := Lib.hid (hst.pick [2, 0, 1] 3 (ρ := aCel w.heap.size 27 #[.int .i64 0, .int .u64 0, .int .u64 0, .int .u64 0, .int .u64 0, .slice none 0 0] :: Rp.kidsA fp ao c t :: Rp.rd R s b op e :: μ) rfl rfl)
    have HOUT := Lib.hid hout
    have HF := Lib.hid hf
    unfold Rp.rxA
    clear hst hout hf
    obtain ⟨x0, x1, x2, x3, x4, x5⟩ := Rx.cel6 HS.out 0 rfl
    obtain ⟨v0, v1, v2, v3, v4, v5⟩ := Rp.free6 HS.out 0 rfl
    have HS9 := Lib.hid (Rp.set6 HS.out (.int .i64 t.kind) (.int .u64 (Rp.cw t 0)) (.int .u64 (Rp.cw t 1)) (.int .u64 (Rp.cw t 2)) (.int .u64 (Rp.cw t 3)) (.slice ao t.kids.length c))
    clear HS
    go_wp2
    refine bodyPost_ret (results_row rfl _ _ w.heap.size 27 _ _ rfl (HS9.out.heapAt 0 rfl) Try.underlying27 rfl (by kernel_rfl)) rfl ?_
    exact ⟨_, _, _, _, _, _, HOUT.out, hb, HF.out, rfl, HS9.out.drop⟩
  · rw [Rp.isB_ok, decide_eq_false k40] at HIS
    by_cases k91 : Rp.pk s a = 91
    · have hlt := Rp.pk_lt 91 (by decide) k91
      have HTA := Lib.hid (fun w' h' => rpTake_any s a op 0 91 R w0 w' (aCel w.heap.size 27 #[.int .i64 0, .int .u64 0, .int .u64 0, .int .u64 0, .int .u64 0, .slice none 0 0] :: μ) h' (by decide) ha hs)
      rw [Rp.tk_yes (by rw [Rp.isB_ok]; exact decide_eq_true k91), Rp.isB_ok, decide_eq_true k91] at HTA
      have HTB := Lib.hid (fun w' h' => rpTake_any s (a + 1) op 0 93 R w0 w' (aCel w.heap.size 27 #[.int .i64 0, .int .u64 0, .int .u64 0, .int .u64 0, .int .u64 0, .slice none 0 0] :: μ) h' (by decide) hlt hs)
      by_cases k93 : Rp.pk s (a + 1) = 93
      · have hlt2 := Rp.pk_lt 93 (by decide) k93
        rw [Rp.tk_yes (by rw [Rp.isB_ok]; exact decide_eq_true k93), Rp.isB_ok, decide_eq_true k93] at HTB
        rw [Rp.atom_none k91 k93]
        clear k40 k91 k93
        go_enter Try.func177, Try.ntmps177
        go_wp2_with (fail)
        go_at_call 157
        refine HIS.out.mono ?_
        rintro ex w1 ⟨rfl, hst⟩
        go_wp2_with (fail)
        go_at_call 116
        refine (HTA.out _ hst).mono ?_
        clear hst
        rintro ex w2 ⟨rfl, hst⟩
        go_wp2_with (fail)
        go_at_call 116
        refine (HTB.out _ hst).mono ?_
        clear hst
        rintro ex w3 ⟨rfl, hst⟩
        have HS := Lib.hid (((Rp.St.leaf (k := 1) (c := Rp.ints Dm.zero) hst).pick [2, 0, 1] 3 (ρ := aCel w.heap.size 27 #[.int .i64 0, .int .u64 0, .int .u64 0, .int .u64 0, .int .u64 0, .slice none 0 0] :: Rp.kidsA [] none 0 Rp.none_ :: Rp.rd R s (a + 1 + 1 : Nat) op 0 :: μ) rfl rfl))
        clear hst
        obtain ⟨x0, x1, x2, x3, x4, x5⟩ := Rx.cel6 HS.out 0 rfl
        obtain ⟨v0, v1, v2, v3, v4, v5⟩ := Rp.free6 HS.out 0 rfl
        have HS9 := Lib.hid (Rp.set6 HS.out (.int .i64 1) (.int .u64 0) (.int .u64 0) (.int .u64 0) (.int .u64 0) (.slice none 0 0))
        clear HS
        go_wp2
        refine bodyPost_ret (results_row rfl _ _ w.heap.size 27 _ _ rfl (HS9.out.heapAt 0 rfl) Try.underlying27 rfl (by kernel_rfl)) rfl ?_
        exact ⟨_, _, _, _, _, _, Rp.outc_ok rfl, hlt2, Rp.fine_none, rfl, HS9.out.drop⟩
      · rw [Rp.tk_no (by rw [Rp.isB_ok]; exact decide_eq_false k93), Rp.isB_ok, decide_eq_false k93] at HTB
        rw [Rp.atom_cls k91 k93]
        have HCL := Lib.hid (fun w' h' => rpClass_any s (a + 1) op hlt hs R w0 w' (aCel w.heap.size 27 #[.int .i64 0, .int .u64 0, .int .u64 0, .int .u64 0, .int .u64 0, .slice none 0 0] :: μ) h')
        have HFT := Lib.hid (Rp.clsAt_fit (s := s) (a := a + 1) hlt)
        clear k40 k91 k93
        obtain ⟨CL, hCL⟩ : ∃ r, Rp.clsAt s (a + 1) = r := ⟨_, rfl⟩
        rw [hCL] at HCL HFT ⊢
        clear hCL
        go_enter Try.func177, Try.ntmps177
        go_wp2_with (fail)
        go_at_call 157
        refine HIS.out.mono ?_
        rintro ex w1 ⟨rfl, hst⟩
        go_wp2_with (fail)
        go_at_call 116
        refine (HTA.out _ hst).mono ?_
        clear hst
        rintro ex w2 ⟨rfl, hst⟩
        go_wp2_with (fail)
        go_at_call 116
        refine (HTB.out _ hst).mono ?_
        clear hst
        rintro ex w3 ⟨rfl, hst⟩
        go_wp2_with (fail)
        go_at_call 204
        refine (HCL.out _ hst).mono ?_
        clear hst
        intro ex w4 hl
        cases CL with
        | ok clb =>
          obtain ⟨cl, b⟩ := clb
          obtain ⟨hex, hst⟩ := hl
          obtain ⟨-, hb, hok, -⟩ := HFT.out
          obtain ⟨q0, q1, q2, q3, rfl⟩ := Cs.okFour hok
          have HOK := Lib.hid hok
          have hex : ex = .returned (.agg #[.int .u64 q0, .int .u64 q1, .int .u64 q2, .int .u64 q3]) := hex
          subst hex
          have HS := Lib.hid (((Rp.St.leaf (k := 3) (c := Rp.ints [q0, q1, q2, q3]) hst).pick [2, 0, 1] 3 (ρ := aCel w.heap.size 27 #[.int .i64 0, .int .u64 0, .int .u64 0, .int .u64 0, .int .u64 0, .slice none 0 0] :: Rp.kidsA [] none 0 (Rp.byte [q0, q1, q2, q3]) :: Rp.rd R s b op 0 :: μ) rfl rfl))
          clear hst hok
          obtain ⟨x0, x1, x2, x3, x4, x5⟩ := Rx.cel6 HS.out 0 rfl
          obtain ⟨v0, v1, v2, v3, v4, v5⟩ := Rp.free6 HS.out 0 rfl
          have HS9 := Lib.hid (Rp.set6 HS.out (.int .i64 3) (.int .u64 q0) (.int .u64 q1) (.int .u64 q2) (.int .u64 q3) (.slice none 0 0))
          clear HS
          go_wp2
          refine bodyPost_ret (results_row rfl _ _ w.heap.size 27 _ _ rfl (HS9.out.heapAt 0 rfl) Try.underlying27 rfl (by kernel_rfl)) rfl ?_
          exact ⟨_, _, _, _, _, _, Rp.outc_ok rfl, hb, Rp.fine_byte HOK.out, rfl, HS9.out.drop⟩
        | error ep =>
          obtain ⟨e, p⟩ := ep
          obtain ⟨⟨cl, hok, hex⟩, hst⟩ := hl
          obtain ⟨hee, hb⟩ := HFT.out
          obtain ⟨q0, q1, q2, q3, rfl⟩ := Cs.okFour hok
          have HOK := Lib.hid hok
          have HEE := Lib.hid hee
          have hex : ex = .returned (.agg #[.int .u64 q0, .int .u64 q1, .int .u64 q2, .int .u64 q3]) := hex
          subst hex
          have HS := Lib.hid (((Rp.St.leaf (k := 3) (c := Rp.ints [q0, q1, q2, q3]) hst).pick [2, 0, 1] 3 (ρ := aCel w.heap.size 27 #[.int .i64 0, .int .u64 0, .int .u64 0, .int .u64 0, .int .u64 0, .slice none 0 0] :: Rp.kidsA [] none 0 (Rp.byte [q0, q1, q2, q3]) :: Rp.rd R s p op e :: μ) rfl rfl))
          clear hst hok hee
          obtain ⟨x0, x1, x2, x3, x4, x5⟩ := Rx.cel6 HS.out 0 rfl
          obtain ⟨v0, v1, v2, v3, v4, v5⟩ := Rp.free6 HS.out 0 rfl
          have HS9 := Lib.hid (Rp.set6 HS.out (.int .i64 3) (.int .u64 q0) (.int .u64 q1) (.int .u64 q2) (.int .u64 q3) (.slice none 0 0))
          clear HS
          go_wp2
          refine bodyPost_ret (results_row rfl _ _ w.heap.size 27 _ _ rfl (HS9.out.heapAt 0 rfl) Try.underlying27 rfl (by kernel_rfl)) rfl ?_
          exact ⟨_, _, _, _, _, _, Rp.outc_bad HEE.out rfl, hb, Rp.fine_byte HOK.out, rfl, HS9.out.drop⟩
    · have HTA := Lib.hid (fun w' h' => rpTake_any s a op 0 91 R w0 w' (aCel w.heap.size 27 #[.int .i64 0, .int .u64 0, .int .u64 0, .int .u64 0, .int .u64 0, .slice none 0 0] :: μ) h' (by decide) ha hs)
      rw [Rp.tk_no (by rw [Rp.isB_ok]; exact decide_eq_false k91), Rp.isB_ok, decide_eq_false k91] at HTA
      have HTB := Lib.hid (fun w' h' => rpTake_any s a op 0 46 R w0 w' (aCel w.heap.size 27 #[.int .i64 0, .int .u64 0, .int .u64 0, .int .u64 0, .int .u64 0, .slice none 0 0] :: μ) h' (by decide) ha hs)
      by_cases k46 : Rp.pk s a = 46
      · have hlt := Rp.pk_lt 46 (by decide) k46
        rw [Rp.tk_yes (by rw [Rp.isB_ok]; exact decide_eq_true k46), Rp.isB_ok, decide_eq_true k46] at HTB
        rw [Rp.atom_dot k46]
        obtain ⟨t0, t1, t2, t3, ht⟩ := Cs.okFour (Cs.ok_of fun x => decide (x = 10))
        have hok := Cs.ok_of fun b => decide (b ≠ 10)
        obtain ⟨q0, q1, q2, q3, hq⟩ := Cs.okFour hok
        have HRG := Lib.hid (fun W => Rp.clRange_one 10 (by decide) ht W)
        have HNT := Lib.hid (fun W => Rp.clNot_dot ht hq W)
        rw [hq] at hok ⊢
        have HOK := Lib.hid hok
        clear k40 k91 k46 ht hq hok
        go_enter Try.func177, Try.ntmps177
        go_wp2_with (fail)
        go_at_call 157
        refine HIS.out.mono ?_
        rintro ex w1 ⟨rfl, hst⟩
        go_wp2_with (fail)
        go_at_call 116
        refine (HTA.out _ hst).mono ?_
        clear hst
        rintro ex w2 ⟨rfl, hst⟩
        go_wp2_with (fail)
        go_at_call 116
        refine (HTB.out _ hst).mono ?_
        clear hst
        rintro ex w3 ⟨rfl, hst⟩
        go_wp2_with (fail)
        go_at_call 206
        refine (HRG.out _).mono ?_
        rintro ex w4 ⟨rfl, hb4⟩
        have hst := hst.call hb4
        go_wp2_with (fail)
        go_at_call 205
        refine (HNT.out _).mono ?_
        rintro ex w5 ⟨rfl, hb5⟩
        have HS := Lib.hid (((Rp.St.leaf (k := 3) (c := Rp.ints [q0, q1, q2, q3]) (hst.call hb5)).pick [2, 0, 1] 3 (ρ := aCel w.heap.size 27 #[.int .i64 0, .int .u64 0, .int .u64 0, .int .u64 0, .int .u64 0, .slice none 0 0] :: Rp.kidsA [] none 0 (Rp.byte [q0, q1, q2, q3]) :: Rp.rd R s (a + 1 : Nat) op 0 :: μ) rfl rfl))
        clear hst hb4 hb5
        obtain ⟨x0, x1, x2, x3, x4, x5⟩ := Rx.cel6 HS.out 0 rfl
        obtain ⟨v0, v1, v2, v3, v4, v5⟩ := Rp.free6 HS.out 0 rfl
        have HS9 := Lib.hid (Rp.set6 HS.out (.int .i64 3) (.int .u64 q0) (.int .u64 q1) (.int .u64 q2) (.int .u64 q3) (.slice none 0 0))
        clear HS
        go_wp2
        refine bodyPost_ret (results_row rfl _ _ w.heap.size 27 _ _ rfl (HS9.out.heapAt 0 rfl) Try.underlying27 rfl (by kernel_rfl)) rfl ?_
        exact ⟨_, _, _, _, _, _, Rp.outc_ok rfl, hlt, Rp.fine_byte HOK.out, rfl, HS9.out.drop⟩
      · rw [Rp.tk_no (by rw [Rp.isB_ok]; exact decide_eq_false k46), Rp.isB_ok, decide_eq_false k46] at HTB
        rw [Rp.atom_chr k40 k91 k46]
        have HCH := Lib.hid (fun w' h' => rpChar_any s a op ha hs R w0 w' (aCel w.heap.size 27 #[.int .i64 0, .int .u64 0, .int .u64 0, .int .u64 0, .int .u64 0, .slice none 0 0] :: μ) h')
        have HFT := Lib.hid (Rp.chr_fit (s := s) (a := a) ha)
        clear k40 k91 k46
        obtain ⟨CH, hCH⟩ : ∃ r, Rp.chr s a = r := ⟨_, rfl⟩
        rw [hCH] at HCH HFT ⊢
        clear hCH
        go_enter Try.func177, Try.ntmps177
        go_wp2_with (fail)
        go_at_call 157
        refine HIS.out.mono ?_
        rintro ex w1 ⟨rfl, hst⟩
        go_wp2_with (fail)
        go_at_call 116
        refine (HTA.out _ hst).mono ?_
        clear hst
        rintro ex w2 ⟨rfl, hst⟩
        go_wp2_with (fail)
        go_at_call 116
        refine (HTB.out _ hst).mono ?_
        clear hst
        rintro ex w3 ⟨rfl, hst⟩
        go_wp2_with (fail)
        go_at_call 207
        refine (HCH.out _ hst).mono ?_
        clear hst
        intro ex w4 hl
        cases CH with
        | ok xb =>
          obtain ⟨x, b⟩ := xb
          obtain ⟨rfl, hst⟩ := hl
          obtain ⟨-, hb, hx⟩ := HFT.out
          have hok := Cs.ok_of fun y => decide (y = x)
          obtain ⟨q0, q1, q2, q3, hq⟩ := Cs.okFour hok
          have HRG := Lib.hid (fun W => Rp.clRange_one x hx hq W)
          have hxw := Rp.wrap_b hx
          have HQ := Lib.hid hq
          rw [hq] at hok
          have HOK := Lib.hid hok
          clear hok hq
          go_wp2_with (fail)
          go_at_call 206
          refine (HRG.out _).mono ?_
          rintro ex w5 ⟨rfl, hb5⟩
          have HS := Lib.hid (((Rp.St.leaf (k := 3) (c := Rp.ints [q0, q1, q2, q3]) (hst.call hb5)).pick [2, 0, 1] 3 (ρ := aCel w.heap.size 27 #[.int .i64 0, .int .u64 0, .int .u64 0, .int .u64 0, .int .u64 0, .slice none 0 0] :: Rp.kidsA [] none 0 (Rp.byte [q0, q1, q2, q3]) :: Rp.rd R s b op 0 :: μ) rfl rfl))
          clear hst hb5
          obtain ⟨x0, x1, x2, x3, x4, x5⟩ := Rx.cel6 HS.out 0 rfl
          obtain ⟨v0, v1, v2, v3, v4, v5⟩ := Rp.free6 HS.out 0 rfl
          have HS9 := Lib.hid (Rp.set6 HS.out (.int .i64 3) (.int .u64 q0) (.int .u64 q1) (.int .u64 q2) (.int .u64 q3) (.slice none 0 0))
          clear HS
          go_wp2
          refine bodyPost_ret (results_row rfl _ _ w.heap.size 27 _ _ rfl (HS9.out.heapAt 0 rfl) Try.underlying27 rfl (by kernel_rfl)) rfl ?_
          exact ⟨_, _, _, _, _, _, Rp.outc_ok (by rw [← HQ.out]; rfl), hb, Rp.fine_byte HOK.out, rfl, HS9.out.drop⟩
        | error ep =>
          obtain ⟨e, p⟩ := ep
          obtain ⟨⟨x, hx, rfl⟩, hst⟩ := hl
          obtain ⟨hee, hb⟩ := HFT.out
          have HEE := Lib.hid hee
          have hok := Cs.ok_of fun y => decide (y = x)
          obtain ⟨q0, q1, q2, q3, hq⟩ := Cs.okFour hok
          have HRG := Lib.hid (fun W => Rp.clRange_one x hx hq W)
          have hxw := Rp.wrap_b hx
          rw [hq] at hok
          have HOK := Lib.hid hok
          clear hok hq hee
          go_wp2_with (fail)
          go_at_call 206
          refine (HRG.out _).mono ?_
          rintro ex w5 ⟨rfl, hb5⟩
          have HS := Lib.hid (((Rp.St.leaf (k := 3) (c := Rp.ints [q0, q1, q2, q3]) (hst.call hb5)).pick [2, 0, 1] 3 (ρ := aCel w.heap.size 27 #[.int .i64 0, .int .u64 0, .int .u64 0, .int .u64 0, .int .u64 0, .slice none 0 0] :: Rp.kidsA [] none 0 (Rp.byte [q0, q1, q2, q3]) :: Rp.rd R s p op e :: μ) rfl rfl))
          clear hst hb5
          obtain ⟨x0, x1, x2, x3, x4, x5⟩ := Rx.cel6 HS.out 0 rfl
          obtain ⟨v0, v1, v2, v3, v4, v5⟩ := Rp.free6 HS.out 0 rfl
          have HS9 := Lib.hid (Rp.set6 HS.out (.int .i64 3) (.int .u64 q0) (.int .u64 q1) (.int .u64 q2) (.int .u64 q3) (.slice none 0 0))
          clear HS
          go_wp2
          refine bodyPost_ret (results_row rfl _ _ w.heap.size 27 _ _ rfl (HS9.out.heapAt 0 rfl) Try.underlying27 rfl (by kernel_rfl)) rfl ?_
          exact ⟨_, _, _, _, _, _, Rp.outc_bad HEE.out rfl, hb, Rp.fine_byte HOK.out, rfl, HS9.out.drop⟩


set_option maxRecDepth 100000 in
theorem rpBrk0_any (s : ByteArray) : Rp.TB 203 s Rp.deep 30 := by
  intro a R w0 w μ ha h
  have HF := Lib.hid (fun w' h' => rpFail_any s a 30 0 7 R w0 w' (aCel w.heap.size 27 #[.int .i64 0, .int .u64 0, .int .u64 0, .int .u64 0, .int .u64 0, .slice none 0 0] :: μ) h')
  rw [show Rp.errOf 0 7 = 7 from rfl] at HF
  have hst := (h.alloc #[.int .i64 0, .int .u64 0, .int .u64 0, .int .u64 0, .int .u64 0, .slice none 0 0] 27).get2
  have HST := Lib.hid hst
  obtain ⟨c0, c1, c2, c3, f1, f2, f3⟩ := Rp.rdAt hst
  clear h hst
  go_enter Try.func203, Try.ntmps203
  go_wp2_with (fail)
  go_at_call 53
  refine (HF.out _ HST.out).mono ?_
  rintro ex w1 ⟨rfl, hst⟩
  have HS := Lib.hid (((Rp.St.leaf (k := 0) (c := Rp.ints Dm.zero) hst).pick [2, 0, 1] 3 (ρ := aCel w.heap.size 27 #[.int .i64 0, .int .u64 0, .int .u64 0, .int .u64 0, .int .u64 0, .slice none 0 0] :: Rp.kidsA [] none 0 (.mk 0 (Rp.ints Dm.zero) []) :: Rp.rd R s a 30 7 :: μ) rfl rfl))
  clear hst c0 c1 c2 c3 f1 f2 f3
  obtain ⟨x0, x1, x2, x3, x4, x5⟩ := Rx.cel6 HS.out 0 rfl
  obtain ⟨v0, v1, v2, v3, v4, v5⟩ := Rp.free6 HS.out 0 rfl
  have HS9 := Lib.hid (Rp.set6 HS.out (.int .i64 0) (.int .u64 0) (.int .u64 0) (.int .u64 0) (.int .u64 0) (.slice none 0 0))
  clear HS
  go_wp2
  refine bodyPost_ret (results_row rfl _ _ w.heap.size 27 _ _ rfl (HS9.out.heapAt 0 rfl) Try.underlying27 rfl (by kernel_rfl)) rfl ?_
  exact ⟨_, _, _, _, _, _, Rp.outc_bad (.inr rfl) rfl, (by omega), (Rp.fine_mk (by decide) (by decide) Rp.zero_ok), rfl, HS9.out.drop⟩

namespace Rp
theorem brk_none {s : ByteArray} {inner : Nat → Re Rx} {a : Nat} (h : pk s (a + 1) = 41) : brk s inner a = .ok (empty, a + 2) := by unfold brk; rw [if_pos h]
theorem brk_in {s : ByteArray} {inner : Nat → Re Rx} {a : Nat} (h : ¬ pk s (a + 1) = 41) : brk s inner a = on (inner (a + 1)) fun t b => if pk s b = 41 then .ok (t, b + 1) else .error (6, b) := by unfold brk; rw [if_neg h]
theorem outc_brk {s : ByteArray} {r : Re Rx} {t : Rx} {b : Nat} {e : Int} (h : Outc r t b e) : Outc (on r fun t b => if pk s b = 41 then .ok (t, b + 1) else .error (6, b)) t (tk s b e 41) (if isB s b e 41 = true then e else errOf e 6) := by
  rcases h with ⟨rfl, rfl⟩ | ⟨he, rfl⟩
  · by_cases hp : pk s b = 41
    · have hi : isB s b 0 41 = true := by rw [isB_ok]; exact decide_eq_true hp
      rw [tk_yes hi, if_pos hi]
      exact outc_ok (by simp only [on]; rw [if_pos hp])
    · have hi : isB s b 0 41 = false := by rw [isB_ok]; exact decide_eq_false hp
      rw [tk_no hi, if_neg (by rw [hi]; decide)]
      exact outc_bad (.inl rfl) (by simp only [on]; rw [if_neg hp]; rfl)
  · have hi : isB s b e 41 = false := isB_bad (by omega)
    rw [tk_no hi, if_neg (by rw [hi]; decide)]
    unfold errOf
    rw [if_neg (by omega)]
    exact outc_bad he rfl
end Rp

set_option maxRecDepth 100000 in
set_option maxHeartbeats 4000000 in
theorem rpBrkS_any (s : ByteArray) (hs : s.size ≤ 300) (inner : Nat → Rp.Re Rx) (op : Int) (h0 : 0 ≤ op) (h1 : op < 30) (hin : Rp.TC 52 s inner (op + 1)) : Rp.TB 203 s (Rp.brk s inner) op := by
  intro a R w0 w μ ha h
  have hst := (h.alloc #[.int .i64 0, .int .u64 0, .int .u64 0, .int .u64 0, .int .u64 0, .slice none 0 0] 27).get2
  have HST := Lib.hid hst
  obtain ⟨c0, c1, c2, c3, f1, f2, f3⟩ := Rp.rdAt hst
  have hop : (op == 30) = false := by rw [beq_eq_false_iff_ne]; omega
  have haw : IntKind.i64.wrap ((a : Int) + 1) = (a : Int) + 1 := IntWalk.i64_in _ (by omega)
  have how : IntKind.i64.wrap (op + 1) = op + 1 := IntWalk.i64_in _ (by omega)
  have how2 : IntKind.i64.wrap (op + 1 - 1) = op := by rw [Int.add_sub_cancel]; exact IntWalk.i64_in _ (by omega)
  have HS1 : Hid (St w0 ((w.alloc (.cells #[.int .i64 0, .int .u64 0, .int .u64 0, .int .u64 0, .int .u64 0, .slice none 0 0] 27)).setCell ⟨R, 1, none⟩ (.int .i64 ((a : Int) + 1))) (Rp.rd R s (a + 1 : Nat) op 0 :: aCel w.heap.size 27 #[.int .i64 0, .int .u64 0, .int .u64 0, .int .u64 0, .int .u64 0, .slice none 0 0] :: μ)) := Lib.hid (by rw [Rp.nc]; exact Rp.setAtR hst _)
  have HTA := Lib.hid (fun w' h' => rpTake_any s (a + 1) op 0 41 R w0 w' (aCel w.heap.size 27 #[.int .i64 0, .int .u64 0, .int .u64 0, .int .u64 0, .int .u64 0, .slice none 0 0] :: μ) h' (by decide) ha hs)
  have HIN := Lib.hid hin
  clear h hst hin HST
  by_cases k41 : Rp.pk s (a + 1) = 41
  · have hlt := Rp.pk_lt 41 (by decide) k41
    rw [Rp.tk_yes (by rw [Rp.isB_ok]; exact decide_eq_true k41), Rp.isB_ok, decide_eq_true k41] at HTA
    rw [Rp.brk_none k41]
    clear k41
    go_enter Try.func203, Try.ntmps203
    go_wp2_with (fail)
    go_at_call 116
    refine (HTA.out _ HS1.out).mono ?_
    rintro ex w1 ⟨rfl, hst⟩
    have HS := Lib.hid (((Rp.St.leaf (k := 2) (c := Rp.ints Dm.zero) hst).pick [2, 0, 1] 3 (ρ := aCel w.heap.size 27 #[.int .i64 0, .int .u64 0, .int .u64 0, .int .u64 0, .int .u64 0, .slice none 0 0] :: Rp.kidsA [] none 0 Rp.empty :: Rp.rd R s (a + 1 + 1 : Nat) op 0 :: μ) rfl rfl))
    clear hst c0 c1 c2 c3 f1 f2 f3
    obtain ⟨x0, x1, x2, x3, x4, x5⟩ := Rx.cel6 HS.out 0 rfl
    obtain ⟨v0, v1, v2, v3, v4, v5⟩ := Rp.free6 HS.out 0 rfl
    have HS9 := Lib.hid (Rp.set6 HS.out (.int .i64 2) (.int .u64 0) (.int .u64 0) (.int .u64 0) (.int .u64 0) (.slice none 0 0))
    clear HS
    go_wp2
    refine bodyPost_ret (results_row rfl _ _ w.heap.size 27 _ _ rfl (HS9.out.heapAt 0 rfl) Try.underlying27 rfl (by kernel_rfl)) rfl ?_
    exact ⟨_, _, _, _, _, _, Rp.outc_ok rfl, hlt, Rp.fine_empty, rfl, HS9.out.drop⟩
  · rw [Rp.tk_no (by rw [Rp.isB_ok]; exact decide_eq_false k41), Rp.isB_ok, decide_eq_false k41] at HTA
    rw [Rp.brk_in k41]
    clear k41
    go_enter Try.func203, Try.ntmps203
    go_wp2_with (fail)
    go_at_call 116
    refine (HTA.out _ HS1.out).mono ?_
    rintro ex w1 ⟨rfl, hst⟩
    clear c0 c1 c2 c3 f1 f2 f3
    obtain ⟨c0, c1, c2, c3, f1, f2, f3⟩ := Rp.rdAt hst
    have HS2 := Lib.hid (Rp.setOp hst (op + 1))
    clear hst
    go_wp2_with (fail)
    go_at_call 52
    refine (HIN.out (a + 1) R w0 _ _ ha HS2.out).mono ?_
    rintro ex w2 ⟨t, b, e, ao, c, fp, hout, hb, hf, rfl, hst⟩
    have HOUT := Lib.hid (Rp.outc_brk (s := s) hout)
    have HF := Lib.hid hf
    have HS3 := Lib.hid (((hst.alloc (Rp.rxA t ao c) 27).pick [2, 0, 1, 3] 4 (ρ := Rp.rd R s b (op + 1) e :: aCel w2.heap.size 27 (Rp.rxA t ao c) :: Rp.kidsA fp ao c t :: aCel w.heap.size 27 #[.int .i64 0, .int .u64 0, .int .u64 0, .int .u64 0, .int .u64 0, .slice none 0 0] :: μ) rfl rfl))
    have HS4 := Lib.hid (Rp.setOp HS3.out op)
    clear hst hout hf c0 c1 c2 c3 f1 f2 f3
    have HTA2 := Lib.hid (fun w' h' => rpTake_any s b op e 41 R w0 w' (aCel w2.heap.size 27 (Rp.rxA t ao c) :: Rp.kidsA fp ao c t :: aCel w.heap.size 27 #[.int .i64 0, .int .u64 0, .int .u64 0, .int .u64 0, .int .u64 0, .slice none 0 0] :: μ) h' (by decide) hb hs)
    have HFA := Lib.hid (fun w' h' => rpFail_any s (Rp.tk s b e 41 : Nat) op e 6 R w0 w' (aCel w2.heap.size 27 (Rp.rxA t ao c) :: Rp.kidsA fp ao c t :: aCel w.heap.size 27 #[.int .i64 0, .int .u64 0, .int .u64 0, .int .u64 0, .int .u64 0, .slice none 0 0] :: μ) h')
    have hb2 := Rp.tk_le (s := s) (a := b) (e := e) (b := 41) hb (by decide)
    unfold Rp.rxA at HS3 HS4 HTA2 HFA ⊢
    obtain ⟨c0, c1, c2, c3, f1, f2, f3⟩ := Rp.rdAt HS3.out
    generalize hTKE : Rp.tk s b e 41 = tkb at *
    clear hTKE HS1 HS2 HTA
    obtain ⟨IB, hIB⟩ : ∃ IB, Rp.isB s b e 41 = IB := ⟨_, rfl⟩
    rw [hIB] at HTA2 HOUT
    clear hIB
    cases IB with
    | true =>
      rw [if_pos rfl] at HOUT
      go_wp2_with (fail)
      go_at_call 116
      refine (HTA2.out _ HS4.out).mono ?_
      rintro ex w5 ⟨rfl, hst⟩
      clear c0 c1 c2 c3 f1 f2 f3
      obtain ⟨y0, y1, y2, y3, y4, y5⟩ := Rx.cel6 hst 1 rfl
      have HS := Lib.hid (hst.pick [3, 2, 0] 4 (ρ := aCel w.heap.size 27 #[.int .i64 0, .int .u64 0, .int .u64 0, .int .u64 0, .int .u64 0, .slice none 0 0] :: Rp.kidsA fp ao c t :: Rp.rd R s tkb op e :: μ) rfl rfl)
      clear hst HS3 HS4
      obtain ⟨x0, x1, x2, x3, x4, x5⟩ := Rx.cel6 HS.out 0 rfl
      obtain ⟨v0, v1, v2, v3, v4, v5⟩ := Rp.free6 HS.out 0 rfl
      have HS9 := Lib.hid (Rp.set6 HS.out (.int .i64 t.kind) (.int .u64 (Rp.cw t 0)) (.int .u64 (Rp.cw t 1)) (.int .u64 (Rp.cw t 2)) (.int .u64 (Rp.cw t 3)) (.slice ao t.kids.length c))
      clear HS
      go_wp2
      refine bodyPost_ret (results_row rfl _ _ w.heap.size 27 _ _ rfl (HS9.out.heapAt 0 rfl) Try.underlying27 rfl (by kernel_rfl)) rfl ?_
      exact ⟨_, _, _, _, _, _, HOUT.out, hb2, HF.out, rfl, HS9.out.drop⟩
    | false =>
      rw [if_neg (by decide)] at HOUT
      go_wp2_with (fail)
      go_at_call 116
      refine (HTA2.out _ HS4.out).mono ?_
      rintro ex w5 ⟨rfl, hst⟩
      go_wp2_with (fail)
      go_at_call 53
      refine (HFA.out _ hst).mono ?_
      clear hst
      rintro ex w6 ⟨rfl, hst⟩
      clear c0 c1 c2 c3 f1 f2 f3
      obtain ⟨y0, y1, y2, y3, y4, y5⟩ := Rx.cel6 hst 1 rfl
      have HS := Lib.hid (hst.pick [3, 2, 0] 4 (ρ := aCel w.heap.size 27 #[.int .i64 0, .int .u64 0, .int .u64 0, .int .u64 0, .int .u64 0, .slice none 0 0] :: Rp.kidsA fp ao c t :: Rp.rd R s tkb op (Rp.errOf e 6) :: μ) rfl rfl)
      clear hst HS3 HS4
      obtain ⟨x0, x1, x2, x3, x4, x5⟩ := Rx.cel6 HS.out 0 rfl
      obtain ⟨v0, v1, v2, v3, v4, v5⟩ := Rp.free6 HS.out 0 rfl
      have HS9 := Lib.hid (Rp.set6 HS.out (.int .i64 t.kind) (.int .u64 (Rp.cw t 0)) (.int .u64 (Rp.cw t 1)) (.int .u64 (Rp.cw t 2)) (.int .u64 (Rp.cw t 3)) (.slice ao t.kids.length c))
      clear HS
      go_wp2
      refine bodyPost_ret (results_row rfl _ _ w.heap.size 27 _ _ rfl (HS9.out.heapAt 0 rfl) Try.underlying27 rfl (by kernel_rfl)) rfl ?_
      exact ⟨_, _, _, _, _, _, HOUT.out, hb2, HF.out, rfl, HS9.out.drop⟩
end Go.Proofs.Ytfelikfppjlcmaa

/-
  The reference's reader of regular expressions: peek, wrong, sign, digit, pair.
-/
namespace Go.Proofs.Ytfelikfppjlcmaa
set_option linter.unusedVariables false
set_option linter.unusedSimpArgs false
open Go.ChangeShapes Go.WideShapes Go.ChangeAt Go.RowKit

namespace Rp
/-- The reference's reader: the text, where it is, how many brackets are open. -/
def rt (T : Nat) (s : ByteArray) (a op : Int) : Asrt := aCel T 130 #[.string s, .int .i64 a, .int .i64 op]
def sp (g : Nat) (e a : Int) : Asrt := aCel g 136 #[.int .i64 e, .int .i64 a]
theorem rtAt {w0 w : World} {T : Nat} {s : ByteArray} {a op : Int} {μ : List Asrt} (h : St w0 w (rt T s a op :: μ)) :
    w.cell? ⟨T, 0, none⟩ = some (.string s) ∧ w.cell? ⟨T, 1, none⟩ = some (.int .i64 a) ∧ w.cell? ⟨T, 2, none⟩ = some (.int .i64 op) ∧ w.frozen? ⟨T, 1, none⟩ = false ∧ w.frozen? ⟨T, 2, none⟩ = false :=
  ⟨h.celAt (i := 0) rfl, h.celAt (i := 1) rfl, h.celAt (i := 2) rfl, h.celFree 1, h.celFree 2⟩
theorem rtSetA {w0 w : World} {T : Nat} {s : ByteArray} {a op : Int} {μ : List Asrt} (h : St w0 w (rt T s a op :: μ)) (x : Int) : St w0 (w.setCell ⟨T, 1, none⟩ (.int .i64 x)) (rt T s x op :: μ) := h.setCel 1 _
theorem rtSetO {w0 w : World} {T : Nat} {s : ByteArray} {a op : Int} {μ : List Asrt} (h : St w0 w (rt T s a op :: μ)) (x : Int) : St w0 (w.setCell ⟨T, 2, none⟩ (.int .i64 x)) (rt T s a x :: μ) := h.setCel 2 _
def sgI (p : Int) : Bool := p == 40 || p == 41 || p == 91 || p == 93 || p == 124 || p == 42 || p == 43 || p == 63 || p == 46 || p == 94 || p == 45 || p == 92
theorem sgI_nat : ∀ b, b < 256 → sgI (b : Nat) = Rct.isSign b := by decide +kernel
def hxI (p : Int) : Int := if 48 ≤ p ∧ p ≤ 57 then p - 48 else if 97 ≤ p ∧ p ≤ 102 then p - 87 else -1
theorem hxI_dig (s : ByteArray) (a : Nat) : hxI (pk s a) = match dig s a with | some n => (n : Int) | none => -1 := by
  unfold dig
  by_cases h : a < s.size
  · rw [pk_in h, if_pos h]
    have : ∀ b, b < 256 → hxI (b : Nat) = match hx b with | some n => (n : Int) | none => -1 := by decide +kernel
    exact this _ (byt_lt s a)
  · rw [pk_out h, if_neg h]
    rfl
end Rp

set_option maxRecDepth 100000 in
theorem rPeek_any (s : ByteArray) (a : Nat) (op : Int) (T : Nat) (w0 w : World) (μ : List Asrt) (h : St w0 w (Rp.rt T s a op :: μ)) (hs : s.size ≤ 300) :
    Calls Try.prog 120 #[.pointer (some ⟨T, 0, none⟩)] w fun ex w' => ex = .returned (.int .i64 (Rp.pk s a)) ∧ St w0 w' (Rp.rt T s a op :: μ) := by
  obtain ⟨c0, c1, c2, f1, f2⟩ := Rp.rtAt h
  have HST := Lib.hid (fun n => h.drewN n)
  clear h
  by_cases hl : a < s.size
  · rw [Rp.pk_in hl]
    have hlt : (a : Int) < s.size := by omega
    have hlt2 : decide ((a : Int) < s.size) = true := decide_eq_true hlt
    have ha0 : (0 : Int) ≤ a := by omega
    have hg : ((s[a]'hl).toNat : Int) = (Rp.byt s a : Int) := by rw [Rp.byt_get]
    have hb := Rp.byt_lt s a
    have hw : IntKind.i64.wrap (Rp.byt s a : Int) = (Rp.byt s a : Int) := IntWalk.i64_in _ (by omega)
    generalize (Rp.byt s a : Int) = z at *
    clear hb
    go_enter Try.func120, Try.ntmps120
    go_wp2
    go_quiet (fail)
    have HS := Lib.hid (HST.out nq)
    clear HST c0 c1 c2 f1 f2
    generalize World.drewN _ _ = w1 at *
    obtain ⟨c0, c1, c2, f1, f2⟩ := Rp.rtAt HS.out
    go_wp2
    go_quiet (fail)
    have HS := Lib.hid (HS.out.drewN nq)
    go_wp2
    go_ret
    exact ⟨rfl, HS.out⟩
  · rw [Rp.pk_out hl]
    have hlt2 : decide ((a : Int) < s.size) = false := decide_eq_false (by omega)
    go_enter Try.func120, Try.ntmps120
    go_wp2
    go_quiet (fail)
    have HS := Lib.hid (HST.out nq)
    go_wp2
    go_ret
    exact ⟨rfl, HS.out⟩

set_option maxRecDepth 100000 in
theorem rWrong_any (s : ByteArray) (a op : Int) (T : Nat) (w0 w : World) (μ : List Asrt) (h : St w0 w (Rp.rt T s a op :: μ)) :
    Calls Try.prog 56 #[.pointer (some ⟨T, 0, none⟩)] w fun ex w' => ∃ g, ex = .returned (.pointer (some ⟨g, 0, none⟩)) ∧ St w0 w' (Rp.sp g 6 a :: Rp.rt T s a op :: μ) := by
  obtain ⟨c0, c1, c2, f1, f2⟩ := Rp.rtAt h
  have HST := Lib.hid (h.alloc #[.int .i64 6, .int .i64 a] 136)
  clear h
  go_enter Try.func56, Try.ntmps56
  go_wp2
  go_ret
  exact ⟨_, rfl, HST.out⟩

set_option maxRecDepth 100000 in
set_option maxHeartbeats 4000000 in
theorem rSign_any (p : Int) (w : World) : Calls Try.prog 226 #[.int .i64 p] w fun ex w' => ex = .returned (.bool (Rp.sgI p)) ∧ w' = w := by
  obtain ⟨V, hV⟩ : ∃ V, Rp.sgI p = V := ⟨_, rfl⟩
  rw [hV]
  have HV := Lib.hid hV
  clear hV
  by_cases h40 : p = 40
  · subst h40
    obtain rfl : V = true := HV.out.symm.trans (by decide)
    clear HV
    go_enter Try.func226, Try.ntmps226
    go_wp2
    go_ret
    exact ⟨rfl, rfl⟩
  by_cases h41 : p = 41
  · subst h41
    obtain rfl : V = true := HV.out.symm.trans (by decide)
    clear HV
    go_enter Try.func226, Try.ntmps226
    go_wp2
    go_ret
    exact ⟨rfl, rfl⟩
  by_cases h91 : p = 91
  · subst h91
    obtain rfl : V = true := HV.out.symm.trans (by decide)
    clear HV
    go_enter Try.func226, Try.ntmps226
    go_wp2
    go_ret
    exact ⟨rfl, rfl⟩
  by_cases h93 : p = 93
  · subst h93
    obtain rfl : V = true := HV.out.symm.trans (by decide)
    clear HV
    go_enter Try.func226, Try.ntmps226
    go_wp2
    go_ret
    exact ⟨rfl, rfl⟩
  by_cases h124 : p = 124
  · subst h124
    obtain rfl : V = true := HV.out.symm.trans (by decide)
    clear HV
    go_enter Try.func226, Try.ntmps226
    go_wp2
    go_ret
    exact ⟨rfl, rfl⟩
  by_cases h42 : p = 42
  · subst h42
    obtain rfl : V = true := HV.out.symm.trans (by decide)
    clear HV
    go_enter Try.func226, Try.ntmps226
    go_wp2
    go_ret
    exact ⟨rfl, rfl⟩
  by_cases h43 : p = 43
  · subst h43
    obtain rfl : V = true := HV.out.symm.trans (by decide)
    clear HV
    go_enter Try.func226, Try.ntmps226
    go_wp2
    go_ret
    exact ⟨rfl, rfl⟩
  by_cases h63 : p = 63
  · subst h63
    obtain rfl : V = true := HV.out.symm.trans (by decide)
    clear HV
    go_enter Try.func226, Try.ntmps226
    go_wp2
    go_ret
    exact ⟨rfl, rfl⟩
  by_cases h46 : p = 46
  · subst h46
    obtain rfl : V = true := HV.out.symm.trans (by decide)
    clear HV
    go_enter Try.func226, Try.ntmps226
    go_wp2
    go_ret
    exact ⟨rfl, rfl⟩
  by_cases h94 : p = 94
  · subst h94
    obtain rfl : V = true := HV.out.symm.trans (by decide)
    clear HV
    go_enter Try.func226, Try.ntmps226
    go_wp2
    go_ret
    exact ⟨rfl, rfl⟩
  by_cases h45 : p = 45
  · subst h45
    obtain rfl : V = true := HV.out.symm.trans (by decide)
    clear HV
    go_enter Try.func226, Try.ntmps226
    go_wp2
    go_ret
    exact ⟨rfl, rfl⟩
  by_cases h92 : p = 92
  · subst h92
    obtain rfl : V = true := HV.out.symm.trans (by decide)
    clear HV
    go_enter Try.func226, Try.ntmps226
    go_wp2
    go_ret
    exact ⟨rfl, rfl⟩
  have e40 : (p == 40) = false := by rw [beq_eq_false_iff_ne]; exact h40
  have e41 : (p == 41) = false := by rw [beq_eq_false_iff_ne]; exact h41
  have e91 : (p == 91) = false := by rw [beq_eq_false_iff_ne]; exact h91
  have e93 : (p == 93) = false := by rw [beq_eq_false_iff_ne]; exact h93
  have e124 : (p == 124) = false := by rw [beq_eq_false_iff_ne]; exact h124
  have e42 : (p == 42) = false := by rw [beq_eq_false_iff_ne]; exact h42
  have e43 : (p == 43) = false := by rw [beq_eq_false_iff_ne]; exact h43
  have e63 : (p == 63) = false := by rw [beq_eq_false_iff_ne]; exact h63
  have e46 : (p == 46) = false := by rw [beq_eq_false_iff_ne]; exact h46
  have e94 : (p == 94) = false := by rw [beq_eq_false_iff_ne]; exact h94
  have e45 : (p == 45) = false := by rw [beq_eq_false_iff_ne]; exact h45
  have e92 : (p == 92) = false := by rw [beq_eq_false_iff_ne]; exact h92
  obtain rfl : V = false := HV.out.symm.trans (by unfold Rp.sgI; rw [e40, e41, e91, e93, e124, e42, e43, e63, e46, e94, e45, e92]; rfl)
  clear HV h40 h41 h91 h93 h124 h42 h43 h63 h46 h94 h45 h92
  go_enter Try.func226, Try.ntmps226
  go_wp2
  go_ret
  exact ⟨rfl, rfl⟩

set_option maxRecDepth 100000 in
theorem rDigit_any (p : Int) (h0 : -1 ≤ p) (h1 : p < 256) (w : World) : Calls Try.prog 227 #[.int .i64 p] w fun ex w' => ex = .returned (.int .i64 (Rp.hxI p)) ∧ w' = w := by
  obtain ⟨V, hV⟩ : ∃ V, Rp.hxI p = V := ⟨_, rfl⟩
  rw [hV]
  unfold Rp.hxI at hV
  by_cases a1 : 48 ≤ p ∧ p ≤ 57
  · rw [if_pos a1] at hV
    subst hV
    obtain ⟨a1, a2⟩ := a1
    have d1 : decide (48 ≤ p) = true := decide_eq_true a1
    have d2 : decide (p ≤ 57) = true := decide_eq_true a2
    have hw : IntKind.i64.wrap (p - 48) = p - 48 := IntWalk.i64_in _ (by omega)
    go_enter Try.func227, Try.ntmps227
    go_wp2
    go_ret
    exact ⟨rfl, rfl⟩
  · rw [if_neg a1] at hV
    by_cases b1 : 97 ≤ p ∧ p ≤ 102
    · rw [if_pos b1] at hV
      subst hV
      obtain ⟨b1, b2⟩ := b1
      have d1 : decide (48 ≤ p) = true := decide_eq_true (by omega)
      have d2 : decide (p ≤ 57) = false := decide_eq_false (by omega)
      have d0 : 48 ≤ p := by omega
      have d20 : ¬ p ≤ 57 := by omega
      have d3 : decide (97 ≤ p) = true := decide_eq_true b1
      have d4 : decide (p ≤ 102) = true := decide_eq_true b2
      have hw : IntKind.i64.wrap (p - 97 + 10) = p - 87 := by rw [IntWalk.i64_in _ (by omega)]; omega
      have hw2 : IntKind.i64.wrap (p - 97) = p - 97 := IntWalk.i64_in _ (by omega)
      clear a1
      go_enter Try.func227, Try.ntmps227
      go_wp2
      go_ret
      exact ⟨by first | rfl | (congr 3; omega), rfl⟩
    · rw [if_neg b1] at hV
      subst hV
      have hA : (decide (48 ≤ p) && decide (p ≤ 57)) = false := by rw [← Bool.decide_and, decide_eq_false a1]
      have hB : (decide (97 ≤ p) && decide (p ≤ 102)) = false := by rw [← Bool.decide_and, decide_eq_false b1]
      by_cases c1 : 48 ≤ p
      · have c2 : ¬ p ≤ 57 := by omega
        by_cases c3 : 97 ≤ p
        · have c4 : ¬ p ≤ 102 := by omega
          clear a1 b1 hA hB
          go_enter Try.func227, Try.ntmps227
          go_wp2
          go_ret
          exact ⟨rfl, rfl⟩
        · clear a1 b1 hA hB
          go_enter Try.func227, Try.ntmps227
          go_wp2
          go_ret
          exact ⟨rfl, rfl⟩
      · have c3 : ¬ 97 ≤ p := by omega
        clear a1 b1 hA hB
        go_enter Try.func227, Try.ntmps227
        go_wp2
        go_ret
        exact ⟨rfl, rfl⟩

set_option maxRecDepth 100000 in
theorem rPair_any (k : Int) (hk0 : 0 ≤ k) (hk1 : k ≤ 10) (a b : Rx) (ao bo : Option Addr) (c d : Nat) (fp fq : List Nat) (hfa : Rp.Fine a) (hfb : Rp.Fine b) (w0 w : World) (μ : List Asrt) (h : St w0 w (Rp.kidsA fp ao c a :: Rp.kidsA fq bo d b :: μ)) :
    Calls Try.prog 121 #[.int .i64 k, .agg (Rp.rxA a ao c), .agg (Rp.rxA b bo d)] w fun ex w' => ∃ g fr, ex = .returned (.agg (Rp.rxA (Rp.two k a b) (some ⟨g, 0, none⟩) 2)) ∧ St w0 w' (Rp.kidsA fr (some ⟨g, 0, none⟩) 2 (Rp.two k a b) :: μ) := by
  have hst := (((h.alloc (Rp.rxA a ao c) 27).alloc (Rp.rxA b bo d) 27).alloc (Rp.rxA (Rp.two k a b) (some ⟨w.heap.size + 1 + 1 + 1, 0, none⟩) 2) 27).alloc (Rp.rxA a ao c ++ Rp.rxA b bo d) 27
  simp only [World.size_alloc] at hst
  have HST := Lib.hid hst
  clear h hst
  unfold Rp.rxA
  go_enter Try.func121, Try.ntmps121
  go_wp2
  refine bodyPost_ret (results_row rfl _ _ (w.heap.size + 1 + 1) 27 _ _ rfl (HST.out.heapAt 1 rfl) Try.underlying27 rfl (by kernel_rfl)) rfl ?_
  exact ⟨w.heap.size + 1 + 1 + 1, _, rfl, Rp.St.two (HST.out.pick (ρ := aCel (w.heap.size + 1 + 1 + 1) 27 (Rp.rxA a ao c ++ Rp.rxA b bo d) :: Rp.kidsA fp ao c a :: Rp.kidsA fq bo d b :: μ) [0, 4, 5] 6 rfl rfl) hfa hfb⟩
end Go.Proofs.Ytfelikfppjlcmaa
