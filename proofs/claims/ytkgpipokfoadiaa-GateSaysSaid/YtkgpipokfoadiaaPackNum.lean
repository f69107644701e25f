/-
  Num of package pack and of the reference: what they compute.
-/
import Derived.Test.YtkgpipokfoadiaaMem
namespace Go.Proofs.Ytkgpipokfoadiaa
open Go.ChangeShapes Go.WideShapes Go.ChangeAt Go.RowKit

namespace Pack
/-- The bytes of a number, in groups of seven bits, the lowest first. -/
def numF : Nat → Int → List Int
  | 0, _ => []
  | f + 1, n => if n < 128 then [n] else (n % 128 + 128) :: numF f (n / 128)
def num (n : Int) : List Int := numF 10 n
theorem or_fin : ∀ a : Fin 128, a.val ||| 128 = a.val + 128 := by decide
theorem or128 (n : Int) (h0 : 0 ≤ n) (h1 : n < 256) : bits .or .u8 n 128 = n % 128 + 128 := by
  have h := u8_or n 128 h0 h1 (by decide) (by decide)
  rw [h, show (128 : Int).toNat = 128 from rfl]
  have e1 : n.toNat = (if n < 128 then 0 else 128) + (n % 128).toNat := by split <;> omega
  have e : n.toNat ||| 128 = (n % 128).toNat + 128 := by
    have h2 := or_fin ⟨(n % 128).toNat, by omega⟩
    simp only at h2
    by_cases hc : n < 128
    · rw [e1, if_pos hc, Nat.zero_add]; exact h2
    · have : n.toNat = (n % 128).toNat ||| 128 := by rw [h2, e1, if_neg hc]; omega
      rw [this, Nat.or_assoc, Nat.or_self, h2]
  rw [e]
  omega
theorem numF_big (f : Nat) (n : Int) (h : 128 ≤ n) : numF (f + 1) n = (n % 128 + 128) :: numF f (n / 128) := by
  rw [numF, if_neg (by omega)]
theorem numF_small (f : Nat) (n : Int) (h : n < 128) : numF (f + 1) n = [n] := by
  rw [numF, if_pos h]
theorem pow_pos (f : Nat) (k : Int) (h : 1 ≤ k) (hk : k < 128 ^ f) : ∃ f', f = f' + 1 := by
  cases f with
  | zero => simp at hk; omega
  | succ f => exact ⟨f, rfl⟩
theorem pow_pos1 (f : Nat) (k : Int) (h : 128 ≤ k) (hk : k < 128 ^ (f + 1)) : 1 ≤ f := by
  cases f with
  | zero => simp at hk; omega
  | succ f => omega
theorem pow_step (f : Nat) (k : Int) (hk : k < 128 ^ (f + 1)) : k / 128 < 128 ^ f := by
  rw [Int.pow_succ] at hk
  exact Int.ediv_lt_of_lt_mul (by decide) hk
theorem numF_len (f : Nat) : ∀ n, (numF f n).length ≤ f := by
  induction f with
  | zero => intro n; simp [numF]
  | succ f ih =>
    intro n
    rw [numF]
    split
    · simp
    · have := ih (n / 128); simp; omega
end Pack

set_option maxRecDepth 100000 in
theorem num_any (n : Int) (h0 : 0 ≤ n) (hn : n < 18446744073709551616) (w : World) :
    Calls Try.prog 70 #[.int .u64 n] w fun e w' => e = .returned (.string (strOfNums (Pack.num n))) ∧ Below w.heap.size w w' := by
  go_enter Try.func70, Try.ntmps70
  go_wp2
  go_loopw [0, 3] (fun m v wr => ∃ (f : Nat) (k : Int) (xs : List Int), m = .int .u64 k ∧ 0 ≤ k ∧ k < 128 ^ f ∧ k < 18446744073709551616 ∧ xs.length + f = 10 ∧ 1 ≤ f ∧ Own wr w.heap.size 5 1 v (xs.map (Value.int .u8)) ∧ Below w.heap.size w wr ∧ Hid (Pack.num n = xs ++ Pack.numF f k)) (fun m _ _ => (intOf m).toNat)
  case atStart => exact ⟨10, n, [], rfl, h0, by omega, hn, rfl, by omega, Own.nil _ _ _ _, Below.refl _ _, Lib.hid rfl⟩
  case round =>
    obtain ⟨f, k, xs, rfl, hk0, hkf, hk, hxs, hf1, hown, hbl, hnum⟩ := hrel
    have Hkf := Lib.hid hkf; clear hkf
    have hsz := hbl.size
    have HX : ∃ m, xs.length = m ∧ m ≤ 10 := ⟨_, rfl, by omega⟩
    have Hxs := Lib.hid hxs; clear hxs
    have hxl : xs.length ≤ 10 := by obtain ⟨m, h1, h2⟩ := HX; omega
    clear HX
    by_cases hlt : 128 ≤ k
    · go_wp2_with (first
       | (at_builtin; refine app1i u8E rfl _ _ rfl w.heap.size xs rfl (hown.alloc _) _ _ _ rfl (cell_new _ _ _) (by omega) (by unfold maxLen; omega) (by simp; omega) ?_; intro g' n1 cap w1 hown1 hgr1 hg1 hg2))
      have hgr2 : (wr.alloc (Obj.cells #[Value.int IntKind.u8 (bits BinOp.or IntKind.u8 (k % 256) 128)] 5)).grownBy w1 u3.ownBlock := hgr1
      have hb1 := (hbl.alloc hsz _).grown hgr2 (by simp; omega) (fun q hq => (hown.lt q hq).1)
      go_roundw
      case rel =>
        obtain ⟨f, rfl⟩ : ∃ f', f = f' + 1 := Pack.pow_pos f k (by omega) Hkf.out
        refine ⟨f, k / 128, _, rfl, by omega, Pack.pow_step f k Hkf.out, by omega, ?_, Pack.pow_pos1 f k hlt Hkf.out, hown1, hb1, Lib.hid ?_⟩
        · have := Hxs.out; simp; omega
        · rw [hnum.out, Pack.numF_big f k hlt, Pack.or128 _ (by omega) (by omega)]
          simp
      case measure => simp [intOf]; omega
    · go_wp2_with (first
       | (at_builtin; refine app1i u8E rfl _ _ rfl w.heap.size xs rfl (hown.alloc _) _ _ _ rfl (cell_new _ _ _) (by omega) (by unfold maxLen; omega) (by simp; omega) ?_; intro g' n1 cap w1 hown1 hgr1 hg1 hg2; have hcv := str_of_own (P := Try.prog) (dst := 9) Try.underlying125 Try.underlying5 Try.underlying9 _ hown1))
      have hgr2 : (wr.alloc (Obj.cells #[Value.int IntKind.u8 k] 5)).grownBy w1 u3.ownBlock := hgr1
      have hb1 := (hbl.alloc hsz _).grown hgr2 (by simp; omega) (fun q hq => (hown.lt q hq).1)
      go_ret
      refine ⟨?_, hb1⟩
      obtain ⟨f, rfl⟩ : ∃ f', f = f' + 1 := ⟨f - 1, by omega⟩
      rw [hnum.out, Pack.numF_small f k (by omega)]
      rfl

set_option maxRecDepth 100000 in
theorem rnum_any (f : Nat) (hf : f ≤ 100) : ∀ (n : Int) (_ : 0 ≤ n) (_ : n < 128 ^ (f + 1)) (_ : n < 18446744073709551616) (w : World),
    Calls Try.prog 71 #[.int .u64 n] w fun e w' => e = .returned (.string (strOfNums (Pack.numF (f + 1) n))) ∧ Below w.heap.size w w' := by
  induction f with
  | zero =>
    intro n h0 h1 h2 w
    have hlt : n < 128 := by simpa using h1
    clear h1
    have hcv := fun b W => str_of_one (P := Try.prog) Try.underlying125 Try.underlying5 Try.underlying9 n b 1 W
    go_enter Try.func71, Try.ntmps71
    go_wp2
    go_ret
    exact ⟨by rw [Pack.numF_small _ _ hlt]; rfl, (Below.refl _ _).alloc (Nat.le_refl _) _⟩
  | succ f ih =>
    intro n h0 h1 h2 w
    have ih := ih (by omega)
    have H1 := Lib.hid h1; clear h1
    have IH := Lib.hid ih; clear ih
    by_cases hlt : n < 128
    · have hcv := fun b W => str_of_one (P := Try.prog) Try.underlying125 Try.underlying5 Try.underlying9 n b 1 W
      go_enter Try.func71, Try.ntmps71
      go_wp2
      go_ret
      exact ⟨by rw [Pack.numF_small _ _ hlt]; rfl, (Below.refl _ _).alloc (Nat.le_refl _) _⟩
    · have hcv := fun b W => str_of_one (P := Try.prog) Try.underlying125 Try.underlying5 Try.underlying9 (n % 128 + 128) b 1 W
      have HI := Lib.hid (Pack.pow_step (f + 1) n H1.out)
      have e1 : n.tmod 128 = n % 128 := Int.tmod_eq_emod_of_nonneg h0
      have e2 : n.tdiv 128 = n / 128 := Int.tdiv_eq_ediv_of_nonneg h0
      have e3 : IntKind.u8.wrap (n % 128) = n % 128 := by rw [IntKind.wrap_u8]; omega
      have e4 : IntKind.u8.wrap (n % 128 + 128) = n % 128 + 128 := by rw [IntKind.wrap_u8]; omega
      have hln := Pack.numF_len (f + 1) (n / 128)
      have hadd := fun W => run_string_add_sum (P := Try.prog) W (strOfNums [n % 128 + 128]) (strOfNums (Pack.numF (f + 1) (n / 128))) (by rw [strOfNums_size, strOfNums_size]; simp; omega)
      clear hln
      have HF := Lib.hid (show Pack.numF (f + 1 + 1) n = (n % 128 + 128) :: Pack.numF (f + 1) (n / 128) from Pack.numF_big _ _ (by omega))
      have e5 : IntKind.u64.wrap (n / 128) = n / 128 := by simp [IntKind.wrap, IntKind.bits, IntKind.signed]; omega
      go_enter Try.func71, Try.ntmps71
      go_wp2
      go_region_with (go_at_call 71; refine (IH.out _ (by omega) HI.out (by omega) _).mono ?_; rintro e w' ⟨rfl, hb⟩; first | (have hk := bkeep hb (cell_new_drew w _ _)) | skip)
      all_goals go_wp2
      all_goals go_ret
      all_goals refine ⟨by rw [HF.out, strOfNums_cons]; rfl, ?_⟩
      all_goals first
        | exact ((Below.refl _ _).drew.trans hb).alloc hb.size _
        | exact ((Below.refl _ _).alloc (Nat.le_refl _) _).drew.trans (hb.mono (by simp))

theorem rnum10 (n : Int) (h0 : 0 ≤ n) (h1 : n < 18446744073709551616) (w : World) :
    Calls Try.prog 71 #[.int .u64 n] w fun e w' => e = .returned (.string (strOfNums (Pack.num n))) ∧ Below w.heap.size w w' :=
  rnum_any 9 (by decide) n h0 (by have : (128 : Int) ^ (9 + 1) = 1180591620717411303424 := by decide
                                  omega) h1 w
end Go.Proofs.Ytkgpipokfoadiaa
