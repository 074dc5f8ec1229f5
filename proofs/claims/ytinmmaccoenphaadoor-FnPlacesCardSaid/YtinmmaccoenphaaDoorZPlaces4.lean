/- Places: parts PUtf3 PUtf4 PUtf2 PUtf5 Futf8RuneCount PUtf6 FiRunesTo Fsl01Rune FsRuneSize Fsl01Cuts FsRunesTo FiCutOk FsTextOk FiRuneCount Futf8decodeRuneSlow Futf8DecodeRune Fidecode FiPlaceOf FlFnPlaces EvLPlaces EvKind EvOne EvTab, packed by squash.py. -/
import Derived.Lib.RuneCountTail
import GoSem.ClaimWide
import Derived.Lib.LaidTab
import GoSem.PinnedTables
import Derived.Test.YtinmmaccoenphaaDoorZPlaces0
import Derived.Test.YtinmmaccoenphaaDoorZPlaces1
import Derived.Test.YtinmmaccoenphaaDoorZPlaces2
import Derived.Test.YtinmmaccoenphaaDoorZPlaces3
set_option linter.unusedVariables false
set_option linter.unusedSimpArgs false
section
/- Decoding by bits. -/
set_option linter.unusedVariables false
namespace Go.Ev
open Go.RowKit
def fst8 (b : Int) : Int := List.getD utfFirst (Int.toNat b) 0
def msk8 (b : Int) : Int := shrI .i32 (shlI .i32 (IntKind.wrap .i32 (fst8 b)) 31) 31
def slowChk (b : Int) : Bool := (decide (fst8 b ≥ 240) == (decide (b < 194) || decide (245 ≤ b))) &&
  (if b < 128 then bor .i32 (bandn .i32 (IntKind.wrap .i32 b) (msk8 b)) (band .i32 65533 (msk8 b)) == b else if b < 194 ∨ 245 ≤ b then bor .i32 (bandn .i32 (IntKind.wrap .i32 b) (msk8 b)) (band .i32 65533 (msk8 b)) == 65533 else true)
theorem slowTab : ((List.range 256).all fun n => slowChk n) = true := by kernel_rfl
theorem slow_at {b : Int} (h0 : 0 ≤ b) (h1 : b ≤ 255) : slowChk b = true := by
  obtain ⟨n, rfl⟩ : ∃ n : Nat, b = n := ⟨b.toNat, by omega⟩
  have h := slowTab
  rw [List.all_eq_true] at h
  exact h n (List.mem_range.2 (by omega))
theorem slow_hi {b : Int} (h0 : 0 ≤ b) (h1 : b ≤ 255) : decide (fst8 b ≥ 240) = (decide (b < 194) || decide (245 ≤ b)) := by
  have h := slow_at h0 h1
  unfold slowChk at h
  rw [Bool.and_eq_true, beq_iff_eq] at h
  exact h.1
theorem slow_ascii {b : Int} (h0 : 0 ≤ b) (h1 : b < 128) : bor .i32 (bandn .i32 (IntKind.wrap .i32 b) (msk8 b)) (band .i32 65533 (msk8 b)) = b := by
  have h := slow_at h0 (by omega)
  unfold slowChk at h
  rw [Bool.and_eq_true, if_pos h1] at h
  exact eq_of_beq h.2
theorem slow_bad {b : Int} (h0 : 128 ≤ b) (h1 : b ≤ 255) (h2 : b < 194 ∨ 245 ≤ b) : bor .i32 (bandn .i32 (IntKind.wrap .i32 b) (msk8 b)) (band .i32 65533 (msk8 b)) = 65533 := by
  have h := slow_at (b := b) (by omega) h1
  unfold slowChk at h
  rw [Bool.and_eq_true, if_neg (by omega), if_pos h2] at h
  exact eq_of_beq h.2
def maskChk (b : Int) : Bool := (if 192 ≤ b ∧ b < 224 then band .u8 b 31 == b - 192 else true) && (if 128 ≤ b ∧ b ≤ 191 then band .u8 b 63 == b - 128 else true) && (if 224 ≤ b ∧ b < 240 then band .u8 b 15 == b - 224 else true) && (if 240 ≤ b ∧ b < 248 then band .u8 b 7 == b - 240 else true)
theorem maskTab : ((List.range 256).all fun n => maskChk n) = true := by kernel_rfl
theorem mask_at {b : Int} (h0 : 0 ≤ b) (h1 : b ≤ 255) : maskChk b = true := by
  obtain ⟨n, rfl⟩ : ∃ n : Nat, b = n := ⟨b.toNat, by omega⟩
  have h := maskTab
  rw [List.all_eq_true] at h
  exact h n (List.mem_range.2 (by omega))
theorem mk31 {b : Int} (h0 : 192 ≤ b) (h1 : b < 224) : band .u8 b 31 = b - 192 := by
  have h := mask_at (b := b) (by omega) (by omega)
  unfold maskChk at h
  rw [if_pos (show 192 ≤ b ∧ b < 224 from ⟨h0, h1⟩), Bool.and_eq_true, Bool.and_eq_true, Bool.and_eq_true] at h
  exact eq_of_beq h.1.1.1
theorem mk63 {b : Int} (h0 : 128 ≤ b) (h1 : b ≤ 191) : band .u8 b 63 = b - 128 := by
  have h := mask_at (b := b) (by omega) (by omega)
  unfold maskChk at h
  rw [if_pos (show 128 ≤ b ∧ b ≤ 191 from ⟨h0, h1⟩), Bool.and_eq_true, Bool.and_eq_true, Bool.and_eq_true] at h
  exact eq_of_beq h.1.1.2
theorem mk15 {b : Int} (h0 : 224 ≤ b) (h1 : b < 240) : band .u8 b 15 = b - 224 := by
  have h := mask_at (b := b) (by omega) (by omega)
  unfold maskChk at h
  rw [if_pos (show 224 ≤ b ∧ b < 240 from ⟨h0, h1⟩), Bool.and_eq_true, Bool.and_eq_true, Bool.and_eq_true] at h
  exact eq_of_beq h.1.2
theorem mk7 {b : Int} (h0 : 240 ≤ b) (h1 : b < 248) : band .u8 b 7 = b - 240 := by
  have h := mask_at (b := b) (by omega) (by omega)
  unfold maskChk at h
  rw [if_pos (show 240 ≤ b ∧ b < 248 from ⟨h0, h1⟩), Bool.and_eq_true, Bool.and_eq_true, Bool.and_eq_true] at h
  exact eq_of_beq h.2
theorem wrap32 {n : Int} (h0 : 0 ≤ n) (h1 : n < 2147483648) : IntKind.i32.wrap n = n := by
  simp only [IntKind.wrap, IntKind.bits, IntKind.signed, Bool.true_and]
  simp
  split <;> omega
theorem shl32 {a : Int} {k m : Nat} (hm : 2 ^ k = m) (hk : k ≤ 32) (h0 : 0 ≤ a) (h1 : a * m < 2147483648) : shlI .i32 a (k : Int) = a * m := by
  unfold shlI
  have e : min ((k : Int).toNat) IntKind.i32.bits = k := by
    rw [Int.toNat_natCast]
    exact Nat.min_eq_left hk
  rw [e, show ((2 : Int) ^ k) = ((m : Nat) : Int) by rw [← hm]; simp]
  exact wrap32 (Int.mul_nonneg h0 (by omega)) h1
theorem bor32 {a b : Int} {k m : Nat} (hm : 2 ^ k = m) (h0 : 0 ≤ a) (hb0 : 0 ≤ b) (hb : b < m) (h1 : a * m + b < 2147483648) (hs : 0 ≤ a * m) : bor .i32 (a * m) b = a * m + b := by
  obtain ⟨x, rfl⟩ : ∃ n : Nat, a = n := ⟨a.toNat, by omega⟩
  obtain ⟨y, rfl⟩ : ∃ n : Nat, b = n := ⟨b.toNat, by omega⟩
  have e : ((x : Int) * (m : Int)) = ((x * m : Nat) : Int) := by simp
  rw [e] at h1 hs ⊢
  generalize hz : x * m = z at h1 hs ⊢
  unfold bor
  have g1 : (BitVec.ofInt IntKind.i32.bits ((z : Nat) : Int)).toNat = z := by
    rw [BitVec.ofInt_natCast, BitVec.toNat_ofNat]
    exact Nat.mod_eq_of_lt (show z < 2 ^ 32 by omega)
  have g2 : (BitVec.ofInt IntKind.i32.bits ((y : Nat) : Int)).toNat = y := by
    rw [BitVec.ofInt_natCast, BitVec.toNat_ofNat]
    exact Nat.mod_eq_of_lt (show y < 2 ^ 32 by omega)
  rw [BitVec.toNat_or, g1, g2]
  have h3 : z ||| y = z + y := by
    have := Nat.shiftLeft_add_eq_or_of_lt (i := k) (b := y) (by rw [hm]; omega) x
    rw [Nat.shiftLeft_eq, hm, hz] at this
    exact this.symm
  rw [h3, wrap32 (by omega) (by omega)]; omega
theorem bits2 {a b : Int} (ha : 192 ≤ a ∧ a < 224) (hb : 128 ≤ b ∧ b ≤ 191) : bor .i32 (shlI .i32 (IntKind.wrap .i32 (band .u8 a 31)) 6) (IntKind.wrap .i32 (band .u8 b 63)) = 64 * (a - 192) + b - 128 := by
  rw [mk31 ha.1 ha.2, mk63 hb.1 hb.2, wrap32 (by omega) (by omega), wrap32 (by omega) (by omega), show (6 : Int) = ((6 : Nat) : Int) from rfl, shl32 (k := 6) (m := 64) rfl (by omega) (by omega) (by omega), bor32 (k := 6) (m := 64) rfl (by omega) (by omega) (by omega) (by omega) (by omega)]
  omega
theorem bits3 {a b c : Int} (ha : 224 ≤ a ∧ a < 240) (hb : 128 ≤ b ∧ b ≤ 191) (hc : 128 ≤ c ∧ c ≤ 191) : bor .i32 (bor .i32 (shlI .i32 (IntKind.wrap .i32 (band .u8 a 15)) 12) (shlI .i32 (IntKind.wrap .i32 (band .u8 b 63)) 6)) (IntKind.wrap .i32 (band .u8 c 63)) = 64 * (64 * (a - 224) + b - 128) + c - 128 := by
  rw [mk15 ha.1 ha.2, mk63 hb.1 hb.2, mk63 hc.1 hc.2, wrap32 (by omega) (by omega), wrap32 (by omega) (by omega), wrap32 (by omega) (by omega), show (6 : Int) = ((6 : Nat) : Int) from rfl, show (12 : Int) = ((12 : Nat) : Int) from rfl, shl32 (k := 6) (m := 64) rfl (by omega) (by omega) (by omega), shl32 (k := 12) (m := 4096) rfl (by omega) (by omega) (by omega), bor32 (k := 12) (m := 4096) rfl (by omega) (by omega) (by omega) (by omega) (by omega)]
  rw [show (a - 224) * ((4096 : Nat) : Int) + (b - 128) * ((64 : Nat) : Int) = (64 * (a - 224) + b - 128) * ((64 : Nat) : Int) by omega, bor32 (k := 6) (m := 64) rfl (by omega) (by omega) (by omega) (by omega) (by omega)]
  omega
theorem bits4 {a b c d : Int} (ha : 240 ≤ a ∧ a < 245) (hb : 128 ≤ b ∧ b ≤ 191) (hc : 128 ≤ c ∧ c ≤ 191) (hd : 128 ≤ d ∧ d ≤ 191) : bor .i32 (bor .i32 (bor .i32 (shlI .i32 (IntKind.wrap .i32 (band .u8 a 7)) 18) (shlI .i32 (IntKind.wrap .i32 (band .u8 b 63)) 12)) (shlI .i32 (IntKind.wrap .i32 (band .u8 c 63)) 6)) (IntKind.wrap .i32 (band .u8 d 63)) = 64 * (64 * (64 * (a - 240) + b - 128) + c - 128) + d - 128 := by
  rw [mk7 ha.1 (by omega), mk63 hb.1 hb.2, mk63 hc.1 hc.2, mk63 hd.1 hd.2, wrap32 (by omega) (by omega), wrap32 (by omega) (by omega), wrap32 (by omega) (by omega), wrap32 (by omega) (by omega), show (6 : Int) = ((6 : Nat) : Int) from rfl, show (12 : Int) = ((12 : Nat) : Int) from rfl, show (18 : Int) = ((18 : Nat) : Int) from rfl, shl32 (k := 6) (m := 64) rfl (by omega) (by omega) (by omega), shl32 (k := 12) (m := 4096) rfl (by omega) (by omega) (by omega), shl32 (k := 18) (m := 262144) rfl (by omega) (by omega) (by omega), bor32 (k := 18) (m := 262144) rfl (by omega) (by omega) (by omega) (by omega) (by omega)]
  rw [show (a - 240) * ((262144 : Nat) : Int) + (b - 128) * ((4096 : Nat) : Int) = (64 * (a - 240) + b - 128) * ((4096 : Nat) : Int) by omega, bor32 (k := 12) (m := 4096) rfl (by omega) (by omega) (by omega) (by omega) (by omega)]
  rw [show (64 * (a - 240) + b - 128) * ((4096 : Nat) : Int) + (c - 128) * ((64 : Nat) : Int) = (64 * (64 * (a - 240) + b - 128) + c - 128) * ((64 : Nat) : Int) by omega, bor32 (k := 6) (m := 64) rfl (by omega) (by omega) (by omega) (by omega) (by omega)]
  omega
/-- What decoding answers: a rune, or 65533; its size, or 1, or 0. -/
def decR (p : List Int) : Int := if runeSz p = 0 then 65533 else runeVal p
def decN (p : List Int) : Int := if p.length = 0 then 0 else if runeSz p = 0 then 1 else ((runeSz p : Nat) : Int)
theorem runeVal_range {p : List Int} (hf : fitB p = true) (h : runeSz p ≠ 0) : 0 ≤ runeVal p ∧ runeVal p ≤ 1114111 := by
  have h0 := fitB_get hf 0
  have h1 := fitB_get hf 1
  have h2 := fitB_get hf 2
  have h3 := fitB_get hf 3
  unfold runeVal
  rw [if_neg h]
  revert h
  unfold runeSz lo3 hi3 lo4 hi4
  intro h
  repeat' split at h
  all_goals first
    | exact absurd rfl h
    | (repeat' split)
  all_goals first
    | omega
    | (repeat' split at *) <;> omega
end Go.Ev
end
section
/- Encoding and decoding are inverse to each other. -/
set_option linter.unusedVariables false
namespace Go.Ev
open Go.RowKit
end Go.Ev
end
section
/- UTF-8: texts put together and cut. -/
set_option linter.unusedVariables false
namespace Go.Ev
open Go.RowKit
/-- The size of the rune in front hangs on its own bytes alone. -/
theorem runeSz_pre {xs ys : List Int} (h : runeSz xs ≠ 0) (hl : runeSz xs ≤ ys.length) (he : ∀ i, i < runeSz xs → ys.getD i 0 = xs.getD i 0) : runeSz ys = runeSz xs := by
  have e0 := he 0 (by omega)
  have l0 : ¬ ys.length = 0 := by omega
  by_cases n0 : xs.length = 0
  · exact absurd (by unfold runeSz; rw [if_pos n0]) h
  by_cases a1 : xs.getD 0 0 < 128
  · have s1 : runeSz xs = 1 := by unfold runeSz; rw [if_neg n0, if_pos a1]
    rw [s1]; unfold runeSz; rw [if_neg l0, e0, if_pos a1]
  by_cases a2 : xs.getD 0 0 < 194
  · exact absurd (by unfold runeSz; rw [if_neg n0, if_neg a1, if_pos a2]) h
  by_cases a3 : xs.getD 0 0 < 224
  · by_cases b : 2 ≤ xs.length ∧ 128 ≤ xs.getD 1 0 ∧ xs.getD 1 0 ≤ 191
    · have s1 : runeSz xs = 2 := by unfold runeSz; rw [if_neg n0, if_neg a1, if_neg a2, if_pos a3, if_pos b]
      have e1 := he 1 (by omega)
      rw [s1]; unfold runeSz; rw [if_neg l0, e0, if_neg a1, if_neg a2, if_pos a3, e1, if_pos ⟨by omega, b.2⟩]
    · exact absurd (by unfold runeSz; rw [if_neg n0, if_neg a1, if_neg a2, if_pos a3, if_neg b]) h
  by_cases a4 : xs.getD 0 0 < 240
  · by_cases b : 3 ≤ xs.length ∧ lo3 (xs.getD 0 0) ≤ xs.getD 1 0 ∧ xs.getD 1 0 ≤ hi3 (xs.getD 0 0) ∧ 128 ≤ xs.getD 2 0 ∧ xs.getD 2 0 ≤ 191
    · have s1 : runeSz xs = 3 := by unfold runeSz; rw [if_neg n0, if_neg a1, if_neg a2, if_neg a3, if_pos a4, if_pos b]
      have e1 := he 1 (by omega)
      have e2 := he 2 (by omega)
      rw [s1]; unfold runeSz; rw [if_neg l0, e0, if_neg a1, if_neg a2, if_neg a3, if_pos a4, e1, e2, if_pos ⟨by omega, b.2⟩]
    · exact absurd (by unfold runeSz; rw [if_neg n0, if_neg a1, if_neg a2, if_neg a3, if_pos a4, if_neg b]) h
  by_cases a5 : xs.getD 0 0 < 245
  · by_cases b : 4 ≤ xs.length ∧ lo4 (xs.getD 0 0) ≤ xs.getD 1 0 ∧ xs.getD 1 0 ≤ hi4 (xs.getD 0 0) ∧ 128 ≤ xs.getD 2 0 ∧ xs.getD 2 0 ≤ 191 ∧ 128 ≤ xs.getD 3 0 ∧ xs.getD 3 0 ≤ 191
    · have s1 : runeSz xs = 4 := by unfold runeSz; rw [if_neg n0, if_neg a1, if_neg a2, if_neg a3, if_neg a4, if_pos a5, if_pos b]
      have e1 := he 1 (by omega)
      have e2 := he 2 (by omega)
      have e3 := he 3 (by omega)
      rw [s1]; unfold runeSz; rw [if_neg l0, e0, if_neg a1, if_neg a2, if_neg a3, if_neg a4, if_pos a5, e1, e2, e3, if_pos ⟨by omega, b.2⟩]
    · exact absurd (by unfold runeSz; rw [if_neg n0, if_neg a1, if_neg a2, if_neg a3, if_neg a4, if_pos a5, if_neg b]) h
  · exact absurd (by unfold runeSz; rw [if_neg n0, if_neg a1, if_neg a2, if_neg a3, if_neg a4, if_neg a5]) h
theorem getD_take {xs : List Int} {i n : Nat} (h : i < n) : (xs.take n).getD i 0 = xs.getD i 0 := by
  rw [List.getD_eq_getElem?_getD, List.getD_eq_getElem?_getD, List.getElem?_take, if_pos h]
theorem runeSz_take {xs : List Int} (h : runeSz xs ≠ 0) {n : Nat} (hn : runeSz xs ≤ n) : runeSz (xs.take n) = runeSz xs := by
  have := runeSz_le xs
  exact runeSz_pre h (by rw [List.length_take]; omega) (fun i hi => getD_take (by omega))
theorem valid_cut : ∀ (n : Nat) (xs : List Int) (k : Nat), xs.length ≤ n → valid xs = true → isCutD xs ((k : Nat) : Int) = true → valid (xs.take k) = true ∧ valid (xs.drop k) = true
  | n, xs, k, hn, hv, hk => by
    by_cases k0 : k = 0
    · subst k0; exact ⟨valid_nil, hv⟩
    rcases valid_cases hv with rfl | ⟨h, h2⟩
    · simp [valid_nil]
    have hle := runeSz_le xs
    obtain ⟨c0, cj⟩ := rune_cont h
    have hr := isCutD_range hk
    cases n with
    | zero => omega
    | succ n =>
      have hks : runeSz xs ≤ k := by
        rcases Nat.lt_or_ge k (runeSz xs) with q | q
        · have := cj k (by omega) q
          unfold isCutD at hk
          rw [Bool.or_eq_true, beq_iff_eq, Bool.and_eq_true] at hk
          rcases hk with hk | ⟨_, hk⟩
          · omega
          · rw [Int.toNat_natCast, this] at hk; cases hk
        · exact q
      have hk2 : isCutD (xs.drop (runeSz xs)) ((k - runeSz xs : Nat) : Int) = true := by
        unfold isCutD at hk ⊢
        rw [List.length_drop, getD_drop]
        rw [Bool.or_eq_true, beq_iff_eq, Bool.and_eq_true, Bool.and_eq_true, decide_eq_true_iff, decide_eq_true_iff] at hk ⊢
        rcases hk with hk | ⟨⟨_, hk1⟩, hk2⟩
        · left; omega
        · right
          rw [Int.toNat_natCast] at hk2 ⊢
          rw [show runeSz xs + (k - runeSz xs) = k by omega]
          exact ⟨⟨by omega, by omega⟩, hk2⟩
      obtain ⟨i1, i2⟩ := valid_cut n (xs.drop (runeSz xs)) (k - runeSz xs) (by rw [List.length_drop]; omega) h2 hk2
      refine ⟨?_, ?_⟩
      · have ht : runeSz (xs.take k) = runeSz xs := runeSz_take h hks
        rw [valid_step (xs := xs.take k) (by rw [ht]; exact h), ht, List.drop_take]
        exact i1
      · rw [List.drop_drop, show runeSz xs + (k - runeSz xs) = k by omega] at i2
        exact i2
end Go.Ev
end
section
/- How many runes a text has. -/
set_option linter.unusedVariables false
namespace Go.Ev
open Go.RowKit
/-- The number of runes in front. -/
def cntR (xs : List Int) : Nat := (starts xs 0).length
theorem starts_cnt : ∀ (n : Nat) (xs : List Int) (k : Int), xs.length ≤ n → (starts xs k).length = cntR xs
  | n, xs, k, hn => by
    unfold cntR
    by_cases h : runeSz xs = 0
    · rw [starts_stop h, starts_stop h]
    · have hle := runeSz_le xs
      cases n with
      | zero => omega
      | succ n =>
        rw [starts_step h, starts_step h, List.length_cons, List.length_cons, starts_cnt n _ _ (by simp; omega), starts_cnt n _ (0 + _) (by simp; omega)]
  termination_by n => n
theorem cntR_nil : cntR [] = 0 := by unfold cntR; rw [starts_stop rfl]; rfl
theorem cntR_step {xs : List Int} (h : runeSz xs ≠ 0) : cntR xs = cntR (xs.drop (runeSz xs)) + 1 := by
  conv => lhs; unfold cntR
  rw [starts_step h, List.length_cons, starts_cnt _ _ _ (Nat.le_refl _)]
theorem cntR_le (xs : List Int) : cntR xs ≤ xs.length := starts_len _ xs 0 (Nat.le_refl _)
theorem valid_dropn : ∀ (n : Nat) {xs : List Int}, (∀ i, i < n → xs.getD i 0 < 128) → n ≤ xs.length → cntR xs = n + cntR (xs.drop n)
  | 0, xs, _, _ => by rw [List.drop_zero, Nat.zero_add]
  | n + 1, xs, h, hl => by
    have e : runeSz xs = 1 := runeSz_ascii (by omega) (h 0 (by omega))
    rw [cntR_step (xs := xs) (by omega), e, valid_dropn n (xs := xs.drop 1) (fun i hi => by rw [getD_drop]; exact h _ (by omega)) (by simp; omega), List.drop_drop, Nat.add_comm 1 n]
    omega
theorem width_ok {q : List Int} (hf : fitB q = true) (h : runeSz q ≠ 0) : (Lib.decodeN q.length (q.getD 0 0).toNat (q.getD 1 0).toNat (q.getD 2 0).toNat (q.getD 3 0).toNat).2 = runeSz q := by
  have b0 := fitB_get hf 0
  have b1 := fitB_get hf 1
  have b2 := fitB_get hf 2
  have b3 := fitB_get hf 3
  revert h
  unfold runeSz Lib.decodeN
  generalize q.getD 0 0 = x0 at *
  generalize q.getD 1 0 = x1 at *
  generalize q.getD 2 0 = x2 at *
  generalize q.getD 3 0 = x3 at *
  generalize q.length = n at *
  intro h
  by_cases c0 : n = 0
  · rw [if_pos c0] at h; exact absurd rfl h
  rw [if_neg c0] at h ⊢
  by_cases c1 : x0 < 128
  · rw [if_pos c1, if_pos (by omega)]
  rw [if_neg c1] at h ⊢
  rw [if_neg (show ¬ x0.toNat < 128 by omega)]
  by_cases c2 : x0 < 194
  · rw [if_pos c2] at h; exact absurd rfl h
  rw [if_neg c2] at h ⊢
  by_cases c3 : x0 < 224
  · rw [if_pos c3] at h ⊢
    by_cases k : 2 ≤ n ∧ 128 ≤ x1 ∧ x1 ≤ 191
    · rw [if_pos k, if_pos (by omega), if_pos (by omega)]
    · rw [if_neg k] at h; exact absurd rfl h
  rw [if_neg c3] at h ⊢
  rw [if_neg (show ¬ (x0.toNat / 32 = 6 ∧ (1 < n ∧ x1.toNat / 64 = 2)) by omega)]
  by_cases c4 : x0 < 240
  · rw [if_pos c4] at h ⊢
    by_cases k : 3 ≤ n ∧ lo3 x0 ≤ x1 ∧ x1 ≤ hi3 x0 ∧ 128 ≤ x2 ∧ x2 ≤ 191
    · rw [if_pos k]
      unfold lo3 hi3 at k
      rw [if_pos (by split at k <;> split at k <;> omega), if_pos (by split at k <;> split at k <;> omega)]
    · rw [if_neg k] at h; exact absurd rfl h
  rw [if_neg c4] at h ⊢
  rw [if_neg (show ¬ (x0.toNat / 16 = 14 ∧ (1 < n ∧ x1.toNat / 64 = 2) ∧ (2 < n ∧ x2.toNat / 64 = 2)) by omega)]
  by_cases c5 : x0 < 245
  · rw [if_pos c5] at h ⊢
    by_cases k : 4 ≤ n ∧ lo4 x0 ≤ x1 ∧ x1 ≤ hi4 x0 ∧ 128 ≤ x2 ∧ x2 ≤ 191 ∧ 128 ≤ x3 ∧ x3 ≤ 191
    · rw [if_pos k]
      unfold lo4 hi4 at k
      rw [if_pos (by split at k <;> split at k <;> omega), if_pos (by split at k <;> split at k <;> omega)]
    · rw [if_neg k] at h; exact absurd rfl h
  · rw [if_neg c5] at h; exact absurd rfl h
theorem bstr_size (xs : List Int) : (bstr xs).size = xs.length := by
  show ((xs.map fun n => UInt8.ofNat n.toNat).toArray).size = _
  rw [List.size_toArray, List.length_map]
theorem bstr_get {xs : List Int} (hf : fitB xs = true) (i : Nat) : ((bstr xs).get! i).toNat = (xs.getD i 0).toNat := by
  rw [← Lib.getD_get!']
  have e : (bstr xs).data.toList = xs.map (fun n => UInt8.ofNat n.toNat) := rfl
  have hb := fitB_get hf i
  have e2 : (xs.map (fun n : Int => UInt8.ofNat n.toNat)).getD i 0 = UInt8.ofNat (xs.getD i 0).toNat := by
    rw [List.getD_eq_getElem?_getD, List.getD_eq_getElem?_getD, List.getElem?_map]
    cases xs[i]? <;> rfl
  rw [e, e2, UInt8.toNat_ofNat']
  omega
theorem decode_width {xs : List Int} (hf : fitB xs = true) {i : Nat} (h : runeSz (xs.drop i) ≠ 0) : (Utf8.decode (bstr xs) i).2 = runeSz (xs.drop i) := by
  have := width_ok (fitB_drop hf i) h
  rw [getD_drop, getD_drop, getD_drop, getD_drop, List.length_drop] at this
  rw [Lib.decode_at, bstr_size, bstr_get hf, bstr_get hf, bstr_get hf, bstr_get hf]
  exact this
theorem count_from {xs : List Int} (hf : fitB xs = true) : ∀ (fuel pos : Nat), xs.length - pos ≤ fuel → valid (xs.drop pos) = true → Lib.runeCountFrom (bstr xs) fuel pos = cntR (xs.drop pos)
  | 0, pos, hl, hv => by
    rw [List.drop_eq_nil_of_le (by omega), cntR_nil]; rfl
  | fuel + 1, pos, hl, hv => by
    unfold Lib.runeCountFrom
    rw [bstr_size]
    by_cases h : pos < xs.length
    · rcases valid_cases hv with e | ⟨hz, hv'⟩
      · have := congrArg List.length e
        simp at this; omega
      · rw [if_pos h, decode_width hf hz, cntR_step hz]
        rw [List.drop_drop] at hv' ⊢
        rw [count_from hf fuel _ (by omega) hv']
        omega
    · rw [if_neg h, List.drop_eq_nil_of_le (by omega), cntR_nil]
theorem runeCount_ok {xs : List Int} (hf : fitB xs = true) (hv : valid xs = true) : Lib.runeCount (bstr xs) = cntR xs := by
  unfold Lib.runeCount
  rw [bstr_size]
  exact count_from hf _ 0 (by omega) hv
end Go.Ev
end
section
/- utf8_RuneCount: its contract. -/
namespace Go.Ev.Seat
open Go.RowKit
set_option maxRecDepth 100000
set_option linter.unusedVariables false
set_option linter.unusedSimpArgs false
def z_utf8_RuneCount_3_0 (x2 : Int) (x4 : Int) : St := { tm := ([.x, .x, (.s (.int .i64 x2)), .x, (.s (.int .i64 x4))] ++ List.replicate 22 .x), ob := [], nx := 0, io := [] }
def z_utf8_RuneCount_3_1 (x4 : Int) : St := { tm := ([.x, .x, .x, .x, (.s (.int .i64 x4))] ++ List.replicate 22 .x), ob := [], nx := 0, io := [] }
def sh_utf8_RuneCount_3_0 : Ss := { tm := (.cons (.l .no bytesR) (.cons (.x) (.cons (.x) (.cons (.int .i64) (.cons (.int .i64) (xsh 22)))))), ob := .nil, nx := 0, io := .nil }
def d_utf8_RuneCount_3_0 (x0 : List Int) (x3 : Int) (x4 : Int) : sh_utf8_RuneCount_3_0.T := ((x0, ((), ((), (x3, (x4, xd 22))))), (), ())
def s_utf8_RuneCount_3_0 (x0 : List Int) (x3 : Int) (x4 : Int) : St := { tm := ([(.l .no bytesR x0), .x, .x, (.s (.int .i64 x3)), (.s (.int .i64 x4))] ++ List.replicate 22 .x), ob := [], nx := 0, io := [] }
theorem se_utf8_RuneCount_3_0 (x0 : List Int) (x3 : Int) (x4 : Int) : sh_utf8_RuneCount_3_0.mk' (d_utf8_RuneCount_3_0 x0 x3 x4) = (s_utf8_RuneCount_3_0 x0 x3 x4) := by kernel_rfl
def w_utf8_RuneCount_3_0 (d : sh_utf8_RuneCount_3_0.T) (f : (List Int) → Int → Int → Option Ret) : Option Ret := match d with | ((x0, (_, (_, (x3, (x4, _))))), _, _) => f x0 x3 x4
noncomputable def P_utf8_RuneCount_3_0 (x0 : List Int) (x3 : Int) (x4 : Int) (nx0 : (List Int) → Int → Int → Option Ret) (k0 : Int → Int → Option Ret) (k1 : Int → Option Ret) : Option Ret := (bif (decide (x4 < x3)) then (bif ((decide ((0 : Int) ≤ x4)) && (decide (x4 < (((List.length x0) : Nat) : Int)))) then (bif (decide ((List.getD x0 (Int.toNat x4) (0 : Int)) ≥ (128 : Int))) then (bif ((decide ((0 : Int) ≤ x4)) && (decide (x4 ≤ (((List.length x0) : Nat) : Int)))) then (bif (Nat.ble (ByteArray.size (bstr (List.drop (Int.toNat x4) x0))) 1099511627776) then (k0 (IntKind.wrap .i64 (x4 + (((Go.Lib.runeCount (bstr (List.drop (Int.toNat x4) x0))) : Nat) : Int))) x4) else none) else none) else (nx0 x0 x3 (IntKind.wrap .i64 (x4 + (1 : Int))))) else none) else (k1 x4))
noncomputable def Q_utf8_RuneCount_3_0 : Nat → (List Int) → Int → Int → (Int → Int → Option Ret) → (Int → Option Ret) → Option Ret
  | 0, _, _, _, _, _ => none
  | m + 1, x0, x3, x4, k0, k1 => P_utf8_RuneCount_3_0 x0 x3 x4 (fun x0 x3 x4 => (Q_utf8_RuneCount_3_0 m x0 x3 x4 k0 k1)) k0 k1
noncomputable def R_utf8_RuneCount_3_0 (x0 : List Int) (x3 : Int) (x4 : Int) (k0 : Int → Int → Option Ret) (k1 : Int → Option Ret) : Option Ret := Q_utf8_RuneCount_3_0 (List.length x0 + x3.toNat + x4.toNat + 2) x0 x3 x4 k0 k1
noncomputable def W_utf8_RuneCount_3 : LoopFn := (fun (σ : St) (K : Ex → St → Option Ret) => (match sh_utf8_RuneCount_3_0.un σ with | some d => w_utf8_RuneCount_3_0 d (fun x0 x3 x4 => R_utf8_RuneCount_3_0 x0 x3 x4 (fun x2 x4 => (K .ret (z_utf8_RuneCount_3_0 x2 x4))) (fun x4 => (K (.ext 0) (z_utf8_RuneCount_3_1 x4)))) | none => none))
noncomputable abbrev ls_utf8_RuneCount : List (Nat × Bool × Sm) := [(N.utf8_RuneCountInString, true, S_utf8_RuneCountInString)]
noncomputable abbrev E_utf8_RuneCount : Env := En ls_utf8_RuneCount [] [(3, [0,3,4], [2,4], W_utf8_RuneCount_3)] [] false 0 []
noncomputable abbrev U_utf8_RuneCount_3 := rounds (run E_utf8_RuneCount (bodyOf F.utf8_RuneCount 3)) [0,3,4] [2,4]
theorem st_utf8_RuneCount_3_0 (m : Nat) (x0 : List Int) (x3 : Int) (x4 : Int) (K : Ex → St → Option Ret) : U_utf8_RuneCount_3 (m + 1) (s_utf8_RuneCount_3_0 x0 x3 x4) K = P_utf8_RuneCount_3_0 x0 x3 x4 (fun x0 x3 x4 => (U_utf8_RuneCount_3 m (s_utf8_RuneCount_3_0 x0 x3 x4) K)) (fun x2 x4 => (K .ret (z_utf8_RuneCount_3_0 x2 x4))) (fun x4 => (K (.ext 0) (z_utf8_RuneCount_3_1 x4))) := by kernel_rfl
theorem q_utf8_RuneCount_3 (K : Ex → St → Option Ret) : ∀ m : Nat, (∀ (x0 : List Int) (x3 : Int) (x4 : Int), U_utf8_RuneCount_3 m (s_utf8_RuneCount_3_0 x0 x3 x4) K = Q_utf8_RuneCount_3_0 m x0 x3 x4 (fun x2 x4 => (K .ret (z_utf8_RuneCount_3_0 x2 x4))) (fun x4 => (K (.ext 0) (z_utf8_RuneCount_3_1 x4))))
  | 0 => (fun _ _ _ => rfl)
  | m + 1 => (fun x0 x3 x4 => (by rw [st_utf8_RuneCount_3_0, show (fun x0 x3 x4 => (U_utf8_RuneCount_3 m (s_utf8_RuneCount_3_0 x0 x3 x4) K)) = (fun x0 x3 x4 => (Q_utf8_RuneCount_3_0 m x0 x3 x4 (fun x2 x4 => (K .ret (z_utf8_RuneCount_3_0 x2 x4))) (fun x4 => (K (.ext 0) (z_utf8_RuneCount_3_1 x4))))) from funext fun x0 => funext fun x3 => funext fun x4 => (q_utf8_RuneCount_3 K m) x0 x3 x4]; rfl))
theorem loopK_utf8_RuneCount_3 : LoopOk E_utf8_RuneCount (bodyOf F.utf8_RuneCount 3) := by
  refine loopW_ok (n := 3) (F := W_utf8_RuneCount_3) (by kernel_rfl) rfl (li := [0,3,4]) (lo := [2,4]) rfl (fun σ K r hr => ?_)
  unfold W_utf8_RuneCount_3 at hr
  split at hr
  · rename_i d hd
    rw [Ss.un_mk hd]
    exact ⟨_, ((congrArg (fun z => U_utf8_RuneCount_3 _ z K) (se_utf8_RuneCount_3_0 _ _ _)).trans ((q_utf8_RuneCount_3 K _) _ _ _)).trans hr⟩
  · cases hr
noncomputable def T_utf8_RuneCount (p : List Int) (K : Ret → Option Ret) : Option Ret := (R_utf8_RuneCount_3_0 p (((List.length p) : Nat) : Int) (0 : Int) (fun y0 y1 => K ((.s (.int .i64 y0)), [])) (fun y2 => K ((.s (.int .i64 y2)), [])))
theorem e_utf8_RuneCount (p : List Int) (K : Ret → Option Ret) : evF E_utf8_RuneCount true F.utf8_RuneCount [.l .no bytesR p] K = T_utf8_RuneCount p K := by kernel_rfl
def S_utf8_RuneCount : Sm := S_fnR [.l bytesR] (fun d => fitB d.1 && valid d.1) (fun d => (sc ((cntR d.1 : Nat) : Int), []))
theorem v_utf8_RuneCount (p : List Int) (h : (fitB p && valid p) = true) (K : Ret → Option Ret) : T_utf8_RuneCount p K = K (sc ((cntR p : Nat) : Int), []) := by
  obtain ⟨hf, hv⟩ := (Bool.and_eq_true _ _).mp h
  have hl := fitB_len hf
  unfold T_utf8_RuneCount R_utf8_RuneCount_3_0
  have key : ∀ (m i : Nat), i ≤ p.length → p.length - i < m → (∀ j, j < i → p.getD j 0 < 128) → Q_utf8_RuneCount_3_0 m p ((p.length : Nat) : Int) ((i : Nat) : Int) (fun y0 y1 => K ((.s (.int .i64 y0)), [])) (fun y2 => K ((.s (.int .i64 y2)), [])) = K (sc ((cntR p : Nat) : Int), []) := by
    intro m
    induction m with
    | zero => intro i _ hm; omega
    | succ m ih =>
      intro i hi hm ha
      show P_utf8_RuneCount_3_0 p ((p.length : Nat) : Int) ((i : Nat) : Int) _ _ _ = _
      unfold P_utf8_RuneCount_3_0
      have hd := valid_dropn i ha hi
      by_cases hlt : i < p.length
      · rw [decide_eq_true (show ((i : Nat) : Int) < ((p.length : Nat) : Int) by omega), decide_eq_true (show (0 : Int) ≤ ((i : Nat) : Int) by omega), Int.toNat_natCast]
        by_cases c : p.getD i 0 ≥ 128
        · have hv' : valid (p.drop i) = true := by rw [valid_drop i hi ha]; exact hv
          have hc := cntR_le (p.drop i)
          rw [List.length_drop] at hc
          rw [decide_eq_true c, decide_eq_true (show ((i : Nat) : Int) ≤ ((p.length : Nat) : Int) by omega), bstr_size, List.length_drop, Nat.ble_eq_true_of_le (show p.length - i ≤ 1099511627776 by omega), runeCount_ok (fitB_drop hf i) hv', wrap_in (by omega) (by omega), hd]
          simp only [Bool.and_self, cond_true, Int.natCast_add]
          rfl
        · rw [decide_eq_false c, wrap_nat (by omega)]
          exact ih (i + 1) (by omega) (by omega) (fun j hj => by
            by_cases e : j = i
            · rw [e]; omega
            · exact ha j (by omega))
      · rw [decide_eq_false (show ¬ ((i : Nat) : Int) < ((p.length : Nat) : Int) by omega)]
        have e : i = p.length := by omega
        rw [List.drop_eq_nil_of_le (by omega), cntR_nil] at hd
        rw [hd]; rfl
  exact key _ 0 (by omega) (by omega) (fun j hj => absurd hj (by omega))
theorem okS_utf8_RuneCount : OkFn prog I N.utf8_RuneCount true S_utf8_RuneCount := okN (ok_fn (memc okS_utf8_RuneCountInString mem0) (l := ls_utf8_RuneCount) (p := []) (ls := [(3, [0,3,4], [2,4], W_utf8_RuneCount_3)]) (lend := []) (focus := false) (fuel := 0) (give := []) (fn := F.utf8_RuneCount) (by kernel_rfl) (by kernel_rfl) (by kernel_rfl) (by kernel_rfl) (cs := [bodyOf F.utf8_RuneCount 3]) (by kernel_rfl) (loopsc loopK_utf8_RuneCount_3 loops0)) (S_fnR_of fun d K h => (e_utf8_RuneCount d.1 K).trans (v_utf8_RuneCount d.1 h K))
end Go.Ev.Seat
end
section
/- Offsets and places of a text. -/
set_option linter.unusedVariables false
namespace Go.Ev
open Go.RowKit
theorem cut_step {xs : List Int} {k : Nat} (hv : valid xs = true) (hk : isCutD xs ((k : Nat) : Int) = true) (k0 : k ≠ 0) : runeSz xs ≠ 0 ∧ runeSz xs ≤ k ∧ k ≤ xs.length ∧ valid (xs.drop (runeSz xs)) = true ∧ isCutD (xs.drop (runeSz xs)) ((k - runeSz xs : Nat) : Int) = true := by
  have hr := isCutD_range hk
  rcases valid_cases hv with rfl | ⟨h, h2⟩
  · simp at hr; omega
  have hle := runeSz_le xs
  obtain ⟨c0, cj⟩ := rune_cont h
  have hks : runeSz xs ≤ k := by
    rcases Nat.lt_or_ge k (runeSz xs) with q | q
    · have := cj k (by omega) q
      unfold isCutD at hk
      rw [Bool.or_eq_true, beq_iff_eq, Bool.and_eq_true] at hk
      rcases hk with hk | ⟨_, hk⟩
      · omega
      · rw [Int.toNat_natCast, this] at hk; cases hk
    · exact q
  refine ⟨h, hks, by omega, h2, ?_⟩
  unfold isCutD at hk ⊢
  rw [List.length_drop, getD_drop]
  rw [Bool.or_eq_true, beq_iff_eq, Bool.and_eq_true, Bool.and_eq_true, decide_eq_true_iff, decide_eq_true_iff] at hk ⊢
  rcases hk with hk | ⟨⟨_, hk1⟩, hk2⟩
  · left; omega
  · right
    rw [Int.toNat_natCast] at hk2 ⊢
    rw [show runeSz xs + (k - runeSz xs) = k by omega]
    exact ⟨⟨by omega, by omega⟩, hk2⟩
theorem bounds_head (xs : List Int) (k : Int) : (bounds xs k)[0]? = some k := by
  by_cases h : runeSz xs = 0
  · rw [bounds_stop h]; rfl
  · rw [bounds_step h]; rfl
theorem cntR_take {xs : List Int} {j : Nat} (h : runeSz xs ≠ 0) (hj : runeSz xs ≤ j) : cntR (xs.take j) = cntR ((xs.drop (runeSz xs)).take (j - runeSz xs)) + 1 := by
  have ht : runeSz (xs.take j) = runeSz xs := runeSz_take h hj
  rw [cntR_step (xs := xs.take j) (by rw [ht]; exact h), ht, List.drop_take]
theorem cut_facts : ∀ (n : Nat) (xs : List Int) (k0 : Int) (j : Nat), xs.length ≤ n → valid xs = true → isCutD xs ((j : Nat) : Int) = true →
    (bounds xs k0)[cntR (xs.take j)]? = some (k0 + (j : Nat)) ∧ (bounds xs k0).findIdx? (fun c => c == k0 + (j : Nat)) = some (cntR (xs.take j)) ∧ (j < xs.length → (bounds xs k0)[cntR (xs.take j) + 1]? = some (k0 + (j : Nat) + (runeSz (xs.drop j) : Nat)))
  | n, xs, k0, j, hn, hv, hj => by
    by_cases j0 : j = 0
    · subst j0
      rw [List.take_zero, cntR_nil, List.drop_zero, show k0 + ((0 : Nat) : Int) = k0 by omega]
      refine ⟨bounds_head xs k0, ?_, fun hl => ?_⟩
      · have := bounds_head xs k0
        cases hb : bounds xs k0 with
        | nil => rw [hb] at this; cases this
        | cons b bs =>
          rw [hb] at this
          cases this
          rw [List.findIdx?_cons, beq_self_eq_true, if_pos rfl]
      · rcases valid_cases hv with rfl | ⟨h, _⟩
        · simp at hl
        · rw [bounds_step h, List.getElem?_cons_succ]; exact bounds_head _ _
    · obtain ⟨h, h1, h2, h3, h4⟩ := cut_step hv hj j0
      cases n with
      | zero => omega
      | succ n =>
        obtain ⟨i1, i2, i3⟩ := cut_facts n (xs.drop (runeSz xs)) (k0 + (runeSz xs : Nat)) (j - runeSz xs) (by rw [List.length_drop]; omega) h3 h4
        have e : k0 + (runeSz xs : Nat) + ((j - runeSz xs : Nat) : Int) = k0 + (j : Nat) := by omega
        rw [e] at i1 i2 i3
        rw [bounds_step h, cntR_take h h1]
        refine ⟨by rw [List.getElem?_cons_succ]; exact i1, ?_, fun hl => ?_⟩
        · rw [List.findIdx?_cons, if_neg (by rw [beq_iff_eq]; omega), i2]; rfl
        · have := i3 (by rw [List.length_drop]; omega)
          rw [List.drop_drop, show runeSz xs + (j - runeSz xs) = j by omega] at this
          rw [List.getElem?_cons_succ]; exact this
  termination_by n => n
/-- The number of runes ahead of an offset; -1 where it is no boundary. -/
def runesToD (t : List Int) (k : Int) : Int := bif textOk t && isCutD t k then ((cntR (t.take k.toNat) : Nat) : Int) else -1
theorem runesTo_idx (t : List Int) (k : Int) : runesToD t k = idxOfD (cutsD t) k := by
  unfold runesToD
  cases ht : textOk t with
  | false => unfold cutsD; rw [ht]; rfl
  | true =>
    have hv := (textOk_iff.1 ht).2
    cases hc : isCutD t k with
    | true =>
      have hr := isCutD_range hc
      obtain ⟨j, rfl⟩ : ∃ j : Nat, k = j := ⟨k.toNat, by omega⟩
      obtain ⟨_, h2, _⟩ := cut_facts _ t 0 j (Nat.le_refl _) hv hc
      unfold idxOfD cutsD
      rw [ht, cond_true]
      rw [Int.zero_add] at h2
      rw [h2, Int.toNat_natCast]; rfl
    | false =>
      have h1 := idxOfD_any (cutsD t) k
      rw [cutsD_has] at h1
      unfold cutOk at h1
      rw [ht, hc] at h1
      simp only [Bool.and_false, decide_eq_false_iff_not] at h1
      rw [Bool.and_false, cond_false]
      unfold idxOfD at h1 ⊢
      cases hf : (cutsD t).findIdx? (fun c => c == k) with
      | none => rfl
      | some i => rw [hf] at h1; simp at h1
/-- The offset of a rune. -/
def placeL (xs : List Int) (k : Int) (n : Nat) : Int := ((bounds xs k)[n]?).getD (-1)
def placeOfD (t : List Int) (n : Int) : Int := bif textOk t && !decide (n < 0) then placeL t 0 n.toNat else -1
theorem placeL_zero (xs : List Int) (k : Int) : placeL xs k 0 = k := by unfold placeL; rw [bounds_head]; rfl
theorem placeL_stop {xs : List Int} (h : runeSz xs = 0) (k : Int) (n : Nat) : placeL xs k (n + 1) = -1 := by unfold placeL; rw [bounds_stop h]; rfl
theorem placeL_step {xs : List Int} (h : runeSz xs ≠ 0) (k : Int) (n : Nat) : placeL xs k (n + 1) = placeL (xs.drop (runeSz xs)) (k + (runeSz xs : Nat)) n := by unfold placeL; rw [bounds_step h]; rfl
theorem place_back {t : List Int} {j : Nat} (hv : valid t = true) (hc : isCutD t ((j : Nat) : Int) = true) : placeL t 0 (cntR (t.take j)) = (j : Nat) ∧ (j < t.length → placeL t 0 (cntR (t.take j) + 1) = ((j : Nat) : Int) + (runeSz (t.drop j) : Nat)) := by
  obtain ⟨h1, _, h3⟩ := cut_facts _ t 0 j (Nat.le_refl _) hv hc
  unfold placeL
  rw [h1]
  refine ⟨by rw [Int.zero_add]; rfl, fun hl => ?_⟩
  rw [h3 hl, Int.zero_add]; rfl
theorem cut_len (t : List Int) : isCutD t ((t.length : Nat) : Int) = true := by unfold isCutD; rw [beq_self_eq_true]; rfl
end Go.Ev
end
section
/- i_RunesTo: its contract. -/
namespace Go.Ev.Seat
open Go.RowKit
set_option maxRecDepth 100000
set_option linter.unusedVariables false
set_option linter.unusedSimpArgs false
noncomputable abbrev ls_i_RunesTo : List (Nat × Bool × Sm) := [(N.i_isText, true, S_i_isText), (N.i_isCut, true, S_i_isCut), (N.utf8_RuneCount, true, S_utf8_RuneCount)]
noncomputable abbrev E_i_RunesTo : Env := En ls_i_RunesTo [] [] [] false 0 []
noncomputable def T_i_RunesTo (d : List Int) (k : Int) (K : Ret → Option Ret) : Option Ret := (bif (fitB d) then (bif (!(textOk d)) then K ((.s (.int .i64 (-(1 : Int)))), []) else (bif (fitB d) then (bif (!(isCutD d k)) then K ((.s (.int .i64 (-(1 : Int)))), []) else (bif ((decide ((0 : Int) ≤ k)) && (decide (k ≤ (((List.length d) : Nat) : Int)))) then (bif ((fitB (List.take (Int.toNat k) d)) && (valid (List.take (Int.toNat k) d))) then K ((.s (.int .i64 (((cntR (List.take (Int.toNat k) d)) : Nat) : Int))), []) else none) else none)) else none)) else none)
theorem e_i_RunesTo (d : List Int) (k : Int) (K : Ret → Option Ret) : evF E_i_RunesTo true F.i_RunesTo [.l .no bytesR d, .s (.int .i64 k)] K = T_i_RunesTo d k K := by kernel_rfl
def S_i_RunesTo : Sm := S_fnR [.l bytesR, .i] (fun d => fitB d.1) (fun d => (sc (runesToD d.1 d.2.1), []))
theorem v_i_RunesTo (d : List Int) (k : Int) (h : (fitB d) = true) (K : Ret → Option Ret) : T_i_RunesTo d k K = K (sc (runesToD d k), []) := by
  unfold T_i_RunesTo runesToD
  rw [h]
  cases ht : textOk d with
  | false => rfl
  | true =>
    cases hc : isCutD d k with
    | false => rfl
    | true =>
      have hr := isCutD_range hc
      obtain ⟨j, rfl⟩ : ∃ j : Nat, k = j := ⟨k.toNat, by omega⟩
      obtain ⟨v1, v2⟩ := valid_cut _ d j (Nat.le_refl _) (textOk_iff.1 ht).2 hc
      rw [Int.toNat_natCast, v1, fitB_take h, decide_eq_true hr.1, decide_eq_true hr.2]; rfl
theorem okS_i_RunesTo : OkFn prog I N.i_RunesTo true S_i_RunesTo := okN (ok_fn (memc okS_i_isText (memc okS_i_isCut (memc okS_utf8_RuneCount mem0))) (l := ls_i_RunesTo) (p := []) (ls := []) (lend := []) (focus := false) (fuel := 0) (give := []) (fn := F.i_RunesTo) (by kernel_rfl) (by kernel_rfl) (by kernel_rfl) (by kernel_rfl) (cs := []) (by kernel_rfl) loops0) (S_fnR_of fun d K h => (e_i_RunesTo d.1 d.2.1 K).trans (v_i_RunesTo d.1 d.2.1 h K))
end Go.Ev.Seat
end
section
/- s_l01Rune: its contract. -/
namespace Go.Ev.Seat
open Go.RowKit
set_option maxRecDepth 100000
set_option linter.unusedVariables false
set_option linter.unusedSimpArgs false
def z_s_l01Rune_18_0 (x0 : List Int) (x1 : Int) (x7 : Int) (x8 : Int) : St := { tm := ([(.l .no bytesR x0), (.s (.int .i64 x1)), .x, .x, .x, .x, .x, (.s (.int .i64 x7)), (.s (.int .i64 x8))] ++ List.replicate 65 .x), ob := [], nx := 0, io := [] }
def sh_s_l01Rune_18_0 : Ss := { tm := (.cons (.l .no bytesR) (.cons (.int .i64) (.cons (.x) (.cons (.x) (.cons (.x) (.cons (.x) (.cons (.x) (.cons (.int .i64) (.cons (.int .i64) (.cons (.int .i64) (xsh 64))))))))))), ob := .nil, nx := 0, io := .nil }
def d_s_l01Rune_18_0 (x0 : List Int) (x1 : Int) (x7 : Int) (x8 : Int) (x9 : Int) : sh_s_l01Rune_18_0.T := ((x0, (x1, ((), ((), ((), ((), ((), (x7, (x8, (x9, xd 64)))))))))), (), ())
def s_s_l01Rune_18_0 (x0 : List Int) (x1 : Int) (x7 : Int) (x8 : Int) (x9 : Int) : St := { tm := ([(.l .no bytesR x0), (.s (.int .i64 x1)), .x, .x, .x, .x, .x, (.s (.int .i64 x7)), (.s (.int .i64 x8)), (.s (.int .i64 x9))] ++ List.replicate 64 .x), ob := [], nx := 0, io := [] }
theorem se_s_l01Rune_18_0 (x0 : List Int) (x1 : Int) (x7 : Int) (x8 : Int) (x9 : Int) : sh_s_l01Rune_18_0.mk' (d_s_l01Rune_18_0 x0 x1 x7 x8 x9) = (s_s_l01Rune_18_0 x0 x1 x7 x8 x9) := by kernel_rfl
def w_s_l01Rune_18_0 (d : sh_s_l01Rune_18_0.T) (f : (List Int) → Int → Int → Int → Int → Option Ret) : Option Ret := match d with | ((x0, (x1, (_, (_, (_, (_, (_, (x7, (x8, (x9, _)))))))))), _, _) => f x0 x1 x7 x8 x9
noncomputable def P_s_l01Rune_18_0 (x0 : List Int) (x1 : Int) (x7 : Int) (x8 : Int) (x9 : Int) (nx0 : (List Int) → Int → Int → Int → Int → Option Ret) (k0 : (List Int) → Int → Int → Int → Option Ret) : Option Ret := (bif (decide (x9 < x7)) then (bif ((decide ((0 : Int) ≤ (IntKind.wrap .i64 (x1 + x9)))) && (decide ((IntKind.wrap .i64 (x1 + x9)) < (((List.length x0) : Nat) : Int)))) then (nx0 x0 x1 x7 (IntKind.wrap .i64 ((IntKind.wrap .i64 ((IntKind.wrap .i64 ((64 : Int) * x8)) + (IntKind.wrap .i64 (List.getD x0 (Int.toNat (IntKind.wrap .i64 (x1 + x9))) (0 : Int))))) - (128 : Int))) (IntKind.wrap .i64 (x9 + (1 : Int)))) else none) else (k0 x0 x1 x7 x8))
noncomputable def Q_s_l01Rune_18_0 : Nat → (List Int) → Int → Int → Int → Int → ((List Int) → Int → Int → Int → Option Ret) → Option Ret
  | 0, _, _, _, _, _, _ => none
  | m + 1, x0, x1, x7, x8, x9, k0 => P_s_l01Rune_18_0 x0 x1 x7 x8 x9 (fun x0 x1 x7 x8 x9 => (Q_s_l01Rune_18_0 m x0 x1 x7 x8 x9 k0)) k0
noncomputable def R_s_l01Rune_18_0 (x0 : List Int) (x1 : Int) (x7 : Int) (x8 : Int) (x9 : Int) (k0 : (List Int) → Int → Int → Int → Option Ret) : Option Ret := Q_s_l01Rune_18_0 (List.length x0 + x1.toNat + x7.toNat + x8.toNat + x9.toNat + 2) x0 x1 x7 x8 x9 k0
noncomputable def W_s_l01Rune_18 : LoopFn := (fun (σ : St) (K : Ex → St → Option Ret) => (match sh_s_l01Rune_18_0.un σ with | some d => w_s_l01Rune_18_0 d (fun x0 x1 x7 x8 x9 => R_s_l01Rune_18_0 x0 x1 x7 x8 x9 (fun x0 x1 x7 x8 => (K (.ext 1) (z_s_l01Rune_18_0 x0 x1 x7 x8)))) | none => none))
noncomputable abbrev pl_s_l01Rune : List (Nat × Plan × List Nat) := [(21, takeB [0, 3, 4, 5, 6, 7, 8] (.fork (.more 1 (.fork (.more 2 (.fork (.one 9 (takes [10]))) (.one 9 (.fork (.one 2 (takes [10])))))) (.one 9 (.fork (.one 1 (.fork (.one 2 (takes [10])))))))), [])]
noncomputable abbrev ls_s_l01Rune : List (Nat × Bool × Sm) := [(N.s_RuneBytes, true, S_s_RuneBytes)]
noncomputable abbrev E_s_l01Rune : Env := En ls_s_l01Rune pl_s_l01Rune [(18, [0,1,7,8,9], [0,1,4,5,7,8], W_s_l01Rune_18)] [] false 0 []
noncomputable abbrev U_s_l01Rune_18 := rounds (run E_s_l01Rune (bodyOf F.s_l01Rune 18)) [0,1,7,8,9] [0,1,4,5,7,8]
theorem st_s_l01Rune_18_0 (m : Nat) (x0 : List Int) (x1 : Int) (x7 : Int) (x8 : Int) (x9 : Int) (K : Ex → St → Option Ret) : U_s_l01Rune_18 (m + 1) (s_s_l01Rune_18_0 x0 x1 x7 x8 x9) K = P_s_l01Rune_18_0 x0 x1 x7 x8 x9 (fun x0 x1 x7 x8 x9 => (U_s_l01Rune_18 m (s_s_l01Rune_18_0 x0 x1 x7 x8 x9) K)) (fun x0 x1 x7 x8 => (K (.ext 1) (z_s_l01Rune_18_0 x0 x1 x7 x8))) := by kernel_rfl
theorem q_s_l01Rune_18 (K : Ex → St → Option Ret) : ∀ m : Nat, (∀ (x0 : List Int) (x1 : Int) (x7 : Int) (x8 : Int) (x9 : Int), U_s_l01Rune_18 m (s_s_l01Rune_18_0 x0 x1 x7 x8 x9) K = Q_s_l01Rune_18_0 m x0 x1 x7 x8 x9 (fun x0 x1 x7 x8 => (K (.ext 1) (z_s_l01Rune_18_0 x0 x1 x7 x8))))
  | 0 => (fun _ _ _ _ _ => rfl)
  | m + 1 => (fun x0 x1 x7 x8 x9 => (by rw [st_s_l01Rune_18_0, show (fun x0 x1 x7 x8 x9 => (U_s_l01Rune_18 m (s_s_l01Rune_18_0 x0 x1 x7 x8 x9) K)) = (fun x0 x1 x7 x8 x9 => (Q_s_l01Rune_18_0 m x0 x1 x7 x8 x9 (fun x0 x1 x7 x8 => (K (.ext 1) (z_s_l01Rune_18_0 x0 x1 x7 x8))))) from funext fun x0 => funext fun x1 => funext fun x7 => funext fun x8 => funext fun x9 => (q_s_l01Rune_18 K m) x0 x1 x7 x8 x9]; rfl))
theorem loopK_s_l01Rune_18 : LoopOk E_s_l01Rune (bodyOf F.s_l01Rune 18) := by
  refine loopW_ok (n := 18) (F := W_s_l01Rune_18) (by kernel_rfl) rfl (li := [0,1,7,8,9]) (lo := [0,1,4,5,7,8]) rfl (fun σ K r hr => ?_)
  unfold W_s_l01Rune_18 at hr
  split at hr
  · rename_i d hd
    rw [Ss.un_mk hd]
    exact ⟨_, ((congrArg (fun z => U_s_l01Rune_18 _ z K) (se_s_l01Rune_18_0 _ _ _ _ _)).trans ((q_s_l01Rune_18 K _) _ _ _ _ _)).trans hr⟩
  · cases hr
noncomputable def T_s_l01Rune (d : List Int) (k : Int) (K : Ret → Option Ret) : Option Ret := (bif (decide (k < (0 : Int))) then K ((.t [(.s (.int .i64 (-(1 : Int)))), (.s (.int .i64 (0 : Int)))]), []) else (bif (decide (k ≥ (((List.length d) : Nat) : Int))) then K ((.t [(.s (.int .i64 (-(1 : Int)))), (.s (.int .i64 (0 : Int)))]), []) else (bif ((decide ((0 : Int) ≤ k)) && (decide (k < (((List.length d) : Nat) : Int)))) then (bif (decide ((IntKind.wrap .i64 (List.getD d (Int.toNat k) (0 : Int))) ≥ (240 : Int))) then (bif (decide ((4 : Int) > (IntKind.wrap .i64 ((((List.length d) : Nat) : Int) - k)))) then K ((.t [(.s (.int .i64 (-(1 : Int)))), (.s (.int .i64 (0 : Int)))]), []) else (R_s_l01Rune_18_0 d k (4 : Int) (IntKind.wrap .i64 ((IntKind.wrap .i64 (List.getD d (Int.toNat k) (0 : Int))) - (240 : Int))) (1 : Int) (fun y0 y1 y2 y3 => (bif (((decide ((0 : Int) ≤ y1)) && (decide (y1 ≤ (IntKind.wrap .i64 (y1 + y2))))) && (decide ((IntKind.wrap .i64 (y1 + y2)) ≤ (((List.length y0) : Nat) : Int)))) then (meet ((meet ((bif (!((ByteArray.toList (bstr (encD y3))) == (ByteArray.toList (bstr (List.drop (Int.toNat y1) (List.take (Int.toNat (IntKind.wrap .i64 (y1 + y2))) y0)))))) then K ((.t [(.s (.int .i64 (-(1 : Int)))), (.s (.int .i64 (0 : Int)))]), []) else K ((.t [(.s (.int .i64 y3)), (.s (.int .i64 y2))]), []))) ((bif (!((ByteArray.toList (bstr (encD y3))) == (ByteArray.toList (bstr (List.drop (Int.toNat y1) (List.take (Int.toNat (IntKind.wrap .i64 (y1 + y2))) y0)))))) then K ((.t [(.s (.int .i64 (-(1 : Int)))), (.s (.int .i64 (0 : Int)))]), []) else K ((.t [(.s (.int .i64 y3)), (.s (.int .i64 y2))]), []))))) ((bif (!((ByteArray.toList (bstr (encD y3))) == (ByteArray.toList (bstr (List.drop (Int.toNat y1) (List.take (Int.toNat (IntKind.wrap .i64 (y1 + y2))) y0)))))) then K ((.t [(.s (.int .i64 (-(1 : Int)))), (.s (.int .i64 (0 : Int)))]), []) else K ((.t [(.s (.int .i64 y3)), (.s (.int .i64 y2))]), [])))) else none)))) else (bif (decide ((IntKind.wrap .i64 (List.getD d (Int.toNat k) (0 : Int))) ≥ (224 : Int))) then (bif (decide ((3 : Int) > (IntKind.wrap .i64 ((((List.length d) : Nat) : Int) - k)))) then K ((.t [(.s (.int .i64 (-(1 : Int)))), (.s (.int .i64 (0 : Int)))]), []) else (R_s_l01Rune_18_0 d k (3 : Int) (IntKind.wrap .i64 ((IntKind.wrap .i64 (List.getD d (Int.toNat k) (0 : Int))) - (224 : Int))) (1 : Int) (fun y4 y5 y6 y7 => (bif (((decide ((0 : Int) ≤ y5)) && (decide (y5 ≤ (IntKind.wrap .i64 (y5 + y6))))) && (decide ((IntKind.wrap .i64 (y5 + y6)) ≤ (((List.length y4) : Nat) : Int)))) then (meet ((meet ((bif (!((ByteArray.toList (bstr (encD y7))) == (ByteArray.toList (bstr (List.drop (Int.toNat y5) (List.take (Int.toNat (IntKind.wrap .i64 (y5 + y6))) y4)))))) then K ((.t [(.s (.int .i64 (-(1 : Int)))), (.s (.int .i64 (0 : Int)))]), []) else K ((.t [(.s (.int .i64 y7)), (.s (.int .i64 y6))]), []))) ((bif (!((ByteArray.toList (bstr (encD y7))) == (ByteArray.toList (bstr (List.drop (Int.toNat y5) (List.take (Int.toNat (IntKind.wrap .i64 (y5 + y6))) y4)))))) then K ((.t [(.s (.int .i64 (-(1 : Int)))), (.s (.int .i64 (0 : Int)))]), []) else K ((.t [(.s (.int .i64 y7)), (.s (.int .i64 y6))]), []))))) ((bif (!((ByteArray.toList (bstr (encD y7))) == (ByteArray.toList (bstr (List.drop (Int.toNat y5) (List.take (Int.toNat (IntKind.wrap .i64 (y5 + y6))) y4)))))) then K ((.t [(.s (.int .i64 (-(1 : Int)))), (.s (.int .i64 (0 : Int)))]), []) else K ((.t [(.s (.int .i64 y7)), (.s (.int .i64 y6))]), [])))) else none)))) else (bif (decide ((IntKind.wrap .i64 (List.getD d (Int.toNat k) (0 : Int))) ≥ (192 : Int))) then (bif (decide ((2 : Int) > (IntKind.wrap .i64 ((((List.length d) : Nat) : Int) - k)))) then K ((.t [(.s (.int .i64 (-(1 : Int)))), (.s (.int .i64 (0 : Int)))]), []) else (R_s_l01Rune_18_0 d k (2 : Int) (IntKind.wrap .i64 ((IntKind.wrap .i64 (List.getD d (Int.toNat k) (0 : Int))) - (192 : Int))) (1 : Int) (fun y8 y9 y10 y11 => (bif (((decide ((0 : Int) ≤ y9)) && (decide (y9 ≤ (IntKind.wrap .i64 (y9 + y10))))) && (decide ((IntKind.wrap .i64 (y9 + y10)) ≤ (((List.length y8) : Nat) : Int)))) then (meet ((meet ((bif (!((ByteArray.toList (bstr (encD y11))) == (ByteArray.toList (bstr (List.drop (Int.toNat y9) (List.take (Int.toNat (IntKind.wrap .i64 (y9 + y10))) y8)))))) then K ((.t [(.s (.int .i64 (-(1 : Int)))), (.s (.int .i64 (0 : Int)))]), []) else K ((.t [(.s (.int .i64 y11)), (.s (.int .i64 y10))]), []))) ((bif (!((ByteArray.toList (bstr (encD y11))) == (ByteArray.toList (bstr (List.drop (Int.toNat y9) (List.take (Int.toNat (IntKind.wrap .i64 (y9 + y10))) y8)))))) then K ((.t [(.s (.int .i64 (-(1 : Int)))), (.s (.int .i64 (0 : Int)))]), []) else K ((.t [(.s (.int .i64 y11)), (.s (.int .i64 y10))]), []))))) ((bif (!((ByteArray.toList (bstr (encD y11))) == (ByteArray.toList (bstr (List.drop (Int.toNat y9) (List.take (Int.toNat (IntKind.wrap .i64 (y9 + y10))) y8)))))) then K ((.t [(.s (.int .i64 (-(1 : Int)))), (.s (.int .i64 (0 : Int)))]), []) else K ((.t [(.s (.int .i64 y11)), (.s (.int .i64 y10))]), [])))) else none)))) else (bif (decide ((1 : Int) > (IntKind.wrap .i64 ((((List.length d) : Nat) : Int) - k)))) then K ((.t [(.s (.int .i64 (-(1 : Int)))), (.s (.int .i64 (0 : Int)))]), []) else (R_s_l01Rune_18_0 d k (1 : Int) (IntKind.wrap .i64 (List.getD d (Int.toNat k) (0 : Int))) (1 : Int) (fun y12 y13 y14 y15 => (bif (((decide ((0 : Int) ≤ y13)) && (decide (y13 ≤ (IntKind.wrap .i64 (y13 + y14))))) && (decide ((IntKind.wrap .i64 (y13 + y14)) ≤ (((List.length y12) : Nat) : Int)))) then (meet ((meet ((bif (!((ByteArray.toList (bstr (encD y15))) == (ByteArray.toList (bstr (List.drop (Int.toNat y13) (List.take (Int.toNat (IntKind.wrap .i64 (y13 + y14))) y12)))))) then K ((.t [(.s (.int .i64 (-(1 : Int)))), (.s (.int .i64 (0 : Int)))]), []) else K ((.t [(.s (.int .i64 y15)), (.s (.int .i64 y14))]), []))) ((bif (!((ByteArray.toList (bstr (encD y15))) == (ByteArray.toList (bstr (List.drop (Int.toNat y13) (List.take (Int.toNat (IntKind.wrap .i64 (y13 + y14))) y12)))))) then K ((.t [(.s (.int .i64 (-(1 : Int)))), (.s (.int .i64 (0 : Int)))]), []) else K ((.t [(.s (.int .i64 y15)), (.s (.int .i64 y14))]), []))))) ((bif (!((ByteArray.toList (bstr (encD y15))) == (ByteArray.toList (bstr (List.drop (Int.toNat y13) (List.take (Int.toNat (IntKind.wrap .i64 (y13 + y14))) y12)))))) then K ((.t [(.s (.int .i64 (-(1 : Int)))), (.s (.int .i64 (0 : Int)))]), []) else K ((.t [(.s (.int .i64 y15)), (.s (.int .i64 y14))]), [])))) else none))))))) else none)))
theorem e_s_l01Rune (d : List Int) (k : Int) (K : Ret → Option Ret) : evF E_s_l01Rune true F.s_l01Rune [.l .no bytesR d, .s (.int .i64 k)] K = T_s_l01Rune d k K := by kernel_rfl
theorem rune_step {m : Nat} {d : List Int} {k n r i : Int} {k0 : List Int → Int → Int → Int → Option Ret} (hd : fitB d = true) (h0 : 0 ≤ k) (hi : 0 < i) (hn : i < n) (hl : k + i < ((d.length : Nat) : Int)) (hr : -1000000000 ≤ r ∧ r ≤ 1000000000) :
    Q_s_l01Rune_18_0 (m + 1) d k n r i k0 = Q_s_l01Rune_18_0 m d k n (64 * r + d.getD (k + i).toNat 0 - 128) (i + 1) k0 := by
  have hb := fitB_get hd (k + i).toNat
  have hlen := fitB_len hd
  show P_s_l01Rune_18_0 d k n r i _ k0 = _
  unfold P_s_l01Rune_18_0
  rw [decide_eq_true hn, wrap_in (n := k + i) (by omega) (by omega), decide_eq_true (show 0 ≤ k + i by omega), decide_eq_true hl, wrap_in (n := d.getD (k + i).toNat 0) (by omega) (by omega), wrap_in (n := 64 * r) (by omega) (by omega), wrap_in (n := 64 * r + d.getD (k + i).toNat 0) (by omega) (by omega), wrap_in (n := 64 * r + d.getD (k + i).toNat 0 - 128) (by omega) (by omega), wrap_in (n := i + 1) (by omega) (by omega)]
  rfl
theorem rune_end {m : Nat} {d : List Int} {k n r i : Int} {k0 : List Int → Int → Int → Int → Option Ret} (hn : ¬ i < n) : Q_s_l01Rune_18_0 (m + 1) d k n r i k0 = k0 d k n r := by
  show P_s_l01Rune_18_0 d k n r i _ k0 = _
  unfold P_s_l01Rune_18_0
  rw [decide_eq_false hn]; rfl
theorem rune_fin {K : Ret → Option Ret} {c : Prop} [Decidable c] {r n v s : Int} (h : (if c then (r, n) else (-1, 0)) = (v, s)) :
    (bif !(decide c) then K ((.t [(.s (.int .i64 (-(1 : Int)))), (.s (.int .i64 (0 : Int)))]), []) else K ((.t [(.s (.int .i64 r)), (.s (.int .i64 n))]), [])) = K (.t [sc v, sc s], []) := by
  by_cases hc : c
  · rw [if_pos hc] at h
    obtain ⟨rfl, rfl⟩ := Prod.mk.inj h
    rw [decide_eq_true hc]; rfl
  · rw [if_neg hc] at h
    obtain ⟨h1, h2⟩ := Prod.mk.inj h
    rw [decide_eq_false hc, ← h1, ← h2]; rfl
theorem rune_part (d : List Int) (k n : Nat) : List.drop k (List.take (k + n) d) = (d.drop k).take n := by
  rw [List.drop_take]; congr 1; omega
theorem rune_k {K : Ret → Option Ret} {d xs : List Int} {k r n v s : Int} (hd : fitB d = true) (h0 : 0 ≤ k) (hn0 : 0 ≤ n) (hn : n ≤ 4) (hl : k + n ≤ ((d.length : Nat) : Int)) (hx : (d.drop k.toNat).take n.toNat = xs) (h : (if encD r = xs then (r, n) else (-1, 0)) = (v, s)) :
    (bif (((decide ((0 : Int) ≤ k)) && (decide (k ≤ (IntKind.wrap .i64 (k + n))))) && (decide ((IntKind.wrap .i64 (k + n)) ≤ (((List.length d) : Nat) : Int)))) then
       (meet
        (meet
         (bif (!((ByteArray.toList (bstr (encD r))) == (ByteArray.toList (bstr (List.drop (Int.toNat k) (List.take (Int.toNat (IntKind.wrap .i64 (k + n))) d)))))) then
          K ((.t [(.s (.int .i64 (-(1 : Int)))), (.s (.int .i64 (0 : Int)))]), [])
          else K ((.t [(.s (.int .i64 r)), (.s (.int .i64 n))]), []))
         (bif (!((ByteArray.toList (bstr (encD r))) == (ByteArray.toList (bstr (List.drop (Int.toNat k) (List.take (Int.toNat (IntKind.wrap .i64 (k + n))) d)))))) then
          K ((.t [(.s (.int .i64 (-(1 : Int)))), (.s (.int .i64 (0 : Int)))]), [])
          else K ((.t [(.s (.int .i64 r)), (.s (.int .i64 n))]), [])))
        (bif (!((ByteArray.toList (bstr (encD r))) == (ByteArray.toList (bstr (List.drop (Int.toNat k) (List.take (Int.toNat (IntKind.wrap .i64 (k + n))) d)))))) then
         K ((.t [(.s (.int .i64 (-(1 : Int)))), (.s (.int .i64 (0 : Int)))]), [])
         else K ((.t [(.s (.int .i64 r)), (.s (.int .i64 n))]), [])))
       else none) = K (.t [sc v, sc s], []) := by
  have hlen := fitB_len hd
  rw [wrap_in (n := k + n) (by omega) (by omega), decide_eq_true h0, decide_eq_true (show k ≤ k + n by omega), decide_eq_true hl]
  rw [meet_self, meet_self]
  have e : List.drop (Int.toNat k) (List.take (Int.toNat (k + n)) d) = xs := by
    rw [← hx, show (k + n).toNat = k.toNat + n.toNat by omega]; exact rune_part d _ _
  rw [e, bstr_eq (encD_byte r) (fun y hy => by
    rw [← hx] at hy
    exact fitB_mem hd (List.mem_of_mem_drop (List.mem_of_mem_take hy)))]
  exact rune_fin h
theorem list1 {xs : List Int} (h : 1 ≤ xs.length) : ∃ a t, xs = a :: t := by
  cases xs with
  | nil => simp at h
  | cons a t => exact ⟨a, t, rfl⟩
def S_s_l01Rune : Sm := S_fnR [.l bytesR, .i] (fun d => fitB d.1) (fun d => (.t [sc (valAt d.1 d.2.1), sc (szAt d.1 d.2.1)], []))
theorem v_s_l01Rune (d : List Int) (k : Int) (h : (fitB d) = true) (K : Ret → Option Ret) : T_s_l01Rune d k K = K (.t [sc (valAt d k), sc (szAt d k)], []) := by
  unfold T_s_l01Rune valAt szAt inD
  have hlen := fitB_len h
  by_cases h1 : k < 0
  · rw [decide_eq_true h1, decide_eq_false (show ¬ 0 ≤ k by omega)]; rfl
  by_cases h2 : k ≥ ((d.length : Nat) : Int)
  · rw [decide_eq_false h1, decide_eq_true h2, decide_eq_true (show 0 ≤ k by omega), decide_eq_false (show ¬ k < ((d.length : Nat) : Int) by omega)]; rfl
  have hbk := fitB_get h k.toNat
  rw [decide_eq_false h1, decide_eq_false h2, decide_eq_true (show 0 ≤ k by omega), decide_eq_true (show k < ((d.length : Nat) : Int) by omega), wrap_in (n := d.getD k.toNat 0) (by omega) (by omega), wrap_in (n := ((d.length : Nat) : Int) - k) (by omega) (by omega)]
  simp only [Bool.and_true, cond_true, cond_false]
  have hg : ∀ i : Nat, (d.drop k.toNat).getD i 0 = d.getD (k + (i : Nat)).toNat 0 := fun i => by
    rw [getD_drop]; congr 1; omega
  have hg0 := hg 0
  rw [show (k + ((0 : Nat) : Int)).toNat = k.toNat by omega] at hg0
  have hdl : (d.drop k.toNat).length = d.length - k.toNat := by simp
  have hbytes := fun i => fitB_get (fitB_drop h k.toNat) i
  by_cases c4 : d.getD k.toNat 0 ≥ 240
  · rw [decide_eq_true c4]
    by_cases s4 : (4 : Int) > ((d.length : Nat) : Int) - k
    · rw [decide_eq_true s4]
      have e := runeSz0 (short4 (xs := d.drop k.toNat) (by rw [hg0]; exact c4) (by omega))
      obtain ⟨e1, e2⟩ := Prod.mk.inj e
      rw [e1, e2]; rfl
    · rw [decide_eq_false s4]
      unfold R_s_l01Rune_18_0
      rw [wrap_in (n := d.getD k.toNat 0 - 240) (by omega) (by omega)]
      obtain ⟨m, hm⟩ : ∃ m, List.length d + k.toNat + (4 : Int).toNat + (d.getD k.toNat 0 - 240).toNat + (1 : Int).toNat + 2 = m + 4 := ⟨List.length d + k.toNat + (4 : Int).toNat + (d.getD k.toNat 0 - 240).toNat + (1 : Int).toNat + 2 - 4, by omega⟩
      have b1 := fitB_get h (k + 1).toNat
      have b2 := fitB_get h (k + (1 + 1)).toNat
      rw [hm, rune_step h (by omega) (by omega) (by omega) (by omega) (by omega), rune_step h (by omega) (by omega) (by omega) (by omega) (by omega), rune_step h (by omega) (by omega) (by omega) (by omega) (by omega), rune_end (by omega)]
      refine rune_k h (by omega) (by omega) (by omega) (by omega) (xs := [(d.drop k.toNat).getD 0 0, (d.drop k.toNat).getD 1 0, (d.drop k.toNat).getD 2 0, (d.drop k.toNat).getD 3 0]) ?_ ?_
      · obtain ⟨a, t, e⟩ := list1 (xs := d.drop k.toNat) (by omega)
        obtain ⟨b, t2, e2⟩ := list1 (xs := t) (by rw [e] at hdl; simp at hdl; omega)
        obtain ⟨c, t3, e3⟩ := list1 (xs := t2) (by rw [e, e2] at hdl; simp at hdl; omega)
        obtain ⟨f, t4, e4⟩ := list1 (xs := t3) (by rw [e, e2, e3] at hdl; simp at hdl; omega)
        rw [e, e2, e3, e4]; rfl
      · obtain ⟨a, t, e⟩ := list1 (xs := d.drop k.toNat) (by omega)
        obtain ⟨b, t2, e2⟩ := list1 (xs := t) (by rw [e] at hdl; simp at hdl; omega)
        obtain ⟨c, t3, e3⟩ := list1 (xs := t2) (by rw [e, e2] at hdl; simp at hdl; omega)
        obtain ⟨f, t4, e4⟩ := list1 (xs := t3) (by rw [e, e2, e3] at hdl; simp at hdl; omega)
        have g1 := hg 1
        have g2 := hg 2
        have g3 := hg 3
        have q0 := hbytes 0
        have q1 := hbytes 1
        have q2 := hbytes 2
        have q3 := hbytes 3
        rw [e, e2, e3, e4] at hg0 g1 g2 g3 q0 q1 q2 q3 ⊢
        rw [show (k + 1).toNat = (k + ((1 : Nat) : Int)).toNat from rfl, show (k + (1 + 1)).toNat = (k + ((2 : Nat) : Int)).toNat by congr 1, show (k + (1 + 1 + 1)).toNat = (k + ((3 : Nat) : Int)).toNat by congr 1, ← g1, ← g2, ← g3, ← hg0]
        exact dec4 (by rw [← hg0] at c4; exact c4) q0.2 q1 q2 q3
  rw [decide_eq_false c4]
  by_cases c3 : d.getD k.toNat 0 ≥ 224
  · rw [decide_eq_true c3]
    by_cases s3 : (3 : Int) > ((d.length : Nat) : Int) - k
    · rw [decide_eq_true s3]
      have e := runeSz0 (short3 (xs := d.drop k.toNat) (by rw [hg0]; exact c3) (by rw [hg0]; omega) (by omega))
      obtain ⟨e1, e2⟩ := Prod.mk.inj e
      rw [e1, e2]; rfl
    · rw [decide_eq_false s3]
      unfold R_s_l01Rune_18_0
      rw [wrap_in (n := d.getD k.toNat 0 - 224) (by omega) (by omega)]
      obtain ⟨m, hm⟩ : ∃ m, List.length d + k.toNat + (3 : Int).toNat + (d.getD k.toNat 0 - 224).toNat + (1 : Int).toNat + 2 = m + 3 := ⟨List.length d + k.toNat + (3 : Int).toNat + (d.getD k.toNat 0 - 224).toNat + (1 : Int).toNat + 2 - 3, by omega⟩
      have b1 := fitB_get h (k + 1).toNat
      rw [hm]
      simp only [cond_false, cond_true]
      rw [rune_step h (by omega) (by omega) (by omega) (by omega) (by omega), rune_step h (by omega) (by omega) (by omega) (by omega) (by omega), rune_end (by omega)]
      refine rune_k h (by omega) (by omega) (by omega) (by omega) (xs := [(d.drop k.toNat).getD 0 0, (d.drop k.toNat).getD 1 0, (d.drop k.toNat).getD 2 0]) ?_ ?_
      · obtain ⟨a, t, e⟩ := list1 (xs := d.drop k.toNat) (by omega)
        obtain ⟨b, t2, e2⟩ := list1 (xs := t) (by rw [e] at hdl; simp at hdl; omega)
        obtain ⟨c, t3, e3⟩ := list1 (xs := t2) (by rw [e, e2] at hdl; simp at hdl; omega)
        rw [e, e2, e3]; rfl
      · obtain ⟨a, t, e⟩ := list1 (xs := d.drop k.toNat) (by omega)
        obtain ⟨b, t2, e2⟩ := list1 (xs := t) (by rw [e] at hdl; simp at hdl; omega)
        obtain ⟨c, t3, e3⟩ := list1 (xs := t2) (by rw [e, e2] at hdl; simp at hdl; omega)
        have g1 := hg 1
        have g2 := hg 2
        have q0 := hbytes 0
        have q1 := hbytes 1
        have q2 := hbytes 2
        rw [e, e2, e3] at hg0 g1 g2 q0 q1 q2 ⊢
        rw [show (k + 1).toNat = (k + ((1 : Nat) : Int)).toNat from rfl, show (k + (1 + 1)).toNat = (k + ((2 : Nat) : Int)).toNat by congr 1, ← g1, ← g2, ← hg0]
        exact dec3 (by rw [← hg0] at c3; exact c3) (by rw [← hg0] at c4; exact Int.not_le.1 c4) q1 q2
  rw [decide_eq_false c3]
  by_cases c2 : d.getD k.toNat 0 ≥ 192
  · rw [decide_eq_true c2]
    by_cases s2 : (2 : Int) > ((d.length : Nat) : Int) - k
    · rw [decide_eq_true s2]
      have e := runeSz0 (short2 (xs := d.drop k.toNat) (by rw [hg0]; exact c2) (by rw [hg0]; omega) (by omega))
      obtain ⟨e1, e2⟩ := Prod.mk.inj e
      rw [e1, e2]; rfl
    · rw [decide_eq_false s2]
      unfold R_s_l01Rune_18_0
      rw [wrap_in (n := d.getD k.toNat 0 - 192) (by omega) (by omega)]
      obtain ⟨m, hm⟩ : ∃ m, List.length d + k.toNat + (2 : Int).toNat + (d.getD k.toNat 0 - 192).toNat + (1 : Int).toNat + 2 = m + 2 := ⟨List.length d + k.toNat + (2 : Int).toNat + (d.getD k.toNat 0 - 192).toNat + (1 : Int).toNat + 2 - 2, by omega⟩
      rw [hm]
      simp only [cond_false, cond_true]
      rw [rune_step h (by omega) (by omega) (by omega) (by omega) (by omega), rune_end (by omega)]
      refine rune_k h (by omega) (by omega) (by omega) (by omega) (xs := [(d.drop k.toNat).getD 0 0, (d.drop k.toNat).getD 1 0]) ?_ ?_
      · obtain ⟨a, t, e⟩ := list1 (xs := d.drop k.toNat) (by omega)
        obtain ⟨b, t2, e2⟩ := list1 (xs := t) (by rw [e] at hdl; simp at hdl; omega)
        rw [e, e2]; rfl
      · obtain ⟨a, t, e⟩ := list1 (xs := d.drop k.toNat) (by omega)
        obtain ⟨b, t2, e2⟩ := list1 (xs := t) (by rw [e] at hdl; simp at hdl; omega)
        have g1 := hg 1
        have q0 := hbytes 0
        have q1 := hbytes 1
        rw [e, e2] at hg0 g1 q0 q1 ⊢
        rw [show (k + 1).toNat = (k + ((1 : Nat) : Int)).toNat from rfl, ← g1, ← hg0]
        exact dec2 (by rw [← hg0] at c2; exact c2) (by rw [← hg0] at c3; exact Int.not_le.1 c3) q1
  rw [decide_eq_false c2, decide_eq_false (show ¬ (1 : Int) > ((d.length : Nat) : Int) - k by omega)]
  unfold R_s_l01Rune_18_0
  obtain ⟨m, hm⟩ : ∃ m, List.length d + k.toNat + (1 : Int).toNat + (d.getD k.toNat 0).toNat + (1 : Int).toNat + 2 = m + 1 := ⟨List.length d + k.toNat + (1 : Int).toNat + (d.getD k.toNat 0).toNat + (1 : Int).toNat + 2 - 1, by omega⟩
  rw [hm]
  simp only [cond_false, cond_true]
  rw [rune_end (by omega)]
  refine rune_k h (by omega) (by omega) (by omega) (by omega) (xs := [(d.drop k.toNat).getD 0 0]) ?_ ?_
  · obtain ⟨a, t, e⟩ := list1 (xs := d.drop k.toNat) (by omega)
    rw [e]; rfl
  · obtain ⟨a, t, e⟩ := list1 (xs := d.drop k.toNat) (by omega)
    have q0 := hbytes 0
    rw [e] at hg0 q0 ⊢
    rw [← hg0]
    exact dec1 q0.1 (by rw [← hg0] at c2; exact Int.not_le.1 c2)
theorem okS_s_l01Rune : OkFn prog I N.s_l01Rune true S_s_l01Rune := okN (ok_fn (memc okS_s_RuneBytes mem0) (l := ls_s_l01Rune) (p := pl_s_l01Rune) (ls := [(18, [0,1,7,8,9], [0,1,4,5,7,8], W_s_l01Rune_18)]) (lend := []) (focus := false) (fuel := 0) (give := []) (fn := F.s_l01Rune) (by kernel_rfl) (by kernel_rfl) (by kernel_rfl) (by kernel_rfl) (cs := [bodyOf F.s_l01Rune 18]) (by kernel_rfl) (loopsc loopK_s_l01Rune_18 loops0)) (S_fnR_of fun d K h => (e_s_l01Rune d.1 d.2.1 K).trans (v_s_l01Rune d.1 d.2.1 h K))
end Go.Ev.Seat
end
section
/- s_RuneSize: its contract. -/
namespace Go.Ev.Seat
open Go.RowKit
set_option maxRecDepth 100000
set_option linter.unusedVariables false
set_option linter.unusedSimpArgs false
noncomputable abbrev ls_s_RuneSize : List (Nat × Bool × Sm) := [(N.s_l01Rune, true, S_s_l01Rune)]
noncomputable abbrev E_s_RuneSize : Env := En ls_s_RuneSize [] [] [] false 0 []
noncomputable def T_s_RuneSize (d : List Int) (k : Int) (K : Ret → Option Ret) : Option Ret := (bif (fitB d) then K ((.s (.int .i64 (szAt d k))), []) else none)
theorem e_s_RuneSize (d : List Int) (k : Int) (K : Ret → Option Ret) : evF E_s_RuneSize true F.s_RuneSize [.l .no bytesR d, .s (.int .i64 k)] K = T_s_RuneSize d k K := by kernel_rfl
def S_s_RuneSize : Sm := S_fnR [.l bytesR, .i] (fun d => fitB d.1) (fun d => (sc (szAt d.1 d.2.1), []))
theorem v_s_RuneSize (d : List Int) (k : Int) (h : (fitB d) = true) (K : Ret → Option Ret) : T_s_RuneSize d k K = K (sc (szAt d k), []) := by
  unfold T_s_RuneSize; rw [h]; rfl
theorem okS_s_RuneSize : OkFn prog I N.s_RuneSize true S_s_RuneSize := okN (ok_fn (memc okS_s_l01Rune mem0) (l := ls_s_RuneSize) (p := []) (ls := []) (lend := []) (focus := false) (fuel := 0) (give := []) (fn := F.s_RuneSize) (by kernel_rfl) (by kernel_rfl) (by kernel_rfl) (by kernel_rfl) (cs := []) (by kernel_rfl) loops0) (S_fnR_of fun d K h => (e_s_RuneSize d.1 d.2.1 K).trans (v_s_RuneSize d.1 d.2.1 h K))
end Go.Ev.Seat
end
section
/- s_l01Cuts: its contract. -/
namespace Go.Ev.Seat
open Go.RowKit
set_option maxRecDepth 100000
set_option linter.unusedVariables false
set_option linter.unusedSimpArgs false
def z_s_l01Cuts_5_0 (x4 : Int) (o0 : List Int) : St := { tm := ([.x, .x, .nl, (.w 0), (.s (.int .i64 x4))] ++ List.replicate 25 .x), ob := [(0, (.arr true true intR o0))], nx := 1, io := [] }
def z_s_l01Cuts_5_1 (x4 : Int) (o0 : List Int) : St := { tm := ([.x, .x, .x, (.w 0), (.s (.int .i64 x4))] ++ List.replicate 25 .x), ob := [(0, (.arr true true intR o0))], nx := 1, io := [] }
def sh_s_l01Cuts_5_0 : Ss := { tm := (.cons (.l .no bytesR) (.cons (.x) (.cons (.x) (.cons (.w 0) (.cons (.int .i64) (xsh 25)))))), ob := (.arr true true intR .nil), nx := 1, io := .nil }
def d_s_l01Cuts_5_0 (x0 : List Int) (x4 : Int) (o0 : List Int) : sh_s_l01Cuts_5_0.T := ((x0, ((), ((), ((), (x4, xd 25))))), (o0, ()), ())
def s_s_l01Cuts_5_0 (x0 : List Int) (x4 : Int) (o0 : List Int) : St := { tm := ([(.l .no bytesR x0), .x, .x, (.w 0), (.s (.int .i64 x4))] ++ List.replicate 25 .x), ob := [(0, (.arr true true intR o0))], nx := 1, io := [] }
theorem se_s_l01Cuts_5_0 (x0 : List Int) (x4 : Int) (o0 : List Int) : sh_s_l01Cuts_5_0.mk' (d_s_l01Cuts_5_0 x0 x4 o0) = (s_s_l01Cuts_5_0 x0 x4 o0) := by kernel_rfl
def w_s_l01Cuts_5_0 (d : sh_s_l01Cuts_5_0.T) (f : (List Int) → Int → (List Int) → Option Ret) : Option Ret := match d with | ((x0, (_, (_, (_, (x4, _))))), (o0, _), _) => f x0 x4 o0
noncomputable def P_s_l01Cuts_5_0 (x0 : List Int) (x4 : Int) (o0 : List Int) (nx0 : (List Int) → Int → (List Int) → Option Ret) (k0 : Int → (List Int) → Option Ret) (k1 : Int → (List Int) → Option Ret) : Option Ret := (bif (decide (x4 < (((List.length x0) : Nat) : Int))) then (bif (fitB x0) then (bif ((szAt x0 x4) == (0 : Int)) then (k0 x4 o0) else (bif (Nat.ble (((List.length o0) + (List.length (x4 :: ([] : List Int)))) * 8) 140737488355328) then (nx0 x0 (IntKind.wrap .i64 (x4 + (szAt x0 x4))) (o0 ++ (x4 :: ([] : List Int)))) else none)) else none) else (k1 x4 o0))
noncomputable def Q_s_l01Cuts_5_0 : Nat → (List Int) → Int → (List Int) → (Int → (List Int) → Option Ret) → (Int → (List Int) → Option Ret) → Option Ret
  | 0, _, _, _, _, _ => none
  | m + 1, x0, x4, o0, k0, k1 => P_s_l01Cuts_5_0 x0 x4 o0 (fun x0 x4 o0 => (Q_s_l01Cuts_5_0 m x0 x4 o0 k0 k1)) k0 k1
noncomputable def R_s_l01Cuts_5_0 (x0 : List Int) (x4 : Int) (o0 : List Int) (k0 : Int → (List Int) → Option Ret) (k1 : Int → (List Int) → Option Ret) : Option Ret := Q_s_l01Cuts_5_0 (List.length x0 + x4.toNat + List.length o0 + 2) x0 x4 o0 k0 k1
noncomputable def W_s_l01Cuts_5 : LoopFn := (fun (σ : St) (K : Ex → St → Option Ret) => (match sh_s_l01Cuts_5_0.un σ with | some d => w_s_l01Cuts_5_0 d (fun x0 x4 o0 => R_s_l01Cuts_5_0 x0 x4 o0 (fun x4 o0 => (K .ret (z_s_l01Cuts_5_0 x4 o0))) (fun x4 o0 => (K (.ext 0) (z_s_l01Cuts_5_1 x4 o0)))) | none => none))
noncomputable abbrev ls_s_l01Cuts : List (Nat × Bool × Sm) := [(N.s_RuneSize, true, S_s_RuneSize)]
noncomputable abbrev E_s_l01Cuts : Env := En ls_s_l01Cuts [] [(5, [0,3,4], [2,3,4], W_s_l01Cuts_5)] [] false 0 []
noncomputable abbrev U_s_l01Cuts_5 := rounds (run E_s_l01Cuts (bodyOf F.s_l01Cuts 5)) [0,3,4] [2,3,4]
theorem st_s_l01Cuts_5_0 (m : Nat) (x0 : List Int) (x4 : Int) (o0 : List Int) (K : Ex → St → Option Ret) : U_s_l01Cuts_5 (m + 1) (s_s_l01Cuts_5_0 x0 x4 o0) K = P_s_l01Cuts_5_0 x0 x4 o0 (fun x0 x4 o0 => (U_s_l01Cuts_5 m (s_s_l01Cuts_5_0 x0 x4 o0) K)) (fun x4 o0 => (K .ret (z_s_l01Cuts_5_0 x4 o0))) (fun x4 o0 => (K (.ext 0) (z_s_l01Cuts_5_1 x4 o0))) := by kernel_rfl
theorem q_s_l01Cuts_5 (K : Ex → St → Option Ret) : ∀ m : Nat, (∀ (x0 : List Int) (x4 : Int) (o0 : List Int), U_s_l01Cuts_5 m (s_s_l01Cuts_5_0 x0 x4 o0) K = Q_s_l01Cuts_5_0 m x0 x4 o0 (fun x4 o0 => (K .ret (z_s_l01Cuts_5_0 x4 o0))) (fun x4 o0 => (K (.ext 0) (z_s_l01Cuts_5_1 x4 o0))))
  | 0 => (fun _ _ _ => rfl)
  | m + 1 => (fun x0 x4 o0 => (by rw [st_s_l01Cuts_5_0, show (fun x0 x4 o0 => (U_s_l01Cuts_5 m (s_s_l01Cuts_5_0 x0 x4 o0) K)) = (fun x0 x4 o0 => (Q_s_l01Cuts_5_0 m x0 x4 o0 (fun x4 o0 => (K .ret (z_s_l01Cuts_5_0 x4 o0))) (fun x4 o0 => (K (.ext 0) (z_s_l01Cuts_5_1 x4 o0))))) from funext fun x0 => funext fun x4 => funext fun o0 => (q_s_l01Cuts_5 K m) x0 x4 o0]; rfl))
theorem loopK_s_l01Cuts_5 : LoopOk E_s_l01Cuts (bodyOf F.s_l01Cuts 5) := by
  refine loopW_ok (n := 5) (F := W_s_l01Cuts_5) (by kernel_rfl) rfl (li := [0,3,4]) (lo := [2,3,4]) rfl (fun σ K r hr => ?_)
  unfold W_s_l01Cuts_5 at hr
  split at hr
  · rename_i d hd
    rw [Ss.un_mk hd]
    exact ⟨_, ((congrArg (fun z => U_s_l01Cuts_5 _ z K) (se_s_l01Cuts_5_0 _ _ _)).trans ((q_s_l01Cuts_5 K _) _ _ _)).trans hr⟩
  · cases hr
noncomputable def T_s_l01Cuts (d : List Int) (K : Ret → Option Ret) : Option Ret := (bif (decide ((((List.length d) : Nat) : Int) > (400 : Int))) then K ((.l .deep intR ([] : List Int)), []) else (R_s_l01Cuts_5_0 d (0 : Int) ([] : List Int) (fun y0 y1 => K ((.l .deep intR ([] : List Int)), [])) (fun y2 y3 => (bif (Nat.ble (((List.length y3) + (List.length (y2 :: ([] : List Int)))) * 8) 140737488355328) then K ((.l .deep intR (y3 ++ (y2 :: ([] : List Int)))), []) else none))))
theorem e_s_l01Cuts (d : List Int) (K : Ret → Option Ret) : evF E_s_l01Cuts true F.s_l01Cuts [.l .no bytesR d] K = T_s_l01Cuts d K := by kernel_rfl
theorem cuts_loop {d : List Int} (hd : fitB d = true) (F : Option Ret) (k1 : Int → List Int → Option Ret) : ∀ (m n : Nat) (o : List Int), n ≤ d.length → d.length - n < m → o.length ≤ n →
    Q_s_l01Cuts_5_0 m d (n : Int) o (fun _ _ => F) k1 = bif valid (d.drop n) then k1 ((d.length : Nat) : Int) (o ++ starts (d.drop n) (n : Int)) else F
  | 0, n, o, _, h, _ => absurd h (by omega)
  | m + 1, n, o, hn, hm, ho => by
    have hlen := fitB_len hd
    show P_s_l01Cuts_5_0 d (n : Int) o _ _ k1 = _
    unfold P_s_l01Cuts_5_0
    by_cases hl : n < d.length
    · rw [decide_eq_true (show (n : Int) < ((d.length : Nat) : Int) by omega), hd, szAt_in (by omega) (by omega), Int.toNat_natCast]
      simp only [cond_true]
      have hle := runeSz_le (d.drop n)
      rw [List.length_drop] at hle
      by_cases h0 : runeSz (d.drop n) = 0
      · rw [h0, valid_stop h0 (by simp; omega)]; rfl
      · rw [beq_eq_false_iff_ne.2 (show ¬ ((runeSz (d.drop n) : Nat) : Int) = 0 by omega), Nat.ble_eq_true_of_le (show (o.length + [(n : Int)].length) * 8 ≤ 140737488355328 by simp; omega), wrap_in (n := (n : Int) + (runeSz (d.drop n) : Nat)) (by omega) (by omega)]
        have e : (n : Int) + ((runeSz (d.drop n) : Nat) : Int) = ((n + runeSz (d.drop n) : Nat) : Int) := by omega
        simp only [cond_false, cond_true]
        rw [e]
        refine (cuts_loop hd F k1 m (n + runeSz (d.drop n)) (o ++ [(n : Int)]) (by omega) (by omega) (by simp; omega)).trans ?_
        rw [valid_step h0, starts_step h0, List.drop_drop, List.append_assoc, List.singleton_append, e]
    · have : n = d.length := by omega
      subst this
      rw [decide_eq_false (show ¬ ((d.length : Nat) : Int) < ((d.length : Nat) : Int) by omega), List.drop_length, valid_nil, starts_stop (by rfl), List.append_nil]; rfl
def S_s_l01Cuts : Sm := S_fnR [.l bytesR] (fun d => fitB d.1) (fun d => (.l .deep intR (cutsD d.1), []))
theorem v_s_l01Cuts (d : List Int) (h : (fitB d) = true) (K : Ret → Option Ret) : T_s_l01Cuts d K = K (.l .deep intR (cutsD d), []) := by
  unfold T_s_l01Cuts cutsD
  by_cases h4 : ((d.length : Nat) : Int) > 400
  · rw [decide_eq_true h4, show textOk d = false from Bool.eq_false_iff.2 (fun he => by have := (textOk_iff.1 he).1; omega)]; rfl
  · rw [decide_eq_false h4]
    unfold R_s_l01Cuts_5_0
    have := cuts_loop h (K (.l .deep intR [], [])) (fun y2 y3 => (bif (Nat.ble (((List.length y3) + (List.length (y2 :: []))) * 8) 140737488355328) then K ((.l .deep intR (y3 ++ (y2 :: []))), []) else none)) (List.length d + (0 : Int).toNat + List.length ([] : List Int) + 2) 0 [] (by omega) (by omega) (by simp)
    refine Eq.trans this ?_
    rw [List.drop_zero]
    cases hv : valid d with
    | false => rw [show textOk d = false from Bool.eq_false_iff.2 (fun he => by have := (textOk_iff.1 he).2; rw [hv] at this; cases this)]; rfl
    | true =>
      rw [textOk_iff.2 ⟨by omega, hv⟩]
      have hs := starts_len _ d 0 (Nat.le_refl _)
      simp only [cond_true, List.nil_append]
      rw [Nat.ble_eq_true_of_le (by simp; omega), bounds_starts _ d 0 (Nat.le_refl _) hv, Int.zero_add]
      rfl
theorem okS_s_l01Cuts : OkFn prog I N.s_l01Cuts true S_s_l01Cuts := okN (ok_fn (memc okS_s_RuneSize mem0) (l := ls_s_l01Cuts) (p := []) (ls := [(5, [0,3,4], [2,3,4], W_s_l01Cuts_5)]) (lend := []) (focus := false) (fuel := 0) (give := []) (fn := F.s_l01Cuts) (by kernel_rfl) (by kernel_rfl) (by kernel_rfl) (by kernel_rfl) (cs := [bodyOf F.s_l01Cuts 5]) (by kernel_rfl) (loopsc loopK_s_l01Cuts_5 loops0)) (S_fnR_of fun d K h => (e_s_l01Cuts d.1 K).trans (v_s_l01Cuts d.1 h K))
end Go.Ev.Seat
end
section
/- s_RunesTo: its contract. -/
namespace Go.Ev.Seat
open Go.RowKit
set_option maxRecDepth 100000
set_option linter.unusedVariables false
set_option linter.unusedSimpArgs false
def z_s_RunesTo_3_0 (x4 : Int) : St := { tm := ([.x, .x, .x, .x, (.s (.int .i64 x4))] ++ List.replicate 17 .x), ob := [], nx := 0, io := [] }
def z_s_RunesTo_3_1 : St := { tm := ([] ++ List.replicate 22 .x), ob := [], nx := 0, io := [] }
def sh_s_RunesTo_3_0 : Ss := { tm := (.cons (.x) (.cons (.int .i64) (.cons (.x) (.cons (.x) (.cons (.x) (.cons (.w 0) (.cons (.int .i64) (xsh 15)))))))), ob := (.arr true true intR .nil), nx := 1, io := .nil }
def d_s_RunesTo_3_0 (x1 : Int) (x6 : Int) (o0 : List Int) : sh_s_RunesTo_3_0.T := (((), (x1, ((), ((), ((), ((), (x6, xd 15))))))), (o0, ()), ())
def s_s_RunesTo_3_0 (x1 : Int) (x6 : Int) (o0 : List Int) : St := { tm := ([.x, (.s (.int .i64 x1)), .x, .x, .x, (.w 0), (.s (.int .i64 x6))] ++ List.replicate 15 .x), ob := [(0, (.arr true true intR o0))], nx := 1, io := [] }
theorem se_s_RunesTo_3_0 (x1 : Int) (x6 : Int) (o0 : List Int) : sh_s_RunesTo_3_0.mk' (d_s_RunesTo_3_0 x1 x6 o0) = (s_s_RunesTo_3_0 x1 x6 o0) := by kernel_rfl
def w_s_RunesTo_3_0 (d : sh_s_RunesTo_3_0.T) (f : Int → Int → (List Int) → Option Ret) : Option Ret := match d with | ((_, (x1, (_, (_, (_, (_, (x6, _))))))), (o0, _), _) => f x1 x6 o0
noncomputable def P_s_RunesTo_3_0 (x1 : Int) (x6 : Int) (o0 : List Int) (nx0 : Int → Int → (List Int) → Option Ret) (k0 : Int → Option Ret) (k1 : Option Ret) : Option Ret := (bif (decide (x6 < (((List.length o0) : Nat) : Int))) then (bif ((decide ((0 : Int) ≤ x6)) && (decide (x6 < (((List.length o0) : Nat) : Int)))) then (bif ((List.getD o0 (Int.toNat x6) (0 : Int)) == x1) then (k0 x6) else (nx0 x1 (IntKind.wrap .i64 (x6 + (1 : Int))) o0)) else none) else k1)
noncomputable def Q_s_RunesTo_3_0 : Nat → Int → Int → (List Int) → (Int → Option Ret) → (Option Ret) → Option Ret
  | 0, _, _, _, _, _ => none
  | m + 1, x1, x6, o0, k0, k1 => P_s_RunesTo_3_0 x1 x6 o0 (fun x1 x6 o0 => (Q_s_RunesTo_3_0 m x1 x6 o0 k0 k1)) k0 k1
noncomputable def R_s_RunesTo_3_0 (x1 : Int) (x6 : Int) (o0 : List Int) (k0 : Int → Option Ret) (k1 : Option Ret) : Option Ret := Q_s_RunesTo_3_0 (x1.toNat + x6.toNat + List.length o0 + 2) x1 x6 o0 k0 k1
noncomputable def W_s_RunesTo_3 : LoopFn := (fun (σ : St) (K : Ex → St → Option Ret) => (match sh_s_RunesTo_3_0.un σ with | some d => w_s_RunesTo_3_0 d (fun x1 x6 o0 => R_s_RunesTo_3_0 x1 x6 o0 (fun x4 => (K .ret (z_s_RunesTo_3_0 x4))) (K (.ext 0) z_s_RunesTo_3_1)) | none => none))
noncomputable abbrev ls_s_RunesTo : List (Nat × Bool × Sm) := [(N.s_l01Cuts, true, S_s_l01Cuts)]
noncomputable abbrev E_s_RunesTo : Env := En ls_s_RunesTo [] [(3, [1,5,6], [4], W_s_RunesTo_3)] [] false 0 []
noncomputable abbrev U_s_RunesTo_3 := rounds (run E_s_RunesTo (bodyOf F.s_RunesTo 3)) [1,5,6] [4]
theorem st_s_RunesTo_3_0 (m : Nat) (x1 : Int) (x6 : Int) (o0 : List Int) (K : Ex → St → Option Ret) : U_s_RunesTo_3 (m + 1) (s_s_RunesTo_3_0 x1 x6 o0) K = P_s_RunesTo_3_0 x1 x6 o0 (fun x1 x6 o0 => (U_s_RunesTo_3 m (s_s_RunesTo_3_0 x1 x6 o0) K)) (fun x4 => (K .ret (z_s_RunesTo_3_0 x4))) (K (.ext 0) z_s_RunesTo_3_1) := by kernel_rfl
theorem q_s_RunesTo_3 (K : Ex → St → Option Ret) : ∀ m : Nat, (∀ (x1 : Int) (x6 : Int) (o0 : List Int), U_s_RunesTo_3 m (s_s_RunesTo_3_0 x1 x6 o0) K = Q_s_RunesTo_3_0 m x1 x6 o0 (fun x4 => (K .ret (z_s_RunesTo_3_0 x4))) (K (.ext 0) z_s_RunesTo_3_1))
  | 0 => (fun _ _ _ => rfl)
  | m + 1 => (fun x1 x6 o0 => (by rw [st_s_RunesTo_3_0, show (fun x1 x6 o0 => (U_s_RunesTo_3 m (s_s_RunesTo_3_0 x1 x6 o0) K)) = (fun x1 x6 o0 => (Q_s_RunesTo_3_0 m x1 x6 o0 (fun x4 => (K .ret (z_s_RunesTo_3_0 x4))) (K (.ext 0) z_s_RunesTo_3_1))) from funext fun x1 => funext fun x6 => funext fun o0 => (q_s_RunesTo_3 K m) x1 x6 o0]; rfl))
theorem loopK_s_RunesTo_3 : LoopOk E_s_RunesTo (bodyOf F.s_RunesTo 3) := by
  refine loopW_ok (n := 3) (F := W_s_RunesTo_3) (by kernel_rfl) rfl (li := [1,5,6]) (lo := [4]) rfl (fun σ K r hr => ?_)
  unfold W_s_RunesTo_3 at hr
  split at hr
  · rename_i d hd
    rw [Ss.un_mk hd]
    exact ⟨_, ((congrArg (fun z => U_s_RunesTo_3 _ z K) (se_s_RunesTo_3_0 _ _ _)).trans ((q_s_RunesTo_3 K _) _ _ _)).trans hr⟩
  · cases hr
noncomputable def T_s_RunesTo (d : List Int) (k : Int) (K : Ret → Option Ret) : Option Ret := (bif (fitB d) then (R_s_RunesTo_3_0 k (0 : Int) (cutsD d) (fun y0 => K ((.s (.int .i64 y0)), [])) (K ((.s (.int .i64 (-(1 : Int)))), []))) else none)
theorem e_s_RunesTo (d : List Int) (k : Int) (K : Ret → Option Ret) : evF E_s_RunesTo true F.s_RunesTo [.l .no bytesR d, .s (.int .i64 k)] K = T_s_RunesTo d k K := by kernel_rfl
def S_s_RunesTo : Sm := S_fnR [.l bytesR, .i] (fun d => fitB d.1) (fun d => (sc (idxOfD (cutsD d.1) d.2.1), []))
theorem v_s_RunesTo (d : List Int) (k : Int) (h : (fitB d) = true) (K : Ret → Option Ret) : T_s_RunesTo d k K = K (sc (idxOfD (cutsD d) k), []) := by
  unfold T_s_RunesTo R_s_RunesTo_3_0
  rw [h]
  have hl : (cutsD d).length ≤ 401 := by
    unfold cutsD
    cases ht : textOk d with
    | false => simp
    | true =>
      have hh := textOk_iff.1 ht
      rw [cond_true, bounds_starts _ d 0 (Nat.le_refl _) hh.2]
      have := starts_len _ d 0 (Nat.le_refl _)
      simp; omega
  have := idx_find (R := fun m i => Q_s_RunesTo_3_0 m k i (cutsD d) (fun y0 => K ((.s (.int .i64 y0)), [])) (K ((.s (.int .i64 (-(1 : Int)))), []))) (p := fun c => c == k) (z := 0) (xs := cutsD d) (kf := fun y0 => K ((.s (.int .i64 y0)), [])) (kt := K ((.s (.int .i64 (-(1 : Int)))), []))
    (fun m i hi => by
      show P_s_RunesTo_3_0 k i (cutsD d) _ _ _ = _
      unfold P_s_RunesTo_3_0
      rw [decide_eq_true (show ((i : Nat) : Int) < (((cutsD d).length : Nat) : Int) by omega), decide_eq_true (show (0 : Int) ≤ ((i : Nat) : Int) by omega), wrap_nat (by omega), Int.toNat_natCast]
      rfl)
    (fun m => by
      show P_s_RunesTo_3_0 k _ (cutsD d) _ _ _ = _
      unfold P_s_RunesTo_3_0
      rw [decide_eq_false (show ¬ (((cutsD d).length : Nat) : Int) < (((cutsD d).length : Nat) : Int) by omega)]; rfl)
    (k.toNat + (0 : Int).toNat + List.length (cutsD d) + 2) 0 (by omega) (by omega)
  refine Eq.trans this ?_
  rw [List.drop_zero]
  unfold idxOfD
  cases (cutsD d).findIdx? (fun c => c == k) with
  | none => rfl
  | some j => show K (V.s (Value.int .i64 ((0 + j : Nat) : Int)), []) = K (sc ((j : Nat) : Int), []); rw [Nat.zero_add]; rfl
theorem okS_s_RunesTo : OkFn prog I N.s_RunesTo true S_s_RunesTo := okN (ok_fn (memc okS_s_l01Cuts mem0) (l := ls_s_RunesTo) (p := []) (ls := [(3, [1,5,6], [4], W_s_RunesTo_3)]) (lend := []) (focus := false) (fuel := 0) (give := []) (fn := F.s_RunesTo) (by kernel_rfl) (by kernel_rfl) (by kernel_rfl) (by kernel_rfl) (cs := [bodyOf F.s_RunesTo 3]) (by kernel_rfl) (loopsc loopK_s_RunesTo_3 loops0)) (S_fnR_of fun d K h => (e_s_RunesTo d.1 d.2.1 K).trans (v_s_RunesTo d.1 d.2.1 h K))
end Go.Ev.Seat
end
section
/- i_CutOk: its contract. -/
namespace Go.Ev.Seat
open Go.RowKit
set_option maxRecDepth 100000
set_option linter.unusedVariables false
set_option linter.unusedSimpArgs false
noncomputable abbrev ls_i_CutOk : List (Nat × Bool × Sm) := [(N.i_isText, true, S_i_isText), (N.i_isCut, true, S_i_isCut)]
noncomputable abbrev E_i_CutOk : Env := En ls_i_CutOk [] [] [] false 0 []
noncomputable def T_i_CutOk (d : List Int) (k : Int) (K : Ret → Option Ret) : Option Ret := (bif (fitB d) then (bif (textOk d) then (bif (fitB d) then K ((.s (.bool (isCutD d k))), []) else none) else K ((.s (.bool false)), [])) else none)
theorem e_i_CutOk (d : List Int) (k : Int) (K : Ret → Option Ret) : evF E_i_CutOk true F.i_CutOk [.l .no bytesR d, .s (.int .i64 k)] K = T_i_CutOk d k K := by kernel_rfl
def S_i_CutOk : Sm := S_fnR [.l bytesR, .i] (fun d => fitB d.1) (fun d => (bl (cutOk d.1 d.2.1), []))
theorem v_i_CutOk (d : List Int) (k : Int) (h : (fitB d) = true) (K : Ret → Option Ret) : T_i_CutOk d k K = K (bl (cutOk d k), []) := by
  unfold T_i_CutOk cutOk
  rw [h]
  cases textOk d <;> rfl
theorem okS_i_CutOk : OkFn prog I N.i_CutOk true S_i_CutOk := okN (ok_fn (memc okS_i_isText (memc okS_i_isCut mem0)) (l := ls_i_CutOk) (p := []) (ls := []) (lend := []) (focus := false) (fuel := 0) (give := []) (fn := F.i_CutOk) (by kernel_rfl) (by kernel_rfl) (by kernel_rfl) (by kernel_rfl) (cs := []) (by kernel_rfl) loops0) (S_fnR_of fun d K h => (e_i_CutOk d.1 d.2.1 K).trans (v_i_CutOk d.1 d.2.1 h K))
end Go.Ev.Seat
end
section
/- s_TextOk: its contract. -/
namespace Go.Ev.Seat
open Go.RowKit
set_option maxRecDepth 100000
set_option linter.unusedVariables false
set_option linter.unusedSimpArgs false
noncomputable abbrev ls_s_TextOk : List (Nat × Bool × Sm) := [(N.s_l01Cuts, true, S_s_l01Cuts)]
noncomputable abbrev E_s_TextOk : Env := En ls_s_TextOk [] [] [] false 0 []
noncomputable def T_s_TextOk (d : List Int) (K : Ret → Option Ret) : Option Ret := (bif (fitB d) then K ((.s (.bool (decide ((((List.length (cutsD d)) : Nat) : Int) > (0 : Int))))), []) else none)
theorem e_s_TextOk (d : List Int) (K : Ret → Option Ret) : evF E_s_TextOk true F.s_TextOk [.l .no bytesR d] K = T_s_TextOk d K := by kernel_rfl
def S_s_TextOk : Sm := S_fnR [.l bytesR] (fun d => fitB d.1) (fun d => (bl (textOk d.1), []))
theorem v_s_TextOk (d : List Int) (h : (fitB d) = true) (K : Ret → Option Ret) : T_s_TextOk d K = K (bl (textOk d), []) := by
  unfold T_s_TextOk
  rw [h]
  have e : decide ((((List.length (cutsD d)) : Nat) : Int) > (0 : Int)) = textOk d := by
    unfold cutsD
    cases textOk d with
    | false => rfl
    | true => exact decide_eq_true (show (((bounds d 0).length : Nat) : Int) > 0 by have := bounds_ne d 0; omega)
  rw [e]; rfl
theorem okS_s_TextOk : OkFn prog I N.s_TextOk true S_s_TextOk := okN (ok_fn (memc okS_s_l01Cuts mem0) (l := ls_s_TextOk) (p := []) (ls := []) (lend := []) (focus := false) (fuel := 0) (give := []) (fn := F.s_TextOk) (by kernel_rfl) (by kernel_rfl) (by kernel_rfl) (by kernel_rfl) (cs := []) (by kernel_rfl) loops0) (S_fnR_of fun d K h => (e_s_TextOk d.1 K).trans (v_s_TextOk d.1 h K))
end Go.Ev.Seat
end
section
/- i_RuneCount: its contract. -/
namespace Go.Ev.Seat
open Go.RowKit
set_option maxRecDepth 100000
set_option linter.unusedVariables false
set_option linter.unusedSimpArgs false
noncomputable abbrev ls_i_RuneCount : List (Nat × Bool × Sm) := [(N.i_isText, true, S_i_isText), (N.utf8_RuneCount, true, S_utf8_RuneCount)]
noncomputable abbrev E_i_RuneCount : Env := En ls_i_RuneCount [] [] [] false 0 []
noncomputable def T_i_RuneCount (d : List Int) (K : Ret → Option Ret) : Option Ret := (bif (fitB d) then (bif (!(textOk d)) then K ((.s (.int .i64 (-(1 : Int)))), []) else (bif ((fitB d) && (valid d)) then K ((.s (.int .i64 (((cntR d) : Nat) : Int))), []) else none)) else none)
theorem e_i_RuneCount (d : List Int) (K : Ret → Option Ret) : evF E_i_RuneCount true F.i_RuneCount [.l .no bytesR d] K = T_i_RuneCount d K := by kernel_rfl
def S_i_RuneCount : Sm := S_fnR [.l bytesR] (fun d => fitB d.1) (fun d => (sc (bif textOk d.1 then ((cntR d.1 : Nat) : Int) else -1), []))
theorem v_i_RuneCount (d : List Int) (h : (fitB d) = true) (K : Ret → Option Ret) : T_i_RuneCount d K = K (sc (bif textOk d then ((cntR d : Nat) : Int) else -1), []) := by
  unfold T_i_RuneCount
  rw [h]
  cases ht : textOk d with
  | false => rfl
  | true => rw [(textOk_iff.1 ht).2]; rfl
theorem okS_i_RuneCount : OkFn prog I N.i_RuneCount true S_i_RuneCount := okN (ok_fn (memc okS_i_isText (memc okS_utf8_RuneCount mem0)) (l := ls_i_RuneCount) (p := []) (ls := []) (lend := []) (focus := false) (fuel := 0) (give := []) (fn := F.i_RuneCount) (by kernel_rfl) (by kernel_rfl) (by kernel_rfl) (by kernel_rfl) (cs := []) (by kernel_rfl) loops0) (S_fnR_of fun d K h => (e_i_RuneCount d.1 K).trans (v_i_RuneCount d.1 h K))
end Go.Ev.Seat
end
section
/- utf8_decodeRuneSlow: its contract. -/
namespace Go.Ev.Seat
open Go.RowKit
set_option maxRecDepth 100000
set_option linter.unusedVariables false
set_option linter.unusedSimpArgs false
noncomputable abbrev E_utf8_decodeRuneSlow : Env := En [] [] [] [] false 0 []
noncomputable def T_utf8_decodeRuneSlow (p : List Int) (K : Ret → Option Ret) : Option Ret := (bif (decide ((((List.length p) : Nat) : Int) < (1 : Int))) then K ((.t [(.s (.int .i32 (65533 : Int))), (.s (.int .i64 (0 : Int)))]), []) else (bif (decide ((0 : Int) < (((List.length p) : Nat) : Int))) then (bif ((decide ((0 : Int) ≤ (List.getD p 0 (0 : Int)))) && (decide ((List.getD p 0 (0 : Int)) < ((256 : Nat) : Int)))) then (bif (Nat.blt (Int.toNat (List.getD p 0 (0 : Int))) (List.length utfFirst)) then (bif (decide ((List.getD utfFirst (Int.toNat (List.getD p 0 (0 : Int))) (0 : Int)) ≥ (240 : Int))) then (bif (decide ((0 : Int) < (((List.length p) : Nat) : Int))) then K ((.t [(.s (.int .i32 (bor .i32 (bandn .i32 (IntKind.wrap .i32 (List.getD p 0 (0 : Int))) (shrI .i32 (shlI .i32 (IntKind.wrap .i32 (List.getD utfFirst (Int.toNat (List.getD p 0 (0 : Int))) (0 : Int))) (31 : Int)) (31 : Int))) (band .i32 (65533 : Int) (shrI .i32 (shlI .i32 (IntKind.wrap .i32 (List.getD utfFirst (Int.toNat (List.getD p 0 (0 : Int))) (0 : Int))) (31 : Int)) (31 : Int)))))), (.s (.int .i64 (1 : Int)))]), []) else none) else (bif ((decide ((0 : Int) ≤ (shrI .u8 (List.getD utfFirst (Int.toNat (List.getD p 0 (0 : Int))) (0 : Int)) (4 : Int)))) && (decide ((shrI .u8 (List.getD utfFirst (Int.toNat (List.getD p 0 (0 : Int))) (0 : Int)) (4 : Int)) < ((16 : Nat) : Int)))) then (bif (Nat.blt (Int.toNat (shrI .u8 (List.getD utfFirst (Int.toNat (List.getD p 0 (0 : Int))) (0 : Int)) (4 : Int))) (List.length utfAccept)) then (bif (decide ((((List.length p) : Nat) : Int) < (IntKind.wrap .i64 (band .u8 (List.getD utfFirst (Int.toNat (List.getD p 0 (0 : Int))) (0 : Int)) (7 : Int))))) then K ((.t [(.s (.int .i32 (65533 : Int))), (.s (.int .i64 (1 : Int)))]), []) else (bif (decide ((1 : Int) < (((List.length p) : Nat) : Int))) then (bif (decide ((List.getD p 1 (0 : Int)) < (List.getD utfAccept (Int.toNat (shrI .u8 (List.getD utfFirst (Int.toNat (List.getD p 0 (0 : Int))) (0 : Int)) (4 : Int))) (accR.dflt)).1)) then K ((.t [(.s (.int .i32 (65533 : Int))), (.s (.int .i64 (1 : Int)))]), []) else (bif (decide ((List.getD utfAccept (Int.toNat (shrI .u8 (List.getD utfFirst (Int.toNat (List.getD p 0 (0 : Int))) (0 : Int)) (4 : Int))) (accR.dflt)).2 < (List.getD p 1 (0 : Int)))) then K ((.t [(.s (.int .i32 (65533 : Int))), (.s (.int .i64 (1 : Int)))]), []) else (bif (decide ((IntKind.wrap .i64 (band .u8 (List.getD utfFirst (Int.toNat (List.getD p 0 (0 : Int))) (0 : Int)) (7 : Int))) ≤ (2 : Int))) then K ((.t [(.s (.int .i32 (bor .i32 (shlI .i32 (IntKind.wrap .i32 (band .u8 (List.getD p 0 (0 : Int)) (31 : Int))) (6 : Int)) (IntKind.wrap .i32 (band .u8 (List.getD p 1 (0 : Int)) (63 : Int)))))), (.s (.int .i64 (2 : Int)))]), []) else (bif (decide ((2 : Int) < (((List.length p) : Nat) : Int))) then (bif (decide ((List.getD p 2 (0 : Int)) < (128 : Int))) then K ((.t [(.s (.int .i32 (65533 : Int))), (.s (.int .i64 (1 : Int)))]), []) else (bif (decide ((191 : Int) < (List.getD p 2 (0 : Int)))) then K ((.t [(.s (.int .i32 (65533 : Int))), (.s (.int .i64 (1 : Int)))]), []) else (bif (decide ((IntKind.wrap .i64 (band .u8 (List.getD utfFirst (Int.toNat (List.getD p 0 (0 : Int))) (0 : Int)) (7 : Int))) ≤ (3 : Int))) then K ((.t [(.s (.int .i32 (bor .i32 (bor .i32 (shlI .i32 (IntKind.wrap .i32 (band .u8 (List.getD p 0 (0 : Int)) (15 : Int))) (12 : Int)) (shlI .i32 (IntKind.wrap .i32 (band .u8 (List.getD p 1 (0 : Int)) (63 : Int))) (6 : Int))) (IntKind.wrap .i32 (band .u8 (List.getD p 2 (0 : Int)) (63 : Int)))))), (.s (.int .i64 (3 : Int)))]), []) else (bif (decide ((3 : Int) < (((List.length p) : Nat) : Int))) then (bif (decide ((List.getD p 3 (0 : Int)) < (128 : Int))) then K ((.t [(.s (.int .i32 (65533 : Int))), (.s (.int .i64 (1 : Int)))]), []) else (bif (decide ((191 : Int) < (List.getD p 3 (0 : Int)))) then K ((.t [(.s (.int .i32 (65533 : Int))), (.s (.int .i64 (1 : Int)))]), []) else K ((.t [(.s (.int .i32 (bor .i32 (bor .i32 (bor .i32 (shlI .i32 (IntKind.wrap .i32 (band .u8 (List.getD p 0 (0 : Int)) (7 : Int))) (18 : Int)) (shlI .i32 (IntKind.wrap .i32 (band .u8 (List.getD p 1 (0 : Int)) (63 : Int))) (12 : Int))) (shlI .i32 (IntKind.wrap .i32 (band .u8 (List.getD p 2 (0 : Int)) (63 : Int))) (6 : Int))) (IntKind.wrap .i32 (band .u8 (List.getD p 3 (0 : Int)) (63 : Int)))))), (.s (.int .i64 (4 : Int)))]), []))) else none)))) else none)))) else none)) else none) else none)) else none) else none) else none))
theorem e_utf8_decodeRuneSlow (p : List Int) (K : Ret → Option Ret) : evF E_utf8_decodeRuneSlow true F.utf8_decodeRuneSlow [.l .no bytesR p] K = T_utf8_decodeRuneSlow p K := by kernel_rfl
def S_utf8_decodeRuneSlow : Sm := S_fnR [.l bytesR] (fun d => fitB d.1) (fun d => (.t [.s (.int .i32 (decR d.1)), .s (.int .i64 (decN d.1))], []))
theorem v_utf8_decodeRuneSlow (p : List Int) (h : (fitB p) = true) (K : Ret → Option Ret) : T_utf8_decodeRuneSlow p K = K (.t [.s (.int .i32 (decR p)), .s (.int .i64 (decN p))], []) := by
  unfold T_utf8_decodeRuneSlow
  have hl := fitB_len h
  by_cases h0 : p.length = 0
  · rw [decide_eq_true (show ((p.length : Nat) : Int) < 1 by omega)]
    have e : p = [] := List.length_eq_zero_iff.1 h0
    subst e; rfl
  have b0 := fitB_get h 0
  have b1 := fitB_get h 1
  have b2 := fitB_get h 2
  have b3 := fitB_get h 3
  have hsh := first_sh b0.1 b0.2
  have hi := slow_hi b0.1 b0.2
  have hlen := first_len
  have hacc := accept_len
  have en : decN p = if runeSz p = 0 then 1 else ((runeSz p : Nat) : Int) := by unfold decN; rw [if_neg h0]
  have e0 : List.getD utfFirst (Int.toNat (List.getD p 0 (0 : Int))) (0 : Int) = fst8 (p.getD 0 0) := rfl
  have e1 : shrI .u8 (fst8 (p.getD 0 0)) (4 : Int) = fsh (p.getD 0 0) := rfl
  have e2 : IntKind.wrap .i64 (band .u8 (fst8 (p.getD 0 0)) (7 : Int)) = fsz (p.getD 0 0) := rfl
  have e3 : List.getD utfAccept (Int.toNat (fsh (p.getD 0 0))) (accR.dflt) = fac (p.getD 0 0) := rfl
  have e4 : shrI .i32 (shlI .i32 (IntKind.wrap .i32 (fst8 (p.getD 0 0))) 31) 31 = msk8 (p.getD 0 0) := rfl
  have c1 : Nat.blt (Int.toNat (List.getD p 0 (0 : Int))) (List.length utfFirst) = true := by rw [hlen, Nat.blt_eq]; omega
  have c2 : Nat.blt (Int.toNat (fsh (p.getD 0 0))) (List.length utfAccept) = true := by rw [hacc, Nat.blt_eq]; omega
  rw [e0, e1, e2, e3, e4, c1, c2, hi]
  have stop : runeSz p = 0 → K (.t [.s (.int .i32 65533), .s (.int .i64 1)], []) = K (.t [.s (.int .i32 (decR p)), .s (.int .i64 (decN p))], []) := fun h => by
    rw [en, if_pos h, show decR p = 65533 by unfold decR; rw [if_pos h]]
  have go : ∀ (n : Nat) (r : Int), runeSz p = n → 1 ≤ n → runeVal p = r → K (.t [.s (.int .i32 r), .s (.int .i64 ((n : Nat) : Int))], []) = K (.t [.s (.int .i32 (decR p)), .s (.int .i64 (decN p))], []) := fun n r h hn hr => by
    rw [en, if_neg (by omega), h, show decR p = r by unfold decR; rw [if_neg (by omega), hr]]
  by_cases r0 : p.getD 0 0 < 128
  · simp (disch := omega) only [decide_eq_true, decide_eq_false, Bool.true_or, Bool.true_and, cond_true, cond_false]
    rw [slow_ascii b0.1 r0]
    have es : runeSz p = 1 := runeSz_ascii (by omega) r0
    exact go 1 _ es (by omega) (runeVal1 es)
  by_cases r1 : p.getD 0 0 < 194 ∨ 245 ≤ p.getD 0 0
  · rw [show (decide (p.getD 0 0 < 194) || decide (245 ≤ p.getD 0 0)) = true by
      rcases r1 with c | c
      · rw [decide_eq_true c, Bool.true_or]
      · rw [decide_eq_true c, Bool.or_true], slow_bad (by omega) b0.2 r1]
    simp (disch := omega) only [decide_eq_true, decide_eq_false, Bool.true_and, cond_true, cond_false]
    refine stop ?_
    unfold runeSz
    repeat' split
    all_goals first | omega | rfl
  simp (disch := omega) only [decide_eq_true, decide_eq_false, Bool.or_self, Bool.true_and, cond_true, cond_false]
  by_cases r2 : p.getD 0 0 < 224
  · obtain ⟨f1, f2⟩ := first_2 (by omega) r2
    rw [f1, f2]
    have er : runeSz p = if 2 ≤ p.length ∧ 128 ≤ p.getD 1 0 ∧ p.getD 1 0 ≤ 191 then 2 else 0 := by
      unfold runeSz; rw [if_neg (by omega), if_neg (by omega), if_neg (by omega), if_pos r2]
    by_cases c : ((p.length : Nat) : Int) < 2
    · rw [decide_eq_true c]; exact stop (by rw [er, if_neg (by omega)])
    rw [decide_eq_false c, decide_eq_true (show (1 : Int) < ((p.length : Nat) : Int) by omega)]
    simp only [cond_true, cond_false]
    by_cases d1 : p.getD 1 0 < 128
    · rw [decide_eq_true d1]; exact stop (by rw [er, if_neg (by omega)])
    by_cases d2 : 191 < p.getD 1 0
    · rw [decide_eq_false d1, decide_eq_true d2]; exact stop (by rw [er, if_neg (by omega)])
    rw [decide_eq_false d1, decide_eq_false d2, decide_eq_true (show (2 : Int) ≤ 2 by omega)]
    simp only [cond_true, cond_false]
    have es : runeSz p = 2 := by rw [er, if_pos (by omega)]
    rw [bits2 (by omega) (by omega)]
    exact go 2 _ es (by omega) (runeVal2 es)
  by_cases r3 : p.getD 0 0 < 240
  · obtain ⟨f1, f2⟩ := first_3 (by omega) r3
    rw [f1, f2]
    have er : runeSz p = if 3 ≤ p.length ∧ lo3 (p.getD 0 0) ≤ p.getD 1 0 ∧ p.getD 1 0 ≤ hi3 (p.getD 0 0) ∧ 128 ≤ p.getD 2 0 ∧ p.getD 2 0 ≤ 191 then 3 else 0 := by
      unfold runeSz; rw [if_neg (by omega), if_neg (by omega), if_neg (by omega), if_neg (by omega), if_pos r3]
    have l3 : 128 ≤ lo3 (p.getD 0 0) := by unfold lo3; split <;> omega
    have u3 : hi3 (p.getD 0 0) ≤ 191 := by unfold hi3; split <;> omega
    by_cases c : ((p.length : Nat) : Int) < 3
    · rw [decide_eq_true c]; exact stop (by rw [er, if_neg (by omega)])
    rw [decide_eq_false c, decide_eq_true (show (1 : Int) < ((p.length : Nat) : Int) by omega), decide_eq_true (show (2 : Int) < ((p.length : Nat) : Int) by omega), decide_eq_false (show ¬ (3 : Int) ≤ 2 by omega), decide_eq_true (show (3 : Int) ≤ 3 by omega)]
    simp only [cond_true, cond_false]
    by_cases d1 : p.getD 1 0 < lo3 (p.getD 0 0)
    · rw [decide_eq_true d1]; exact stop (by rw [er, if_neg (by omega)])
    by_cases d2 : hi3 (p.getD 0 0) < p.getD 1 0
    · rw [decide_eq_false d1, decide_eq_true d2]; exact stop (by rw [er, if_neg (by omega)])
    by_cases d3 : p.getD 2 0 < 128
    · rw [decide_eq_false d1, decide_eq_false d2, decide_eq_true d3]; exact stop (by rw [er, if_neg (by omega)])
    by_cases d4 : 191 < p.getD 2 0
    · rw [decide_eq_false d1, decide_eq_false d2, decide_eq_false d3, decide_eq_true d4]; exact stop (by rw [er, if_neg (by omega)])
    rw [decide_eq_false d1, decide_eq_false d2, decide_eq_false d3, decide_eq_false d4]
    simp only [cond_true, cond_false]
    have es : runeSz p = 3 := by rw [er, if_pos (by omega)]
    rw [bits3 (by omega) (by omega) (by omega)]
    exact go 3 _ es (by omega) (runeVal3 es)
  · obtain ⟨f1, f2⟩ := first_4 (b := p.getD 0 0) (by omega) (by omega)
    rw [f1, f2]
    have er : runeSz p = if 4 ≤ p.length ∧ lo4 (p.getD 0 0) ≤ p.getD 1 0 ∧ p.getD 1 0 ≤ hi4 (p.getD 0 0) ∧ 128 ≤ p.getD 2 0 ∧ p.getD 2 0 ≤ 191 ∧ 128 ≤ p.getD 3 0 ∧ p.getD 3 0 ≤ 191 then 4 else 0 := by
      unfold runeSz; rw [if_neg (by omega), if_neg (by omega), if_neg (by omega), if_neg (by omega), if_neg r3, if_pos (by omega)]
    have l3 : 128 ≤ lo4 (p.getD 0 0) := by unfold lo4; split <;> omega
    have u3 : hi4 (p.getD 0 0) ≤ 191 := by unfold hi4; split <;> omega
    by_cases c : ((p.length : Nat) : Int) < 4
    · rw [decide_eq_true c]; exact stop (by rw [er, if_neg (by omega)])
    rw [decide_eq_false c, decide_eq_true (show (1 : Int) < ((p.length : Nat) : Int) by omega), decide_eq_true (show (2 : Int) < ((p.length : Nat) : Int) by omega), decide_eq_true (show (3 : Int) < ((p.length : Nat) : Int) by omega), decide_eq_false (show ¬ (4 : Int) ≤ 2 by omega), decide_eq_false (show ¬ (4 : Int) ≤ 3 by omega)]
    simp only [cond_true, cond_false]
    by_cases d1 : p.getD 1 0 < lo4 (p.getD 0 0)
    · rw [decide_eq_true d1]; exact stop (by rw [er, if_neg (by omega)])
    by_cases d2 : hi4 (p.getD 0 0) < p.getD 1 0
    · rw [decide_eq_false d1, decide_eq_true d2]; exact stop (by rw [er, if_neg (by omega)])
    by_cases d3 : p.getD 2 0 < 128
    · rw [decide_eq_false d1, decide_eq_false d2, decide_eq_true d3]; exact stop (by rw [er, if_neg (by omega)])
    by_cases d4 : 191 < p.getD 2 0
    · rw [decide_eq_false d1, decide_eq_false d2, decide_eq_false d3, decide_eq_true d4]; exact stop (by rw [er, if_neg (by omega)])
    by_cases d5 : p.getD 3 0 < 128
    · rw [decide_eq_false d1, decide_eq_false d2, decide_eq_false d3, decide_eq_false d4, decide_eq_true d5]; exact stop (by rw [er, if_neg (by omega)])
    by_cases d6 : 191 < p.getD 3 0
    · rw [decide_eq_false d1, decide_eq_false d2, decide_eq_false d3, decide_eq_false d4, decide_eq_false d5, decide_eq_true d6]; exact stop (by rw [er, if_neg (by omega)])
    rw [decide_eq_false d1, decide_eq_false d2, decide_eq_false d3, decide_eq_false d4, decide_eq_false d5, decide_eq_false d6]
    simp only [cond_true, cond_false]
    have es : runeSz p = 4 := by rw [er, if_pos (by omega)]
    rw [bits4 (by omega) (by omega) (by omega) (by omega)]
    exact go 4 _ es (by omega) (runeVal4 es)
theorem okS_utf8_decodeRuneSlow : OkFn prog I N.utf8_decodeRuneSlow true S_utf8_decodeRuneSlow := okN (ok_fn mem0 (l := []) (p := []) (ls := []) (lend := []) (focus := false) (fuel := 0) (give := []) (fn := F.utf8_decodeRuneSlow) (by kernel_rfl) (by kernel_rfl) (by kernel_rfl) (by kernel_rfl) (cs := []) (by kernel_rfl) loops0) (S_fnR_of fun d K h => (e_utf8_decodeRuneSlow d.1 K).trans (v_utf8_decodeRuneSlow d.1 h K))
end Go.Ev.Seat
end
section
/- utf8_DecodeRune: its contract. -/
namespace Go.Ev.Seat
open Go.RowKit
set_option maxRecDepth 100000
set_option linter.unusedVariables false
set_option linter.unusedSimpArgs false
def z_utf8_DecodeRune_2_0 (x0 : List Int) (x2 : Int) (x3 : Int) : St := { tm := ([(.l .no bytesR x0), .x, (.s (.int .i32 x2)), (.s (.int .i64 x3))] ++ List.replicate 18 .x), ob := [], nx := 0, io := [] }
def z_utf8_DecodeRune_2_1 (x0 : List Int) : St := { tm := ([(.l .no bytesR x0)] ++ List.replicate 21 .x), ob := [], nx := 0, io := [] }
def sh_utf8_DecodeRune_2_0 : Ss := { tm := (.cons (.l .no bytesR) (.cons (.x) (.cons (.x) (.cons (.x) (.cons (.x) (.cons (.x) (.cons (.l .no bytesR) (.cons (.int .i64) (.cons (.int .i64) (xsh 13)))))))))), ob := .nil, nx := 0, io := .nil }
def d_utf8_DecodeRune_2_0 (x0 : List Int) (x6 : List Int) (x7 : Int) (x8 : Int) : sh_utf8_DecodeRune_2_0.T := ((x0, ((), ((), ((), ((), ((), (x6, (x7, (x8, xd 13))))))))), (), ())
def s_utf8_DecodeRune_2_0 (x0 : List Int) (x6 : List Int) (x7 : Int) (x8 : Int) : St := { tm := ([(.l .no bytesR x0), .x, .x, .x, .x, .x, (.l .no bytesR x6), (.s (.int .i64 x7)), (.s (.int .i64 x8))] ++ List.replicate 13 .x), ob := [], nx := 0, io := [] }
theorem se_utf8_DecodeRune_2_0 (x0 : List Int) (x6 : List Int) (x7 : Int) (x8 : Int) : sh_utf8_DecodeRune_2_0.mk' (d_utf8_DecodeRune_2_0 x0 x6 x7 x8) = (s_utf8_DecodeRune_2_0 x0 x6 x7 x8) := by kernel_rfl
def w_utf8_DecodeRune_2_0 (d : sh_utf8_DecodeRune_2_0.T) (f : (List Int) → (List Int) → Int → Int → Option Ret) : Option Ret := match d with | ((x0, (_, (_, (_, (_, (_, (x6, (x7, (x8, _))))))))), _, _) => f x0 x6 x7 x8
noncomputable def P_utf8_DecodeRune_2_0 (x0 : List Int) (x6 : List Int) (x7 : Int) (x8 : Int) (nx0 : (List Int) → (List Int) → Int → Int → Option Ret) (k0 : (List Int) → Int → Int → Option Ret) (k1 : (List Int) → Option Ret) : Option Ret := (bif (decide (x8 < x7)) then (bif ((decide ((0 : Int) ≤ x8)) && (decide (x8 < (((List.length x6) : Nat) : Int)))) then (bif (decide ((List.getD x6 (Int.toNat x8) (0 : Int)) < (128 : Int))) then (k0 x0 (IntKind.wrap .i32 (List.getD x6 (Int.toNat x8) (0 : Int))) (1 : Int)) else (k1 x0)) else none) else (k1 x0))
noncomputable def Q_utf8_DecodeRune_2_0 : Nat → (List Int) → (List Int) → Int → Int → ((List Int) → Int → Int → Option Ret) → ((List Int) → Option Ret) → Option Ret
  | 0, _, _, _, _, _, _ => none
  | m + 1, x0, x6, x7, x8, k0, k1 => P_utf8_DecodeRune_2_0 x0 x6 x7 x8 (fun x0 x6 x7 x8 => (Q_utf8_DecodeRune_2_0 m x0 x6 x7 x8 k0 k1)) k0 k1
noncomputable def R_utf8_DecodeRune_2_0 (x0 : List Int) (x6 : List Int) (x7 : Int) (x8 : Int) (k0 : (List Int) → Int → Int → Option Ret) (k1 : (List Int) → Option Ret) : Option Ret := Q_utf8_DecodeRune_2_0 (List.length x0 + List.length x6 + x7.toNat + x8.toNat + 2) x0 x6 x7 x8 k0 k1
noncomputable def W_utf8_DecodeRune_2 : LoopFn := (fun (σ : St) (K : Ex → St → Option Ret) => (match sh_utf8_DecodeRune_2_0.un σ with | some d => w_utf8_DecodeRune_2_0 d (fun x0 x6 x7 x8 => R_utf8_DecodeRune_2_0 x0 x6 x7 x8 (fun x0 x2 x3 => (K .ret (z_utf8_DecodeRune_2_0 x0 x2 x3))) (fun x0 => (K (.ext 0) (z_utf8_DecodeRune_2_1 x0)))) | none => none))
noncomputable abbrev ls_utf8_DecodeRune : List (Nat × Bool × Sm) := [(N.utf8_decodeRuneSlow, true, S_utf8_decodeRuneSlow)]
noncomputable abbrev E_utf8_DecodeRune : Env := En ls_utf8_DecodeRune [] [(2, [0,6,7,8], [0,2,3], W_utf8_DecodeRune_2)] [] false 0 []
noncomputable abbrev U_utf8_DecodeRune_2 := rounds (run E_utf8_DecodeRune (bodyOf F.utf8_DecodeRune 2)) [0,6,7,8] [0,2,3]
theorem st_utf8_DecodeRune_2_0 (m : Nat) (x0 : List Int) (x6 : List Int) (x7 : Int) (x8 : Int) (K : Ex → St → Option Ret) : U_utf8_DecodeRune_2 (m + 1) (s_utf8_DecodeRune_2_0 x0 x6 x7 x8) K = P_utf8_DecodeRune_2_0 x0 x6 x7 x8 (fun x0 x6 x7 x8 => (U_utf8_DecodeRune_2 m (s_utf8_DecodeRune_2_0 x0 x6 x7 x8) K)) (fun x0 x2 x3 => (K .ret (z_utf8_DecodeRune_2_0 x0 x2 x3))) (fun x0 => (K (.ext 0) (z_utf8_DecodeRune_2_1 x0))) := by kernel_rfl
theorem q_utf8_DecodeRune_2 (K : Ex → St → Option Ret) : ∀ m : Nat, (∀ (x0 : List Int) (x6 : List Int) (x7 : Int) (x8 : Int), U_utf8_DecodeRune_2 m (s_utf8_DecodeRune_2_0 x0 x6 x7 x8) K = Q_utf8_DecodeRune_2_0 m x0 x6 x7 x8 (fun x0 x2 x3 => (K .ret (z_utf8_DecodeRune_2_0 x0 x2 x3))) (fun x0 => (K (.ext 0) (z_utf8_DecodeRune_2_1 x0))))
  | 0 => (fun _ _ _ _ => rfl)
  | m + 1 => (fun x0 x6 x7 x8 => (by rw [st_utf8_DecodeRune_2_0, show (fun x0 x6 x7 x8 => (U_utf8_DecodeRune_2 m (s_utf8_DecodeRune_2_0 x0 x6 x7 x8) K)) = (fun x0 x6 x7 x8 => (Q_utf8_DecodeRune_2_0 m x0 x6 x7 x8 (fun x0 x2 x3 => (K .ret (z_utf8_DecodeRune_2_0 x0 x2 x3))) (fun x0 => (K (.ext 0) (z_utf8_DecodeRune_2_1 x0))))) from funext fun x0 => funext fun x6 => funext fun x7 => funext fun x8 => (q_utf8_DecodeRune_2 K m) x0 x6 x7 x8]; rfl))
theorem loopK_utf8_DecodeRune_2 : LoopOk E_utf8_DecodeRune (bodyOf F.utf8_DecodeRune 2) := by
  refine loopW_ok (n := 2) (F := W_utf8_DecodeRune_2) (by kernel_rfl) rfl (li := [0,6,7,8]) (lo := [0,2,3]) rfl (fun σ K r hr => ?_)
  unfold W_utf8_DecodeRune_2 at hr
  split at hr
  · rename_i d hd
    rw [Ss.un_mk hd]
    exact ⟨_, ((congrArg (fun z => U_utf8_DecodeRune_2 _ z K) (se_utf8_DecodeRune_2_0 _ _ _ _)).trans ((q_utf8_DecodeRune_2 K _) _ _ _ _)).trans hr⟩
  · cases hr
noncomputable def T_utf8_DecodeRune (p : List Int) (K : Ret → Option Ret) : Option Ret := (R_utf8_DecodeRune_2_0 p p (((List.length p) : Nat) : Int) (0 : Int) (fun y0 y1 y2 => K ((.t [(.s (.int .i32 y1)), (.s (.int .i64 y2))]), [])) (fun y3 => (bif (fitB y3) then K ((.t [(.s (.int .i32 (decR y3))), (.s (.int .i64 (decN y3)))]), []) else none)))
theorem e_utf8_DecodeRune (p : List Int) (K : Ret → Option Ret) : evF E_utf8_DecodeRune true F.utf8_DecodeRune [.l .no bytesR p] K = T_utf8_DecodeRune p K := by kernel_rfl
def S_utf8_DecodeRune : Sm := S_fnR [.l bytesR] (fun d => fitB d.1) (fun d => (.t [.s (.int .i32 (decR d.1)), .s (.int .i64 (decN d.1))], []))
theorem v_utf8_DecodeRune (p : List Int) (h : (fitB p) = true) (K : Ret → Option Ret) : T_utf8_DecodeRune p K = K (.t [.s (.int .i32 (decR p)), .s (.int .i64 (decN p))], []) := by
  unfold T_utf8_DecodeRune R_utf8_DecodeRune_2_0
  have hl := fitB_len h
  have b0 := fitB_get h 0
  show P_utf8_DecodeRune_2_0 p p ((p.length : Nat) : Int) 0 _ _ _ = _
  unfold P_utf8_DecodeRune_2_0
  dsimp only
  rw [h]
  by_cases h0 : p.length = 0
  · rw [decide_eq_false (show ¬ (0 : Int) < ((p.length : Nat) : Int) by omega)]; rfl
  rw [decide_eq_true (show (0 : Int) < ((p.length : Nat) : Int) by omega)]
  by_cases c : p.getD 0 0 < 128
  · rw [show Int.toNat (0 : Int) = 0 from rfl, decide_eq_true c]
    have es : runeSz p = 1 := runeSz_ascii (by omega) c
    rw [wrap32 (by omega) (by omega), show decR p = p.getD 0 0 by unfold decR; rw [if_neg (by omega), runeVal1 es], show decN p = 1 by unfold decN; rw [if_neg h0, if_neg (by omega), es]; rfl]; rfl
  · rw [show Int.toNat (0 : Int) = 0 from rfl, decide_eq_false c]; rfl
theorem okS_utf8_DecodeRune : OkFn prog I N.utf8_DecodeRune true S_utf8_DecodeRune := okN (ok_fn (memc okS_utf8_decodeRuneSlow mem0) (l := ls_utf8_DecodeRune) (p := []) (ls := [(2, [0,6,7,8], [0,2,3], W_utf8_DecodeRune_2)]) (lend := []) (focus := false) (fuel := 0) (give := []) (fn := F.utf8_DecodeRune) (by kernel_rfl) (by kernel_rfl) (by kernel_rfl) (by kernel_rfl) (cs := [bodyOf F.utf8_DecodeRune 2]) (by kernel_rfl) (loopsc loopK_utf8_DecodeRune_2 loops0)) (S_fnR_of fun d K h => (e_utf8_DecodeRune d.1 K).trans (v_utf8_DecodeRune d.1 h K))
end Go.Ev.Seat
end
section
/- i_decode: its contract. -/
namespace Go.Ev.Seat
open Go.RowKit
set_option maxRecDepth 100000
set_option linter.unusedVariables false
set_option linter.unusedSimpArgs false
noncomputable abbrev ls_i_decode : List (Nat × Bool × Sm) := [(N.i_in, true, S_i_in), (N.utf8_DecodeRune, true, S_utf8_DecodeRune)]
noncomputable abbrev E_i_decode : Env := En ls_i_decode [] [] [] false 0 []
noncomputable def T_i_decode (d : List Int) (k : Int) (K : Ret → Option Ret) : Option Ret := (bif (!((decide ((0 : Int) ≤ k)) && (decide (k ≤ (IntKind.wrap .i64 ((((List.length d) : Nat) : Int) - (1 : Int))))))) then K ((.t [(.s (.int .i64 (-(1 : Int)))), (.s (.int .i64 (0 : Int)))]), []) else (bif ((decide ((0 : Int) ≤ k)) && (decide (k ≤ (((List.length d) : Nat) : Int)))) then (bif (fitB (List.drop (Int.toNat k) d)) then (bif ((decR (List.drop (Int.toNat k) d)) == (65533 : Int)) then (bif (decide ((decN (List.drop (Int.toNat k) d)) ≤ (1 : Int))) then K ((.t [(.s (.int .i64 (-(1 : Int)))), (.s (.int .i64 (0 : Int)))]), []) else K ((.t [(.s (.int .i64 (IntKind.wrap .i64 (decR (List.drop (Int.toNat k) d))))), (.s (.int .i64 (decN (List.drop (Int.toNat k) d))))]), [])) else K ((.t [(.s (.int .i64 (IntKind.wrap .i64 (decR (List.drop (Int.toNat k) d))))), (.s (.int .i64 (decN (List.drop (Int.toNat k) d))))]), [])) else none) else none))
theorem e_i_decode (d : List Int) (k : Int) (K : Ret → Option Ret) : evF E_i_decode true F.i_decode [.l .no bytesR d, .s (.int .i64 k)] K = T_i_decode d k K := by kernel_rfl
def S_i_decode : Sm := S_fnR [.l bytesR, .i] (fun d => fitB d.1) (fun d => (.t [sc (valAt d.1 d.2.1), sc (szAt d.1 d.2.1)], []))
theorem v_i_decode (d : List Int) (k : Int) (h : (fitB d) = true) (K : Ret → Option Ret) : T_i_decode d k K = K (.t [sc (valAt d k), sc (szAt d k)], []) := by
  unfold T_i_decode valAt szAt inD
  have hl := fitB_len h
  rw [wrap_in (n := ((d.length : Nat) : Int) - 1) (by omega) (by omega)]
  by_cases h0 : 0 ≤ k
  · by_cases h1 : k < ((d.length : Nat) : Int)
    · rw [decide_eq_true h0, decide_eq_true h1, decide_eq_true (show k ≤ ((d.length : Nat) : Int) - 1 by omega)]
      have hq := fitB_drop h k.toNat
      have hn : (d.drop k.toNat).length ≠ 0 := by rw [List.length_drop]; omega
      rw [decide_eq_true (show k ≤ ((d.length : Nat) : Int) by omega), hq]
      generalize d.drop k.toNat = q at hq hn
      have b0 := fitB_get hq 0
      by_cases e : runeSz q = 0
      · have e2 := runeSz0 e
        rw [Prod.mk.injEq] at e2
        rw [show decR q = 65533 by unfold decR; rw [if_pos e], show decN q = 1 by unfold decN; rw [if_neg hn, if_pos e]]
        simp only [Bool.and_self, Bool.not_true, cond_false, cond_true]
        rw [e2.1, e2.2]; rfl
      · have hr := runeVal_range hq e
        rw [show decR q = runeVal q by unfold decR; rw [if_neg e], show decN q = ((runeSz q : Nat) : Int) by unfold decN; rw [if_neg hn, if_neg e], wrap_in (by omega) (by omega)]
        by_cases c : runeVal q = 65533
        · have h1 : ¬ ((runeSz q : Nat) : Int) ≤ 1 := fun h1 => by
            have es : runeSz q = 1 := by omega
            rw [runeVal1 es] at c
            omega
          rw [decide_eq_false h1, Bool.and_self]
          cases (runeVal q == 65533) <;> rfl
        · rw [beq_eq_false_iff_ne.2 c]; rfl
    · rw [decide_eq_true h0, decide_eq_false h1, decide_eq_false (show ¬ k ≤ ((d.length : Nat) : Int) - 1 by omega)]; rfl
  · rw [decide_eq_false h0]; rfl
theorem okS_i_decode : OkFn prog I N.i_decode true S_i_decode := okN (ok_fn (memc okS_i_in (memc okS_utf8_DecodeRune mem0)) (l := ls_i_decode) (p := []) (ls := []) (lend := []) (focus := false) (fuel := 0) (give := []) (fn := F.i_decode) (by kernel_rfl) (by kernel_rfl) (by kernel_rfl) (by kernel_rfl) (cs := []) (by kernel_rfl) loops0) (S_fnR_of fun d K h => (e_i_decode d.1 d.2.1 K).trans (v_i_decode d.1 d.2.1 h K))
end Go.Ev.Seat
end
section
/- i_PlaceOf: its contract. -/
namespace Go.Ev.Seat
open Go.RowKit
set_option maxRecDepth 100000
set_option linter.unusedVariables false
set_option linter.unusedSimpArgs false
def z_i_PlaceOf_4_0 (x4 : Int) (x5 : Int) : St := { tm := ([.x, .x, .x, .x, (.s (.int .i64 x4)), (.s (.int .i64 x5))] ++ List.replicate 25 .x), ob := [], nx := 0, io := [] }
def z_i_PlaceOf_4_1 (x5 : Int) : St := { tm := ([.x, .x, .x, .x, .x, (.s (.int .i64 x5))] ++ List.replicate 25 .x), ob := [], nx := 0, io := [] }
def sh_i_PlaceOf_4_0 : Ss := { tm := (.cons (.l .no bytesR) (.cons (.int .i64) (.cons (.x) (.cons (.x) (.cons (.x) (.cons (.int .i64) (xsh 25))))))), ob := .nil, nx := 0, io := .nil }
def d_i_PlaceOf_4_0 (x0 : List Int) (x1 : Int) (x5 : Int) : sh_i_PlaceOf_4_0.T := ((x0, (x1, ((), ((), ((), (x5, xd 25)))))), (), ())
def s_i_PlaceOf_4_0 (x0 : List Int) (x1 : Int) (x5 : Int) : St := { tm := ([(.l .no bytesR x0), (.s (.int .i64 x1)), .x, .x, .x, (.s (.int .i64 x5))] ++ List.replicate 25 .x), ob := [], nx := 0, io := [] }
theorem se_i_PlaceOf_4_0 (x0 : List Int) (x1 : Int) (x5 : Int) : sh_i_PlaceOf_4_0.mk' (d_i_PlaceOf_4_0 x0 x1 x5) = (s_i_PlaceOf_4_0 x0 x1 x5) := by kernel_rfl
def w_i_PlaceOf_4_0 (d : sh_i_PlaceOf_4_0.T) (f : (List Int) → Int → Int → Option Ret) : Option Ret := match d with | ((x0, (x1, (_, (_, (_, (x5, _)))))), _, _) => f x0 x1 x5
noncomputable def P_i_PlaceOf_4_0 (x0 : List Int) (x1 : Int) (x5 : Int) (nx0 : (List Int) → Int → Int → Option Ret) (k0 : Int → Int → Option Ret) (k1 : Int → Option Ret) : Option Ret := (bif (decide (x1 > (0 : Int))) then (bif (fitB x0) then (bif ((szAt x0 x5) == (0 : Int)) then (k0 (-(1 : Int)) x5) else (nx0 x0 (IntKind.wrap .i64 (x1 - (1 : Int))) (IntKind.wrap .i64 (x5 + (szAt x0 x5))))) else none) else (k1 x5))
noncomputable def Q_i_PlaceOf_4_0 : Nat → (List Int) → Int → Int → (Int → Int → Option Ret) → (Int → Option Ret) → Option Ret
  | 0, _, _, _, _, _ => none
  | m + 1, x0, x1, x5, k0, k1 => P_i_PlaceOf_4_0 x0 x1 x5 (fun x0 x1 x5 => (Q_i_PlaceOf_4_0 m x0 x1 x5 k0 k1)) k0 k1
noncomputable def R_i_PlaceOf_4_0 (x0 : List Int) (x1 : Int) (x5 : Int) (k0 : Int → Int → Option Ret) (k1 : Int → Option Ret) : Option Ret := Q_i_PlaceOf_4_0 (List.length x0 + x1.toNat + x5.toNat + 2) x0 x1 x5 k0 k1
noncomputable def W_i_PlaceOf_4 : LoopFn := (fun (σ : St) (K : Ex → St → Option Ret) => (match sh_i_PlaceOf_4_0.un σ with | some d => w_i_PlaceOf_4_0 d (fun x0 x1 x5 => R_i_PlaceOf_4_0 x0 x1 x5 (fun x4 x5 => (K .ret (z_i_PlaceOf_4_0 x4 x5))) (fun x5 => (K (.ext 0) (z_i_PlaceOf_4_1 x5)))) | none => none))
noncomputable abbrev ls_i_PlaceOf : List (Nat × Bool × Sm) := [(N.i_isText, true, S_i_isText), (N.i_decode, true, S_i_decode)]
noncomputable abbrev E_i_PlaceOf : Env := En ls_i_PlaceOf [] [(4, [0,1,5], [4,5], W_i_PlaceOf_4)] [] false 0 []
noncomputable abbrev U_i_PlaceOf_4 := rounds (run E_i_PlaceOf (bodyOf F.i_PlaceOf 4)) [0,1,5] [4,5]
theorem st_i_PlaceOf_4_0 (m : Nat) (x0 : List Int) (x1 : Int) (x5 : Int) (K : Ex → St → Option Ret) : U_i_PlaceOf_4 (m + 1) (s_i_PlaceOf_4_0 x0 x1 x5) K = P_i_PlaceOf_4_0 x0 x1 x5 (fun x0 x1 x5 => (U_i_PlaceOf_4 m (s_i_PlaceOf_4_0 x0 x1 x5) K)) (fun x4 x5 => (K .ret (z_i_PlaceOf_4_0 x4 x5))) (fun x5 => (K (.ext 0) (z_i_PlaceOf_4_1 x5))) := by kernel_rfl
theorem q_i_PlaceOf_4 (K : Ex → St → Option Ret) : ∀ m : Nat, (∀ (x0 : List Int) (x1 : Int) (x5 : Int), U_i_PlaceOf_4 m (s_i_PlaceOf_4_0 x0 x1 x5) K = Q_i_PlaceOf_4_0 m x0 x1 x5 (fun x4 x5 => (K .ret (z_i_PlaceOf_4_0 x4 x5))) (fun x5 => (K (.ext 0) (z_i_PlaceOf_4_1 x5))))
  | 0 => (fun _ _ _ => rfl)
  | m + 1 => (fun x0 x1 x5 => (by rw [st_i_PlaceOf_4_0, show (fun x0 x1 x5 => (U_i_PlaceOf_4 m (s_i_PlaceOf_4_0 x0 x1 x5) K)) = (fun x0 x1 x5 => (Q_i_PlaceOf_4_0 m x0 x1 x5 (fun x4 x5 => (K .ret (z_i_PlaceOf_4_0 x4 x5))) (fun x5 => (K (.ext 0) (z_i_PlaceOf_4_1 x5))))) from funext fun x0 => funext fun x1 => funext fun x5 => (q_i_PlaceOf_4 K m) x0 x1 x5]; rfl))
theorem loopK_i_PlaceOf_4 : LoopOk E_i_PlaceOf (bodyOf F.i_PlaceOf 4) := by
  refine loopW_ok (n := 4) (F := W_i_PlaceOf_4) (by kernel_rfl) rfl (li := [0,1,5]) (lo := [4,5]) rfl (fun σ K r hr => ?_)
  unfold W_i_PlaceOf_4 at hr
  split at hr
  · rename_i d hd
    rw [Ss.un_mk hd]
    exact ⟨_, ((congrArg (fun z => U_i_PlaceOf_4 _ z K) (se_i_PlaceOf_4_0 _ _ _)).trans ((q_i_PlaceOf_4 K _) _ _ _)).trans hr⟩
  · cases hr
noncomputable def T_i_PlaceOf (d : List Int) (n : Int) (K : Ret → Option Ret) : Option Ret := (bif (fitB d) then (bif (!(textOk d)) then K ((.s (.int .i64 (-(1 : Int)))), []) else (bif (decide (n < (0 : Int))) then K ((.s (.int .i64 (-(1 : Int)))), []) else (R_i_PlaceOf_4_0 d n (0 : Int) (fun y0 y1 => K ((.s (.int .i64 y0)), [])) (fun y2 => K ((.s (.int .i64 y2)), []))))) else none)
theorem e_i_PlaceOf (d : List Int) (n : Int) (K : Ret → Option Ret) : evF E_i_PlaceOf true F.i_PlaceOf [.l .no bytesR d, .s (.int .i64 n)] K = T_i_PlaceOf d n K := by kernel_rfl
def S_i_PlaceOf : Sm := S_fnR [.l bytesR, .i] (fun d => fitB d.1 && decide (d.2.1 ≤ 9223372036854775807)) (fun d => (sc (placeOfD d.1 d.2.1), []))
theorem v_i_PlaceOf (d : List Int) (n : Int) (h : (fitB d && decide (n ≤ 9223372036854775807)) = true) (K : Ret → Option Ret) : T_i_PlaceOf d n K = K (sc (placeOfD d n), []) := by
  obtain ⟨hf, hn⟩ := (Bool.and_eq_true _ _).mp h
  simp only [decide_eq_true_eq] at hn
  have hl := fitB_len hf
  unfold T_i_PlaceOf placeOfD
  rw [hf]
  cases ht : textOk d with
  | false => rfl
  | true =>
    by_cases h0 : n < 0
    · rw [decide_eq_true h0]; rfl
    rw [decide_eq_false h0]
    obtain ⟨j, rfl⟩ : ∃ j : Nat, n = j := ⟨n.toNat, by omega⟩
    unfold R_i_PlaceOf_4_0
    have key : ∀ (m i a : Nat), i < m → i ≤ j → a ≤ d.length → Q_i_PlaceOf_4_0 m d ((i : Nat) : Int) ((a : Nat) : Int) (fun y0 y1 => K ((.s (.int .i64 y0)), [])) (fun y2 => K ((.s (.int .i64 y2)), [])) = K (sc (placeL (d.drop a) ((a : Nat) : Int) i), []) := by
      intro m
      induction m with
      | zero => intro i a hm; omega
      | succ m ih =>
        intro i a hm hi ha
        show P_i_PlaceOf_4_0 d ((i : Nat) : Int) ((a : Nat) : Int) _ _ _ = _
        unfold P_i_PlaceOf_4_0
        cases i with
        | zero => rw [placeL_zero]; rfl
        | succ i =>
          rw [decide_eq_true (show ((i + 1 : Nat) : Int) > 0 by omega), hf]
          have hs : szAt d ((a : Nat) : Int) = ((runeSz (d.drop a) : Nat) : Int) := by
            by_cases hlt : a < d.length
            · rw [szAt_in (by omega) (by omega), Int.toNat_natCast]
            · unfold szAt inD
              rw [decide_eq_false (show ¬ ((a : Nat) : Int) < ((d.length : Nat) : Int) by omega), Bool.and_false]
              have e : d.drop a = [] := List.drop_eq_nil_of_le (show d.length ≤ a by omega)
              rw [e]; rfl
          rw [hs]
          by_cases hz : runeSz (d.drop a) = 0
          · rw [placeL_stop hz, hz]; rfl
          · have hle := runeSz_le (d.drop a)
            rw [List.length_drop] at hle
            rw [placeL_step hz, beq_eq_false_iff_ne.2 (show ((runeSz (d.drop a) : Nat) : Int) ≠ 0 by omega), wrap_in (n := ((i + 1 : Nat) : Int) - 1) (by omega) (by omega), wrap_in (n := ((a : Nat) : Int) + ((runeSz (d.drop a) : Nat) : Int)) (by omega) (by omega), show ((i + 1 : Nat) : Int) - 1 = ((i : Nat) : Int) by omega, show ((a : Nat) : Int) + ((runeSz (d.drop a) : Nat) : Int) = ((a + runeSz (d.drop a) : Nat) : Int) by omega, List.drop_drop]
            exact ih i _ (by omega) (by omega) (by omega)
    exact key _ j 0 (by omega) (Nat.le_refl _) (Nat.zero_le _)
theorem okS_i_PlaceOf : OkFn prog I N.i_PlaceOf true S_i_PlaceOf := okN (ok_fn (memc okS_i_isText (memc okS_i_decode mem0)) (l := ls_i_PlaceOf) (p := []) (ls := [(4, [0,1,5], [4,5], W_i_PlaceOf_4)]) (lend := []) (focus := false) (fuel := 0) (give := []) (fn := F.i_PlaceOf) (by kernel_rfl) (by kernel_rfl) (by kernel_rfl) (by kernel_rfl) (cs := [bodyOf F.i_PlaceOf 4]) (by kernel_rfl) (loopsc loopK_i_PlaceOf_4 loops0)) (S_fnR_of fun d K h => (e_i_PlaceOf d.1 d.2.1 K).trans (v_i_PlaceOf d.1 d.2.1 h K))
end Go.Ev.Seat
end
section
/- l_FnPlaces: its contract. -/
namespace Go.Ev.Seat
open Go.RowKit
set_option maxRecDepth 100000
set_option linter.unusedVariables false
set_option linter.unusedSimpArgs false
noncomputable abbrev ls_l_FnPlaces : List (Nat × Bool × Sm) := [(N.l_big, true, S_l_big), (N.s_DrawRunesTo, false, (SB_s_DrawRunesTo B_s_DrawRunesTo)), (N.i_RunesTo, true, S_i_RunesTo), (N.s_RunesTo, true, S_s_RunesTo), (N.i_CutOk, true, S_i_CutOk), (N.s_TextOk, true, S_s_TextOk), (N.i_RuneCount, true, S_i_RuneCount), (N.i_PlaceOf, true, S_i_PlaceOf), (N.s_RuneSize, true, S_s_RuneSize)]
noncomputable abbrev E_l_FnPlaces : Env := En ls_l_FnPlaces [] [] [] false 0 []
noncomputable def T_l_FnPlaces (code : List Int) (K : Ret → Option Ret) : Option Ret := (bif (decide ((((List.length code) : Nat) : Int) > (1048576 : Int))) then K ((.s (.bool true)), []) else (B_s_DrawRunesTo code (fun y0 y1 => (bif (fitB y0) then (bif (fitB y0) then (bif ((runesToD y0 y1) != (idxOfD (cutsD y0) y1)) then K ((.s (.bool false)), []) else (bif (fitB y0) then (bif (!((cutOk y0 y1) == (decide ((runesToD y0 y1) ≥ (0 : Int))))) then K ((.s (.bool false)), []) else (bif (fitB y0) then (bif (!(textOk y0)) then (bif (fitB y0) then (bif ((bif (textOk y0) then (((cntR y0) : Nat) : Int) else (-(1 : Int))) == (-(1 : Int))) then K ((.s (.bool ((runesToD y0 y1) == (-(1 : Int))))), []) else K ((.s (.bool false)), [])) else none) else (bif (fitB y0) then (bif (fitB y0) then (bif ((bif (textOk y0) then (((cntR y0) : Nat) : Int) else (-(1 : Int))) != (runesToD y0 (((List.length y0) : Nat) : Int))) then K ((.s (.bool false)), []) else (bif (fitB y0) then (bif ((fitB y0) && (decide ((bif (textOk y0) then (((cntR y0) : Nat) : Int) else (-(1 : Int))) ≤ (9223372036854775807 : Int)))) then (bif ((placeOfD y0 (bif (textOk y0) then (((cntR y0) : Nat) : Int) else (-(1 : Int)))) != (((List.length y0) : Nat) : Int)) then K ((.s (.bool false)), []) else (bif (decide ((runesToD y0 y1) < (0 : Int))) then K ((.s (.bool true)), []) else (bif ((fitB y0) && (decide ((runesToD y0 y1) ≤ (9223372036854775807 : Int)))) then (bif ((placeOfD y0 (runesToD y0 y1)) == y1) then (bif (y1 == (((List.length y0) : Nat) : Int)) then K ((.s (.bool true)), []) else (bif ((fitB y0) && (decide ((IntKind.wrap .i64 ((runesToD y0 y1) + (1 : Int))) ≤ (9223372036854775807 : Int)))) then (bif (fitB y0) then K ((.s (.bool ((placeOfD y0 (IntKind.wrap .i64 ((runesToD y0 y1) + (1 : Int)))) == (IntKind.wrap .i64 (y1 + (szAt y0 y1)))))), []) else none) else none)) else K ((.s (.bool false)), [])) else none))) else none) else none)) else none) else none)) else none)) else none)) else none) else none))))
theorem e_l_FnPlaces (code : List Int) (K : Ret → Option Ret) : evF E_l_FnPlaces true F.l_FnPlaces [.l .no bytesR code] K = T_l_FnPlaces code K := by kernel_rfl
def S_l_FnPlaces : Sm := S_fnR [.l bytesR] (fun d => d.1.all isB) (fun d => (bl true, []))
theorem v_l_FnPlaces (code : List Int) (h : (code.all isB) = true) (K : Ret → Option Ret) : T_l_FnPlaces code K = K (bl true, []) := by
  unfold T_l_FnPlaces
  by_cases hc : ((code.length : Nat) : Int) > 1048576
  · rw [decide_eq_true hc]; rfl
  have hf : fitB code = true := by unfold fitB; rw [Bool.and_eq_true]; exact ⟨Nat.ble_eq_true_of_le (by omega), h⟩
  rw [decide_eq_false hc]
  obtain ⟨t, u, ⟨ht, htl⟩, hk⟩ := b_s_DrawRunesTo code hf
  rw [cond_false, hk]
  have hcut : cutOk t u = decide (runesToD t u ≥ 0) := by rw [runesTo_idx, idxOfD_any, cutsD_has]
  simp only [ht, cond_true, ← runesTo_idx, bne_self_eq_false, cond_false, hcut, beq_self_eq_true, Bool.not_true, Bool.true_and]
  cases hx : textOk t with
  | false =>
    have e : runesToD t u = -1 := by unfold runesToD; rw [hx]; rfl
    rw [e]; rfl
  | true =>
    have hv := (textOk_iff.1 hx).2
    have hlen := (textOk_iff.1 hx).1
    have hcl := cntR_le t
    have e1 : runesToD t ((t.length : Nat) : Int) = ((cntR t : Nat) : Int) := by
      unfold runesToD
      rw [hx, cut_len, Int.toNat_natCast, List.take_length]; rfl
    have pl : ∀ n : Nat, placeOfD t ((n : Nat) : Int) = placeL t 0 n := fun n => by
      unfold placeOfD
      rw [hx, decide_eq_false (show ¬ ((n : Nat) : Int) < 0 by omega), Int.toNat_natCast]; rfl
    have e2 : placeL t 0 (cntR t) = ((t.length : Nat) : Int) := by
      have := (place_back hv (cut_len t)).1
      rw [List.take_length] at this
      exact this
    simp only [Bool.not_true, cond_false, cond_true, e1, bne_self_eq_false, pl, e2]
    rw [decide_eq_true (show ((cntR t : Nat) : Int) ≤ 9223372036854775807 by omega), cond_true]
    cases hcu : isCutD t u with
    | false =>
      have e : runesToD t u = -1 := by unfold runesToD; rw [hx, hcu]; rfl
      rw [e]; rfl
    | true =>
      have hr := isCutD_range hcu
      obtain ⟨j, rfl⟩ : ∃ j : Nat, u = j := ⟨u.toNat, by omega⟩
      have e : runesToD t ((j : Nat) : Int) = ((cntR (t.take j) : Nat) : Int) := by unfold runesToD; rw [hx, hcu, Int.toNat_natCast]; rfl
      have hcj := cntR_le (t.take j)
      rw [List.length_take] at hcj
      obtain ⟨p1, p2⟩ := place_back hv hcu
      rw [e, decide_eq_false (show ¬ ((cntR (t.take j) : Nat) : Int) < 0 by omega), decide_eq_true (show ((cntR (t.take j) : Nat) : Int) ≤ 9223372036854775807 by omega), pl, p1, beq_self_eq_true, wrap_in (by omega) (by omega), decide_eq_true (show ((cntR (t.take j) : Nat) : Int) + 1 ≤ 9223372036854775807 by omega), show ((cntR (t.take j) : Nat) : Int) + 1 = ((cntR (t.take j) + 1 : Nat) : Int) by omega, pl]
      by_cases hlt : j < t.length
      · have hle := runeSz_le (t.drop j)
        rw [List.length_drop] at hle
        rw [p2 hlt, szAt_in (by omega) (by omega), Int.toNat_natCast, beq_eq_false_iff_ne.2 (show ((j : Nat) : Int) ≠ ((t.length : Nat) : Int) by omega), wrap_in (by omega) (by omega), beq_self_eq_true]; rfl
      · rw [beq_iff_eq.2 (show ((j : Nat) : Int) = ((t.length : Nat) : Int) by omega)]; rfl
theorem okS_l_FnPlaces : OkFn prog I N.l_FnPlaces true S_l_FnPlaces := okN (ok_fn (memc okS_l_big (memc okS_s_DrawRunesTo (memc okS_i_RunesTo (memc okS_s_RunesTo (memc okS_i_CutOk (memc okS_s_TextOk (memc okS_i_RuneCount (memc okS_i_PlaceOf (memc okS_s_RuneSize mem0))))))))) (l := ls_l_FnPlaces) (p := []) (ls := []) (lend := []) (focus := false) (fuel := 0) (give := []) (fn := F.l_FnPlaces) (by kernel_rfl) (by kernel_rfl) (by kernel_rfl) (by kernel_rfl) (cs := []) (by kernel_rfl) loops0) (S_fnR_of fun d K h => (e_l_FnPlaces d.1 K).trans (v_l_FnPlaces d.1 h K))
end Go.Ev.Seat
end
section
/- The law FnPlaces: it answers true. Printed by lawrand.py. -/
namespace Go.Ev.Seat
open Go.RowKit
set_option linter.unusedVariables false
theorem ok_Places (T : MText) : OkFn prog I N.l_FnPlaces true S_l_FnPlaces := okS_l_FnPlaces
theorem law_Places (T : MText) (code : List Int) (K : Ret → Option Ret) (hwf : (Cc.sl bytesR).wf code) : S_l_FnPlaces [.l .no bytesR code] K = K (bl true, []) := by
  have hb : code.all isB = true := List.all_eq_true.2 (fun x hx => fitR_of bytesR x (hwf.2 x hx) rfl)
  show (bif code.all isB then K (bl true, []) else none) = _
  rw [hb]; rfl
end Go.Ev.Seat
end
section
/- Kinds of types that come in, checked by reckoning. -/
set_option linter.unusedVariables false
namespace Go.Ev
open Go.RowKit
mutual
def ccN (P : Program) : Nat → Cc → TypeId → Bool
  | 0, _, _ => false
  | n + 1, c, t => match c, P.underlying t with
    | .int k, some (.int k') => decide (k' = k)
    | .bool, some .bool => true
    | .str, some .string => true
    | .sl r, some (.slice e) => Nat.beq (P.cellsOf e) r.n && (match layN P n r.list e with
      | some [] => true
      | _ => false)
    | _, _ => false
/-- The cells of a type, taken off a list: what is left. -/
def layN (P : Program) : Nat → List Cc → TypeId → Option (List Cc)
  | 0, _, _ => none
  | n + 1, cs, t => match cs with
    | [] => none
    | c :: rest => bif ccN P n c t then some rest else match P.underlying t with
      | some (.struct fs) => fsN P n (c :: rest) 0 fs.toList
      | _ => none
def fsN (P : Program) : Nat → List Cc → Nat → List Field → Option (List Cc)
  | 0, _, _, _ => none
  | n + 1, cs, i, fs => match fs with
    | [] => some cs
    | f :: rest => bif Nat.beq f.offset i then (match layN P n cs f.type with
      | some cs' => bif Nat.beq (P.cellsOf f.type + cs'.length) cs.length then fsN P n cs' (i + P.cellsOf f.type) rest else none
      | none => none) else none
end
theorem kinds_ok {P : Program} : ∀ (n : Nat), (∀ c t, ccN P n c t = true → CcOk P c t) ∧ (∀ cs t rest, layN P n cs t = some rest → ∃ pre, cs = pre ++ rest ∧ LayOk P pre t) ∧ ∀ cs i fs rest, fsN P n cs i fs = some rest → ∃ pre, cs = pre ++ rest ∧ LayFs P pre i fs
  | 0 => ⟨fun _ _ h => by simp [ccN] at h, fun _ _ _ h => by simp [layN] at h, fun _ _ _ _ h => by simp [fsN] at h⟩
  | n + 1 => by
    obtain ⟨h1, h2, h3⟩ := kinds_ok (P := P) n
    refine ⟨fun c t h => ?_, fun cs t rest h => ?_, fun cs i fs rest h => ?_⟩
    · simp only [ccN] at h
      split at h
      · rename_i k k' hu
        have := of_decide_eq_true h
        subst this
        exact .int hu
      · rename_i hu; exact .bool hu
      · rename_i hu; exact .str hu
      · rename_i r e hu
        simp only [Bool.and_eq_true] at h
        obtain ⟨g1, g2⟩ := h
        split at g2
        · rename_i hl
          obtain ⟨pre, e1, e2⟩ := h2 _ _ _ hl
          rw [List.append_nil] at e1
          exact .sl hu (Nat.eq_of_beq_eq_true g1) (e1 ▸ e2)
        · cases g2
      · cases h
    · simp only [layN] at h
      split at h
      · cases h
      · rename_i c rest'
        cases hc : ccN P n c t with
        | true =>
          rw [hc] at h
          cases h
          exact ⟨[c], rfl, .one (h1 _ _ hc)⟩
        | false =>
          rw [hc] at h
          simp only [cond_false] at h
          split at h
          · rename_i fs hu
            obtain ⟨pre, e1, e2⟩ := h3 _ _ _ _ h
            exact ⟨pre, e1, .st hu e2⟩
          · cases h
    · simp only [fsN] at h
      split at h
      · cases h
        exact ⟨[], rfl, .nil⟩
      · rename_i f rest'
        cases ho : Nat.beq f.offset i with
        | false => rw [ho] at h; cases h
        | true =>
          rw [ho] at h
          simp only [cond_true] at h
          split at h
          · rename_i cs' hl
            obtain ⟨pre, e1, e2⟩ := h2 _ _ _ hl
            cases hb : Nat.beq (P.cellsOf f.type + cs'.length) cs.length with
            | false => rw [hb] at h; cases h
            | true =>
              rw [hb] at h
              simp only [cond_true] at h
              have hlen := Nat.eq_of_beq_eq_true hb
              have hp : P.cellsOf f.type = pre.length := by rw [e1, List.length_append] at hlen; omega
              obtain ⟨pre2, e3, e4⟩ := h3 _ _ _ _ h
              rw [hp] at e4
              refine ⟨pre ++ pre2, by rw [e1, e3, List.append_assoc], .cons (Nat.eq_of_beq_eq_true ho) hp e2 e4⟩
          · cases h
def ccB (P : Program) (c : Cc) (t : TypeId) : Bool := ccN P 100 c t
theorem ccB_ok {P : Program} (c : Cc) {t : TypeId} (h : ccB P c t = true) : CcOk P c t := (kinds_ok 100).1 c t h
end Go.Ev
end
section
/- An argument of one cell. -/
set_option linter.unusedVariables false
namespace Go.Ev
theorem cells_one {P : Program} {W : World} {r : Reach} {base : Nat} {c : Cc} {t : TypeId} {v : Value} (h : CcOk P c t) (ok : Value.okWide P W r base t v) : v.cells.toList = [v] := by
  cases v with
  | agg cs =>
    exfalso
    unfold Value.okWide at ok
    cases h with
    | int h => rw [h] at ok; simp [Cell.okWide, Cell.ok, h] at ok
    | bool h => rw [h] at ok; simp [Cell.okWide, Cell.ok, h] at ok
    | str h => rw [h] at ok; simp [Cell.okWide, Cell.ok, h] at ok
    | sl h _ _ => rw [h] at ok; simp [Cell.okWide, Cell.ok, h] at ok
  | _ => rfl
end Go.Ev
end
section
/- What a row's list gives of the tables of unicode/utf8. -/
set_option linter.unusedVariables false
namespace Go.Ev
open Go
variable {H : Type} {enc : TypeId × Value → H} {P : Program} {w : World} {base : Nat} {sp : Nat → Bool} {held : Bool}

/-- An array's cells, element by element. -/
theorem trod_arr {fuel : Nat} {t e : TypeId} {n m : Nat} {cs : List Value} {ds : List (DataW H)} {p : List MemPlace}
    (ht : P.underlying t = some (.array n e)) (hce : P.cellsOf e = m) (hct : P.cellsOf t = n * m)
    (h : DataW.trod enc P w base sp held fuel t cs = some (.agg ds, p)) :
    cs.length = n * m ∧ ds.length = n ∧ ∀ (i : Nat) (d : DataW H), ds[i]? = some d → ∃ f q, DataW.trod enc P w base sp held f e ((cs.drop (i * m)).take m) = some (d, q) := by
  cases fuel with
  | zero => simp [DataW.trod] at h
  | succ fuel =>
    simp only [DataW.trod, ht, hce, hct] at h
    split at h
    · rename_i hl
      obtain ⟨xs, hm, hx⟩ := Option.map_eq_some_iff.1 h
      have hxs : xs.map (·.1) = ds := by
        have := congrArg Prod.fst hx
        simpa using this
      have hxl : xs.length = n := by simpa using Lib.mapM_length hm
      refine ⟨by simpa using hl, by rw [← hxs]; simp [hxl], fun i d hd => ?_⟩
      rw [← hxs] at hd
      rw [List.getElem?_map, Option.map_eq_some_iff] at hd
      obtain ⟨b, hb, rfl⟩ := hd
      have hi : i < n := by
        have := (List.getElem?_eq_some_iff.1 hb).1
        omega
      obtain ⟨b', hb', hf⟩ := Lib.mapM_at hm i i (by simp [hi])
      obtain rfl := Option.some.inj (hb.symm.trans hb')
      exact ⟨fuel, b.2, hf⟩
    · cases h
theorem trod_u8 {fuel : Nat} {t : TypeId} {k : IntKind} {cs : List Value} {z : Int} {p : List MemPlace} (ht : P.underlying t = some (.int k))
    (h : DataW.trod enc P w base sp held fuel t cs = some (.lit (.int k z), p)) : cs = [.int k z] := by
  cases fuel with
  | zero => simp [DataW.trod] at h
  | succ fuel =>
    obtain ⟨z', hc, h2, _⟩ := DataW.trod_int ht h
    cases h2
    exact hc
/-- A struct of two small cells. -/
theorem trod_two {fuel : Nat} {t : TypeId} {fs : Array Field} {f g : Field} {k : IntKind} {cs : List Value} {x y : Int} {p : List MemPlace}
    (ht : P.underlying t = some (.struct fs)) (hfs : fs.toList = [f, g]) (hc : P.cellsOf t = 2) (hf0 : f.offset = 0) (hg0 : g.offset = 1) (hf : P.underlying f.type = some (.int k)) (hg : P.underlying g.type = some (.int k))
    (hcf : P.cellsOf f.type = 1) (hcg : P.cellsOf g.type = 1)
    (h : DataW.trod enc P w base sp held fuel t cs = some (.agg [.lit (.int k x), .lit (.int k y)], p)) : cs = [.int k x, .int k y] := by
  cases fuel with
  | zero => simp [DataW.trod] at h
  | succ fuel =>
    simp only [DataW.trod, ht, hfs, hc, hf0, hg0, hcf, hcg] at h
    split at h
    · rename_i hl
      obtain ⟨xs, hm, hx⟩ := Option.map_eq_some_iff.1 h
      have hxs : xs.map (·.1) = [.lit (.int k x), .lit (.int k y)] := by
        have := congrArg Prod.fst hx
        simpa using this
      obtain ⟨b0, hb0, h0⟩ := Lib.mapM_at hm 0 f rfl
      obtain ⟨b1, hb1, h1⟩ := Lib.mapM_at hm 1 g rfl
      have e0 : b0.1 = .lit (.int k x) := by
        have := congrArg (·[0]?) hxs
        simpa [hb0] using this
      have e1 : b1.1 = .lit (.int k y) := by
        have := congrArg (·[1]?) hxs
        simpa [hb1] using this
      obtain ⟨d0, q0⟩ := b0
      obtain ⟨d1, q1⟩ := b1
      simp only at e0 e1
      subst e0 e1
      rw [hf0, hcf] at h0
      rw [hg0, hcg] at h1
      have a0 := trod_u8 hf h0
      have a1 := trod_u8 hg h1
      match cs, hl, a0, a1 with
      | [u, v], _, a0, a1 =>
        simp at a0 a1
        rw [a0, a1]
      | [], hl, _, _ => simp at hl
      | [_], hl, _, _ => simp at hl
      | _ :: _ :: _ :: _, hl, _, _ => simp at hl
    · cases h
theorem laid_at {laid : List (String × DataW Unit)} {W : World} {ps : List MemPlace} (h : DataW.LaidVars P W laid ps) {i : Nat} {name : String} {d : DataW Unit} (hi : laid[i]? = some (name, d)) {g : Nat} {t : TypeId}
    (hg : P.globalNamed name = some g) (hty : (P.globals[g]?).map (·.type) = some t) : ∃ cs fuel p, W.var? P name = some cs ∧ DataW.trod (fun _ => ()) P W 0 (fun _ => true) false fuel t cs.toList = some (d, p) := by
  induction laid generalizing ps i with
  | nil => simp at hi
  | cons x rest ih =>
    obtain ⟨n, d'⟩ := x
    obtain ⟨g', t', cs, fuel, p, q, hg', ht', hvar, hd, hr, _⟩ := h
    cases i with
    | zero =>
      simp only [List.getElem?_cons_zero, Option.some.injEq, Prod.mk.injEq] at hi
      obtain ⟨rfl, rfl⟩ := hi
      obtain rfl := Option.some.inj (hg.symm.trans hg')
      obtain rfl := Option.some.inj (hty.symm.trans ht')
      exact ⟨cs, fuel, p, hvar, hd⟩
    | succ i => exact ih hr (by simpa using hi)
theorem var_lt {W : World} {name : String} {g : Nat} {cs : Array Value} (hg : P.globalNamed name = some g) (h : W.var? P name = some cs) : g < W.heap.size := by
  unfold World.var? at h
  rw [hg] at h
  simp only [Option.bind_some] at h
  split at h
  · rename_i hh
    exact (Array.getElem?_eq_some_iff.1 hh).1
  · cases h
/-- THE TWO TABLES, off the list of a row. -/
theorem globI_utf {W : World} {d0 d1 : DataW Unit} (hm : laidMet P [("unicode/utf8.acceptRanges", d1), ("unicode/utf8.first", d0)] W)
    (hd0 : d0 = .agg (utfFirst.map fun z => .lit (.int .u8 z))) (hd1 : d1 = .agg (utfAccept.map fun z => .agg [.lit (.int .u8 z.1), .lit (.int .u8 z.2)]))
    {t0 t1 e0 e1 : TypeId} (hg0 : P.globalNamed "unicode/utf8.first" = some 0) (hg1 : P.globalNamed "unicode/utf8.acceptRanges" = some 1)
    (hy0 : (P.globals[0]?).map (·.type) = some t0) (hy1 : (P.globals[1]?).map (·.type) = some t1)
    (ht0 : P.underlying t0 = some (.array 256 e0)) (ht1 : P.underlying t1 = some (.array 16 e1)) (he0 : P.underlying e0 = some (.int .u8))
    {fs : Array Field} {f g : Field} (he1 : P.underlying e1 = some (.struct fs)) (hfs : fs.toList = [f, g]) (hf0 : f.offset = 0) (hgo : g.offset = 1) (hf : P.underlying f.type = some (.int .u8)) (hg : P.underlying g.type = some (.int .u8))
    (hcf : P.cellsOf f.type = 1) (hcg : P.cellsOf g.type = 1) (hc0 : P.cellsOf t0 = 256) (hc1 : P.cellsOf t1 = 32) (hce0 : P.cellsOf e0 = 1) (hce1 : P.cellsOf e1 = 2) : GlobI utfGlob W.heap.size W := by
  obtain ⟨ps, hL, _⟩ := hm
  obtain ⟨cs1, fu1, p1, hv1, hr1⟩ := laid_at hL (i := 0) rfl hg1 hy1
  obtain ⟨cs0, fu0, p0, hv0, hr0⟩ := laid_at hL (i := 1) rfl hg0 hy0
  subst hd0 hd1
  obtain ⟨l0, n0, r0⟩ := trod_arr (n := 256) (m := 1) ht0 hce0 hc0 hr0
  obtain ⟨l1, n1, r1⟩ := trod_arr (n := 16) (m := 2) ht1 hce1 hc1 hr1
  intro gg r xs hgg
  unfold utfGlob at hgg
  by_cases h0 : gg = 0
  · subst h0
    simp only [Nat.beq, cond_true, Option.some.injEq, Sigma.mk.injEq] at hgg
    obtain ⟨rfl, hxs⟩ := hgg
    cases hxs
    refine ⟨var_lt hg0 hv0, fun i d hd => ?_⟩
    obtain ⟨f', q, hq⟩ := r0 i _ (by rw [List.getElem?_map, hd]; rfl)
    have hcs := trod_u8 he0 hq
    refine ⟨[.int .u8 d], rfl, fun j v hj => ?_, fun C w => ⟨.int .u8 d, [], rfl, ⟨rfl, rfl⟩, rfl⟩⟩
    match j, hj with
    | 0, hj =>
      cases hj
      rw [World.var?_cell hg0 hv0]
      have := congrArg (·[0]?) hcs
      simpa [Rw.n, List.getElem?_take, List.getElem?_drop] using this
    | j + 1, hj => simp at hj
  · by_cases h1 : gg = 1
    · subst h1
      simp only [Nat.beq, cond_true, cond_false, Option.some.injEq, Sigma.mk.injEq] at hgg
      obtain ⟨rfl, hxs⟩ := hgg
      cases hxs
      refine ⟨var_lt hg1 hv1, fun i d hd => ?_⟩
      obtain ⟨f', q, hq⟩ := r1 i _ (by rw [List.getElem?_map, hd]; rfl)
      have hcs := trod_two he1 hfs hce1 hf0 hgo hf hg hcf hcg hq
      refine ⟨[.int .u8 d.1, .int .u8 d.2], rfl, fun j v hj => ?_, fun C w => ⟨.int .u8 d.1, [.int .u8 d.2], rfl, ⟨rfl, rfl⟩, ⟨.int .u8 d.2, [], rfl, ⟨rfl, rfl⟩, rfl⟩⟩⟩
      match j, hj with
      | 0, hj =>
        cases hj
        rw [World.var?_cell hg1 hv1]
        have := congrArg (·[0]?) hcs
        simpa [Rw.n, List.getElem?_take, List.getElem?_drop] using this
      | 1, hj =>
        cases hj
        rw [World.var?_cell hg1 hv1]
        have := congrArg (·[1]?) hcs
        simpa [Rw.n, List.getElem?_take, List.getElem?_drop] using this
      | j + 2, hj => simp at hj
    · exfalso
      match gg, h0, h1 with
      | 0, h0, _ => exact h0 rfl
      | 1, _, h1 => exact h1 rfl
      | n + 2, _, _ => simp [Nat.beq] at hgg
def u8B (P : Program) (t : TypeId) : Bool := match P.underlying t with
  | some (.int .u8) => P.cellsOf t == 1
  | _ => false
theorem u8B_ok {t : TypeId} (h : u8B P t = true) : P.underlying t = some (.int .u8) ∧ P.cellsOf t = 1 := by
  unfold u8B at h
  split at h
  · rename_i e; exact ⟨e, by simpa using h⟩
  · cases h
def twoB (P : Program) (t : TypeId) : Bool := match P.underlying t with
  | some (.struct fs) => match fs.toList with
    | [f, g] => f.offset == 0 && g.offset == 1 && u8B P f.type && u8B P g.type && P.cellsOf t == 2
    | _ => false
  | _ => false
/-- The two tables' types, looked at. -/
def tabB (P : Program) (t0 t1 e0 e1 : TypeId) : Bool :=
  P.globalNamed "unicode/utf8.first" == some 0 && P.globalNamed "unicode/utf8.acceptRanges" == some 1 && (P.globals[0]?).map (·.type) == some t0 && (P.globals[1]?).map (·.type) == some t1 &&
  P.cellsOf t0 == 256 && P.cellsOf t1 == 32 && u8B P e0 && twoB P e1
theorem globI_utfB {W : World} {d0 d1 : DataW Unit} (hm : laidMet P [("unicode/utf8.acceptRanges", d1), ("unicode/utf8.first", d0)] W)
    (hd0 : d0 = .agg (utfFirst.map fun z => .lit (.int .u8 z))) (hd1 : d1 = .agg (utfAccept.map fun z => .agg [.lit (.int .u8 z.1), .lit (.int .u8 z.2)]))
    (t0 t1 e0 e1 : TypeId) (hB : tabB P t0 t1 e0 e1 = true) (ht0 : P.underlying t0 = some (.array 256 e0)) (ht1 : P.underlying t1 = some (.array 16 e1)) : GlobI utfGlob W.heap.size W := by
  unfold tabB at hB
  simp only [Bool.and_eq_true, beq_iff_eq] at hB
  obtain ⟨⟨⟨⟨⟨⟨⟨a1, a2⟩, a3⟩, a4⟩, a5⟩, a6⟩, a7⟩, a8⟩ := hB
  unfold twoB at a8
  split at a8
  · rename_i fs hfs
    split at a8
    · rename_i f g hfg
      simp only [Bool.and_eq_true, beq_iff_eq] at a8
      obtain ⟨⟨⟨⟨b1, b2⟩, b3⟩, b4⟩, b5⟩ := a8
      obtain ⟨c1, c2⟩ := u8B_ok b3
      obtain ⟨c3, c4⟩ := u8B_ok b4
      obtain ⟨c5, c6⟩ := u8B_ok a7
      exact globI_utf hm hd0 hd1 a1 a2 a3 a4 ht0 ht1 c5 hfs hfg b1 b2 c1 c3 c2 c4 a5 a6 c6 b5
    · cases a8
  · cases a8
def lay (xs : List Value) : Obj → Obj
  | .cells _ t frozen => .cells xs.toArray t frozen
  | o => o
/-- What the tables' initialisers lay. -/
def layUtf (h : Array Obj) : Array Obj := (h.modify 0 (lay (utfFirst.map fun z => .int .u8 z))).modify 1 (lay (utfAccept.flatMap fun z => [.int .u8 z.1, .int .u8 z.2]))
end Go.Ev
end
