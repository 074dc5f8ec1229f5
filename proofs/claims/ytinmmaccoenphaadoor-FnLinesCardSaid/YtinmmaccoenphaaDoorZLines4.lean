/- Lines: parts PLine FsChunksOf FsRopeOf Fsl01CurbadText Fsl01CurbadChunks Fsl01Currope FsChunkOk FsChunksOk FsChunksText FsRopeText Fsl01Curraw Fsl01Curplace Fsl01CurcutOf FsDrawRopeLine Fiin Futf8wordbytes Futf8Valid FiisChunk FiareChunks FiisRope FichunksText FiRopetext Futf8RuneStart FiisCut FbytesCount FbytealgLastIndexByte FbytesLastIndexByte Futf8RuneCountInString, packed by squash.py. -/
import Derived.Shelf.Bytes.SlCountOne
import Derived.Shelf.Spec.RuneCount
import Derived.Test.YtinmmaccoenphaaDoorZLines0
import Derived.Test.YtinmmaccoenphaaDoorZLines1
import Derived.Test.YtinmmaccoenphaaDoorZLines2
import Derived.Test.YtinmmaccoenphaaDoorZLines3
set_option linter.unusedVariables false
set_option linter.unusedSimpArgs false
section
/- Lines and columns of a text. -/
set_option linter.unusedVariables false
namespace Go.Ev
open Go.RowKit
/-- One more than the last place ahead of k at which c stands; 0 if there is none. -/
def nlG (xs : List Int) (c : Int) : Nat → Nat
  | 0 => 0
  | k + 1 => bif xs.getD k 0 == c then k + 1 else nlG xs c k
theorem nlG_le (xs : List Int) (c : Int) : ∀ k, nlG xs c k ≤ k
  | 0 => Nat.le_refl _
  | k + 1 => by
    unfold nlG
    have := nlG_le xs c k
    cases xs.getD k 0 == c
    · rw [cond_false]; omega
    · rw [cond_true]; omega
theorem nlG_hit {xs : List Int} {c : Int} : ∀ {k : Nat}, nlG xs c k ≠ 0 → xs.getD (nlG xs c k - 1) 0 = c
  | 0, h => absurd rfl h
  | k + 1, h => by
    unfold nlG at h ⊢
    cases e : xs.getD k 0 == c with
    | true => rw [cond_true]; exact eq_of_beq e
    | false => rw [e, cond_false] at h; rw [cond_false]; exact nlG_hit h
theorem nlG_none {xs : List Int} {c : Int} : ∀ {k j : Nat}, nlG xs c k ≤ j → j < k → xs.getD j 0 ≠ c
  | 0, j, _, h => absurd h (Nat.not_lt_zero _)
  | k + 1, j, h1, h2 => by
    unfold nlG at h1
    cases e : xs.getD k 0 == c with
    | true => rw [e, cond_true] at h1; omega
    | false =>
      rw [e, cond_false] at h1
      by_cases hj : j = k
      · subst hj; exact ne_of_beq_false e
      · exact nlG_none h1 (by omega)
theorem nlG_same {xs : List Int} {c : Int} {k1 : Nat} : ∀ {k2 : Nat}, k1 ≤ k2 → (∀ j, k1 ≤ j → j < k2 → xs.getD j 0 ≠ c) → nlG xs c k2 = nlG xs c k1
  | 0, h, _ => by rw [show k1 = 0 by omega]
  | k2 + 1, h, hn => by
    by_cases e : k1 = k2 + 1
    · rw [e]
    · conv => lhs; unfold nlG
      rw [beq_eq_false_iff_ne.2 (hn k2 (by omega) (by omega)), cond_false]
      exact nlG_same (by omega) (fun j h1 h2 => hn j h1 (by omega))
theorem cntB_one {x : Int} (hx : 0 ≤ x ∧ x ≤ 255) : cntB [x] [10] = if x = 10 then 1 else 0 := by
  unfold cntB Lib.countByte Lib.bytesOf
  show List.count (10 : UInt8) [UInt8.ofNat x.toNat] = _
  by_cases h : x = 10
  · subst h; rfl
  · rw [if_neg h]
    have : UInt8.ofNat x.toNat ≠ 10 := fun e => h (u8_inj hx (b := 10) (by omega) e)
    simp [this]
/-- How many lines end ahead of a place. -/
def linesTo (t : List Int) (k : Nat) : Nat := cntB (t.take k) [10]
theorem linesTo_succ {t : List Int} (hf : fitB t = true) {k : Nat} (hk : k < t.length) : linesTo t (k + 1) = linesTo t k + if t.getD k 0 = 10 then 1 else 0 := by
  unfold linesTo
  rw [← take_one 0 hk, cntB_app, cntB_one (fitB_get hf k)]
theorem linesTo_mono {t : List Int} (hf : fitB t = true) {k1 : Nat} : ∀ {k2 : Nat}, k1 ≤ k2 → k2 ≤ t.length → linesTo t k1 ≤ linesTo t k2 ∧ (linesTo t k1 = linesTo t k2 → ∀ j, k1 ≤ j → j < k2 → t.getD j 0 ≠ 10)
  | 0, h, _ => by rw [show k1 = 0 by omega]; exact ⟨Nat.le_refl _, fun _ j _ h => absurd h (Nat.not_lt_zero _)⟩
  | k2 + 1, h, hl => by
    by_cases e : k1 = k2 + 1
    · rw [e]; exact ⟨Nat.le_refl _, fun _ j h1 h2 => by omega⟩
    · obtain ⟨i1, i2⟩ := linesTo_mono hf (k1 := k1) (k2 := k2) (by omega) (by omega)
      rw [linesTo_succ hf (by omega)]
      by_cases c : t.getD k2 0 = 10
      · rw [if_pos c]; exact ⟨by omega, fun h => by omega⟩
      · rw [if_neg c]
        refine ⟨by omega, fun h j h1 h2 => ?_⟩
        by_cases ej : j = k2
        · rw [ej]; exact c
        · exact i2 (by omega) j h1 (by omega)
/-- Where the line of a place begins. -/
def lineAt (t : List Int) (k : Nat) : Nat := nlG t 10 k
def lineD (t : List Int) (k : Nat) : Int × Int := (((linesTo t k : Nat) : Int), ((cntR ((t.take k).drop (lineAt t k)) : Nat) : Int))
theorem cut_of_ascii {t : List Int} {j : Nat} (hv : valid t = true) (hj : j < t.length) (ha : t.getD j 0 < 128) : isCutD t ((j : Nat) : Int) = true ∧ isCutD t ((j + 1 : Nat) : Int) = true := by
  have h1 : isCutD t ((j : Nat) : Int) = true := by
    unfold isCutD
    rw [Bool.or_eq_true]
    refine .inr ?_
    rw [decide_eq_true (show (0 : Int) ≤ ((j : Nat) : Int) by omega), decide_eq_true (show ((j : Nat) : Int) < ((t.length : Nat) : Int) by omega), Int.toNat_natCast]
    unfold contB
    rw [decide_eq_false (show ¬ 128 ≤ t.getD j 0 by omega)]; rfl
  refine ⟨h1, ?_⟩
  obtain ⟨_, v2⟩ := valid_cut _ t j (Nat.le_refl _) hv h1
  have e : runeSz (t.drop j) = 1 := runeSz_ascii (by rw [List.length_drop]; omega) (by rw [getD_drop]; exact ha)
  have := cut_rune v2 (by omega)
  rw [e] at this
  exact cut_add (by omega) this
theorem lineAt_cut {t : List Int} {k : Nat} (hv : valid t = true) (hk : k ≤ t.length) : isCutD t ((lineAt t k : Nat) : Int) = true := by
  unfold lineAt
  by_cases h : nlG t 10 k = 0
  · rw [h]; exact cut_zero hv
  · have h1 := nlG_hit h
    have h2 := nlG_le t 10 k
    have := (cut_of_ascii (j := nlG t 10 k - 1) hv (by omega) (by rw [h1]; omega)).2
    rwa [show nlG t 10 k - 1 + 1 = nlG t 10 k by omega] at this
/-- A cut of a text is a cut of its front. -/
theorem cut_front {t : List Int} {p k : Nat} (hpk : p ≤ k) (hk : k ≤ t.length) (hp : isCutD t ((p : Nat) : Int) = true) : isCutD (t.take k) ((p : Nat) : Int) = true := by
  unfold isCutD at hp ⊢
  rw [List.length_take, Int.toNat_natCast] at *
  rw [Bool.or_eq_true, beq_iff_eq, Bool.and_eq_true, Bool.and_eq_true, decide_eq_true_iff, decide_eq_true_iff] at hp ⊢
  by_cases e : p = k
  · left; omega
  · right
    rcases hp with hp | ⟨⟨h1, h2⟩, h3⟩
    · omega
    · exact ⟨⟨h1, by omega⟩, by rw [getD_take (by omega)]; exact h3⟩
theorem seg_valid {t : List Int} {p k : Nat} (hv : valid t = true) (hpk : p ≤ k) (hk : k ≤ t.length) (hp : isCutD t ((p : Nat) : Int) = true) (hkc : isCutD t ((k : Nat) : Int) = true) : valid ((t.take k).drop p) = true := by
  obtain ⟨v1, _⟩ := valid_cut _ t k (Nat.le_refl _) hv hkc
  exact (valid_cut _ (t.take k) p (Nat.le_refl _) v1 (cut_front hpk hk hp)).2
theorem cntR_pos {xs : List Int} (hv : valid xs = true) (hx : xs ≠ []) : 1 ≤ cntR xs := by
  rcases valid_cases hv with e | ⟨h, _⟩
  · exact absurd e hx
  · rw [cntR_step h]; omega
theorem lineD_lt {t : List Int} (hf : fitB t = true) (hv : valid t = true) {k1 k2 : Nat} (h12 : k1 < k2) (hk : k2 ≤ t.length) (hc1 : isCutD t ((k1 : Nat) : Int) = true) (hc2 : isCutD t ((k2 : Nat) : Int) = true) :
    (lineD t k1).1 < (lineD t k2).1 ∨ (lineD t k1).1 = (lineD t k2).1 ∧ (lineD t k1).2 < (lineD t k2).2 := by
  obtain ⟨i1, i2⟩ := linesTo_mono hf (k1 := k1) (k2 := k2) (by omega) hk
  unfold lineD
  dsimp only
  by_cases e : linesTo t k1 = linesTo t k2
  · right
    refine ⟨by rw [e], ?_⟩
    have hs := nlG_same (xs := t) (c := 10) (by omega) (i2 e)
    have hle := nlG_le t 10 k1
    unfold lineAt
    rw [hs]
    have hp : isCutD t ((nlG t 10 k1 : Nat) : Int) = true := lineAt_cut hv (k := k1) (by omega)
    have e2 : (t.take k2).drop (nlG t 10 k1) = (t.take k1).drop (nlG t 10 k1) ++ (t.take k2).drop k1 := by
      have a : t.take k2 = t.take k1 ++ (t.take k2).drop k1 := by
        have := (List.take_append_drop k1 (t.take k2)).symm
        rwa [List.take_take, Nat.min_eq_left (by omega)] at this
      conv => lhs; rw [a]
      rw [List.drop_append_of_le_length (by rw [List.length_take]; omega)]
    rw [e2, cntR_app _ _ _ (Nat.le_refl _) (seg_valid hv hle (by omega) hp hc1)]
    have h2 : (t.take k2).drop k1 ≠ [] := fun e => by
      have := congrArg List.length e
      rw [List.length_drop, List.length_take] at this
      simp at this; omega
    have := cntR_pos (seg_valid hv (by omega) hk hc1 hc2) h2
    omega
  · left; omega
/-- The first place with a property. -/
def placeF (P : Nat → Bool) : Nat → Nat → Int
  | 0, _ => -1
  | n + 1, k => bif P k then ((k : Nat) : Int) else placeF P n (k + 1)
theorem placeF_some {P : Nat → Bool} : ∀ {n k j : Nat}, k ≤ j → j < k + n → P j = true → ∃ i : Nat, placeF P n k = ((i : Nat) : Int) ∧ k ≤ i ∧ i ≤ j ∧ P i = true
  | 0, k, j, h1, h2, _ => by omega
  | n + 1, k, j, h1, h2, hj => by
    unfold placeF
    cases e : P k with
    | true => exact ⟨k, rfl, Nat.le_refl _, h1, e⟩
    | false =>
      have hne : j ≠ k := fun h => by rw [h, e] at hj; cases hj
      obtain ⟨i, a, b, c, d⟩ := placeF_some (P := P) (n := n) (k := k + 1) (j := j) (by omega) (by omega) hj
      exact ⟨i, a, by omega, c, d⟩
def placeP (t : List Int) (x y : Int) (k : Nat) : Bool := isCutD t ((k : Nat) : Int) && ((lineD t k).1 == x && (lineD t k).2 == y)
def ropePlaceD (t : List Int) (x y : Int) : Int := placeF (placeP t x y) (t.length + 1) 0
theorem ropeText_ok {r : List (List Int)} (h : chunksOkD r = true) : textOk (chunksTextD r) = true ∧ chunksTextD r = r.flatten := by
  obtain ⟨h1, h2⟩ := chunksOkD_iff.1 h
  have e : chunksTextD r = r.flatten := by unfold chunksTextD; rw [h]; rfl
  rw [← sumW_flat] at h2
  have hv : ∀ (l : List (List Int)), (∀ d ∈ l, chunkOkD d = true) → valid l.flatten = true := fun l => by
    induction l with
    | nil => intro _; exact valid_nil
    | cons d l ih =>
      intro hh
      rw [List.flatten_cons]
      have := hh d List.mem_cons_self
      unfold chunkOkD at this
      rw [Bool.and_eq_true] at this
      exact valid_append (textOk_iff.1 this.2).2 (ih fun x hx => hh x (List.mem_cons_of_mem _ hx))
  rw [e, textOk_iff]
  exact ⟨⟨h2, hv _ h1⟩, rfl⟩
theorem ropeText_fit {r : List (List Int)} (hf : ∀ d ∈ r, fitB d = true) : fitB (chunksTextD r) = true := by
  have hl := chunksTextD_len r
  unfold chunksTextD at hl ⊢
  cases h : chunksOkD r with
  | false => rfl
  | true =>
    rw [h, cond_true] at hl
    rw [cond_true]
    refine fitB_of (by omega) (fun x hx => ?_)
    obtain ⟨d, hd, hx⟩ := List.mem_flatten.1 hx
    exact fitB_mem (hf d hd) hx
theorem nlG_take (t : List Int) (c : Int) (k : Nat) : ∀ {j : Nat}, j ≤ k → nlG (t.take k) c j = nlG t c j
  | 0, _ => rfl
  | j + 1, h => by
    unfold nlG
    rw [getD_take (by omega), nlG_take t c k (by omega)]
/-- The line and the column of an offset of a rope. -/
def ropeLineD (r : List (List Int)) (k : Int) : Int × Int := bif chunksOkD r && isCutD (chunksTextD r) k then lineD (chunksTextD r) k.toNat else (-1, -1)
theorem cut_sub {xs : List Int} {p k : Nat} (h : isCutD xs ((p + k : Nat) : Int) = true) : isCutD (xs.drop p) ((k : Nat) : Int) = true := by
  unfold isCutD at h ⊢
  rw [List.length_drop, getD_drop, Int.toNat_natCast]
  rw [Int.toNat_natCast] at h
  rw [Bool.or_eq_true, beq_iff_eq, Bool.and_eq_true, Bool.and_eq_true, decide_eq_true_iff, decide_eq_true_iff] at h ⊢
  rcases h with h | ⟨⟨h1, h2⟩, h3⟩
  · by_cases e : k = xs.length - p
    · left; omega
    · left; omega
  · right; exact ⟨⟨by omega, by omega⟩, h3⟩
theorem greedy_ok {xs : List Int} {e : Nat} (hv : valid xs = true) (he : e ≤ 16) (hl : e ≤ xs.length) (hc : isCutD xs ((e : Nat) : Int) = true) (hs : e = xs.length ∨ 16 < e + runeSz (xs.drop e)) : lastCut xs (min 16 xs.length) = e := by
  have h1 := lastCut_max (xs := xs) (min 16 xs.length) e (by omega) hc
  have h2 := lastCut_le xs (min 16 xs.length)
  have h3 := lastCut_cut (cut_zero hv) (min 16 xs.length)
  generalize lastCut xs (min 16 xs.length) = c at *
  by_cases hce : c = e
  · exact hce
  · rcases hs with hs | hs
    · omega
    · rw [show c = e + (c - e) by omega] at h3
      obtain ⟨_, v2⟩ := valid_cut _ xs e (Nat.le_refl _) hv hc
      obtain ⟨_, h5, _⟩ := cut_step v2 (cut_sub h3) (by omega)
      omega
theorem bounds_le : ∀ (n : Nat) (xs : List Int) (k : Int), xs.length ≤ n → ∀ c ∈ bounds xs k, k ≤ c ∧ c ≤ k + (xs.length : Nat)
  | n, xs, k, hn, c, hc => by
    by_cases h : runeSz xs = 0
    · rw [bounds_stop h] at hc
      rw [List.mem_singleton.1 hc]; omega
    · have hle := runeSz_le xs
      cases n with
      | zero => omega
      | succ n =>
        rw [bounds_step h] at hc
        rcases List.mem_cons.1 hc with e | hc
        · rw [e]; omega
        · have := bounds_le n _ _ (by rw [List.length_drop]; omega) c hc
          rw [List.length_drop] at this
          omega
  termination_by n => n
theorem bounds_rng (t : List Int) (hl : t.length ≤ 400) (i : Nat) : -9223372036854775808 ≤ (cutsD t).getD i 0 ∧ (cutsD t).getD i 0 ≤ 9223372036854775807 := by
  by_cases hi : i < (cutsD t).length
  · rw [getD_lt 0 hi]
    have hm := List.getElem_mem hi
    generalize (cutsD t)[i] = c at hm
    unfold cutsD at hm
    cases ht : textOk t with
    | false => rw [ht] at hm; cases hm
    | true =>
      rw [ht] at hm
      have := bounds_le _ t 0 (Nat.le_refl _) c hm
      omega
  · rw [List.getD_eq_getElem?_getD, List.getElem?_eq_none (by omega)]
    exact ⟨by decide, by decide⟩
theorem chunksOf_fit {t : List Int} (hf : fitB t = true) : (∀ d ∈ (bif textOk t then chunksL t else []), fitB d = true) ∧ (bif textOk t then chunksL t else []).length ≤ 400 := by
  cases hx : textOk t with
  | false => exact ⟨fun _ h => (nomatch h), Nat.zero_le _⟩
  | true =>
    have hv := (textOk_iff.1 hx).2
    have hlen := (textOk_iff.1 hx).1
    obtain ⟨h1, h2, _, _⟩ := chunksL_ok _ t (Nat.le_refl _) hv
    rw [cond_true]
    refine ⟨fun d hd => fitB_of (by have := h2 d hd; omega) (fun x hx => fitB_mem hf ?_), ?_⟩
    · rw [← h1]
      exact List.mem_flatten.2 ⟨d, hd, hx⟩
    · have : ∀ (l : List (List Int)), (∀ d ∈ l, 1 ≤ d.length) → l.length ≤ l.flatten.length := fun l => by
        induction l with
        | nil => intro _; simp
        | cons d l ihl =>
          intro hh
          have a := ihl fun x hx => hh x (List.mem_cons_of_mem _ hx)
          have b := hh d List.mem_cons_self
          rw [List.flatten_cons, List.length_append, List.length_cons]; omega
      have := this _ (fun d hd => (h2 d hd).1)
      rw [h1] at this
      omega
theorem linesTo_same {t : List Int} (hf : fitB t = true) {k1 : Nat} : ∀ {k2 : Nat}, k1 ≤ k2 → k2 ≤ t.length → (∀ j, k1 ≤ j → j < k2 → t.getD j 0 ≠ 10) → linesTo t k2 = linesTo t k1
  | 0, h, _, _ => by rw [show k1 = 0 by omega]
  | k2 + 1, h, hl, hn => by
    by_cases e : k1 = k2 + 1
    · rw [e]
    · rw [linesTo_succ hf (by omega), if_neg (hn k2 (by omega) (by omega)), linesTo_same hf (k1 := k1) (k2 := k2) (by omega) (by omega) (fun j a b => hn j a (by omega))]; rfl
theorem lineAt_idem {t : List Int} {k : Nat} (h : k = 0 ∨ t.getD (k - 1) 0 = 10) : lineAt t k = k := by
  unfold lineAt
  cases k with
  | zero => rfl
  | succ k =>
    rcases h with h | h
    · omega
    · rw [show k + 1 - 1 = k by omega] at h
      unfold nlG
      rw [h]; rfl
theorem lineD_head {t : List Int} {k : Nat} (hk : k ≤ t.length) (h : k = 0 ∨ t.getD (k - 1) 0 = 10) : lineD t k = (((linesTo t k : Nat) : Int), 0) := by
  unfold lineD
  rw [lineAt_idem h, List.drop_eq_nil_of_le (by rw [List.length_take]; omega), cntR_nil]; rfl
theorem first_nl {t : List Int} (hf : fitB t = true) : ∀ (n j : Nat), j + n = t.length → linesTo t j ≠ linesTo t t.length → ∃ p, j ≤ p ∧ p < t.length ∧ t.getD p 0 = 10 ∧ ∀ q, j ≤ q → q < p → t.getD q 0 ≠ 10
  | 0, j, h, hne => absurd (by rw [show j = t.length by omega]) hne
  | n + 1, j, h, hne => by
    by_cases e : t.getD j 0 = 10
    · exact ⟨j, Nat.le_refl _, by omega, e, fun q a b => by omega⟩
    · have hs := linesTo_succ hf (k := j) (by omega)
      rw [if_neg e, Nat.add_zero] at hs
      obtain ⟨p, a, b, c, d⟩ := first_nl hf n (j + 1) (by omega) (by rw [hs]; exact hne)
      refine ⟨p, by omega, b, c, fun q x y => ?_⟩
      by_cases eq : q = j
      · rw [eq]; exact e
      · exact d q (by omega) y
theorem placeP_iff {t : List Int} {x y : Int} {k : Nat} : placeP t x y k = true ↔ isCutD t ((k : Nat) : Int) = true ∧ (lineD t k).1 = x ∧ (lineD t k).2 = y := by
  unfold placeP
  rw [Bool.and_eq_true, Bool.and_eq_true, beq_iff_eq, beq_iff_eq]
theorem place_self {t : List Int} (hf : fitB t = true) (hv : valid t = true) {j : Nat} (hj : j ≤ t.length) (hc : isCutD t ((j : Nat) : Int) = true) : ropePlaceD t (lineD t j).1 (lineD t j).2 = ((j : Nat) : Int) := by
  obtain ⟨i, a, b, c, d⟩ := placeF_some (P := placeP t (lineD t j).1 (lineD t j).2) (n := t.length + 1) (k := 0) (j := j) (Nat.zero_le _) (by omega) (placeP_iff.2 ⟨hc, rfl, rfl⟩)
  obtain ⟨d1, d2, d3⟩ := placeP_iff.1 d
  unfold ropePlaceD
  rw [a]
  by_cases e : i = j
  · rw [e]
  · rcases lineD_lt hf hv (show i < j by omega) hj d1 hc with h | ⟨_, h⟩ <;> omega
theorem place_up {t : List Int} (hf : fitB t = true) (hv : valid t = true) {j : Nat} (hj : j ≤ t.length) : ∃ i : Nat, ropePlaceD t (lineD t j).1 0 = ((i : Nat) : Int) ∧ i ≤ j := by
  have hle := nlG_le t 10 j
  have hh : nlG t 10 j = 0 ∨ t.getD (nlG t 10 j - 1) 0 = 10 := by
    by_cases h : nlG t 10 j = 0
    · exact .inl h
    · exact .inr (nlG_hit h)
  have e := lineD_head (t := t) (by omega) hh
  have hs := linesTo_same hf (k1 := nlG t 10 j) (k2 := j) hle hj (fun q a b => nlG_none a b)
  obtain ⟨i, a, b, c, d⟩ := placeF_some (P := placeP t (lineD t j).1 0) (n := t.length + 1) (k := 0) (j := nlG t 10 j) (Nat.zero_le _) (by omega) (placeP_iff.2 ⟨lineAt_cut hv hj, by rw [e]; show _ = (((linesTo t j : Nat) : Int)); rw [hs], by rw [e]⟩)
  exact ⟨i, a, by omega⟩
theorem place_next {t : List Int} (hf : fitB t = true) (hv : valid t = true) {j : Nat} (hj : j ≤ t.length) (hne : (lineD t j).1 ≠ (lineD t t.length).1) : ropePlaceD t ((lineD t j).1 + 1) 0 > ((j : Nat) : Int) := by
  obtain ⟨p, a, b, c, d⟩ := first_nl hf (t.length - j) j (by omega) (fun h => hne (by show (((linesTo t j : Nat) : Int)) = ((linesTo t t.length : Nat) : Int); rw [h]))
  have hs := linesTo_same hf (k1 := j) (k2 := p) a (by omega) d
  have hs2 := linesTo_succ hf b
  rw [if_pos c, hs] at hs2
  have e := lineD_head (t := t) (k := p + 1) (by omega) (.inr (by rw [show p + 1 - 1 = p by omega]; exact c))
  have hcut := (cut_of_ascii (j := p) hv b (by rw [c]; omega)).2
  obtain ⟨i, g1, g2, g3, g4⟩ := placeF_some (P := placeP t ((lineD t j).1 + 1) 0) (n := t.length + 1) (k := 0) (j := p + 1) (Nat.zero_le _) (by omega) (placeP_iff.2 ⟨hcut, by rw [e, hs2]; show (((linesTo t j + 1 : Nat)) : Int) = ((linesTo t j : Nat) : Int) + 1; omega, by rw [e]⟩)
  unfold ropePlaceD
  rw [g1]
  obtain ⟨_, g6, _⟩ := placeP_iff.1 g4
  have g6' : ((linesTo t i : Nat) : Int) = ((linesTo t j : Nat) : Int) + 1 := g6
  by_cases hij : i ≤ j
  · have := (linesTo_mono hf hij hj).1
    omega
  · omega
end Go.Ev
end
section
/- s_ChunksOf: its contract. -/
namespace Go.Ev.Seat
open Go.RowKit
set_option maxRecDepth 100000
set_option linter.unusedVariables false
set_option linter.unusedSimpArgs false
def z_s_ChunksOf_7_0 (x0 : List Int) (x4 : Int) (x5 : Int) (o0 : List T_Piece) : St := { tm := ([(.l .no bytesR x0), .x, .x, (.w 0), (.s (.int .i64 x4)), (.s (.int .i64 x5))] ++ List.replicate 40 .x), ob := [(0, (.arr true true pieceR o0))], nx := 1, io := [] }
def sh_s_ChunksOf_7_0 : Ss := { tm := (.cons (.l .no bytesR) (.cons (.x) (.cons (.x) (.cons (.w 0) (.cons (.int .i64) (.cons (.int .i64) (xsh 40))))))), ob := (.arr true true pieceR .nil), nx := 1, io := .nil }
def d_s_ChunksOf_7_0 (x0 : List Int) (x4 : Int) (x5 : Int) (o0 : List T_Piece) : sh_s_ChunksOf_7_0.T := ((x0, ((), ((), ((), (x4, (x5, xd 40)))))), (o0, ()), ())
def s_s_ChunksOf_7_0 (x0 : List Int) (x4 : Int) (x5 : Int) (o0 : List T_Piece) : St := { tm := ([(.l .no bytesR x0), .x, .x, (.w 0), (.s (.int .i64 x4)), (.s (.int .i64 x5))] ++ List.replicate 40 .x), ob := [(0, (.arr true true pieceR o0))], nx := 1, io := [] }
theorem se_s_ChunksOf_7_0 (x0 : List Int) (x4 : Int) (x5 : Int) (o0 : List T_Piece) : sh_s_ChunksOf_7_0.mk' (d_s_ChunksOf_7_0 x0 x4 x5 o0) = (s_s_ChunksOf_7_0 x0 x4 x5 o0) := by kernel_rfl
def w_s_ChunksOf_7_0 (d : sh_s_ChunksOf_7_0.T) (f : (List Int) → Int → Int → (List T_Piece) → Option Ret) : Option Ret := match d with | ((x0, (_, (_, (_, (x4, (x5, _)))))), (o0, _), _) => f x0 x4 x5 o0
noncomputable def P_s_ChunksOf_7_0 (x0 : List Int) (x4 : Int) (x5 : Int) (o0 : List T_Piece) (nx0 : (List Int) → Int → Int → (List T_Piece) → Option Ret) (k0 : (List Int) → Int → Int → (List T_Piece) → Option Ret) : Option Ret := (bif (decide (x5 < (((List.length x0) : Nat) : Int))) then (bif (fitB x0) then (bif (decide ((IntKind.wrap .i64 ((IntKind.wrap .i64 (x5 + (szAt x0 x5))) - x4)) ≤ (16 : Int))) then (bif (fitB x0) then (nx0 x0 x4 (IntKind.wrap .i64 (x5 + (szAt x0 x5))) o0) else none) else (k0 x0 x4 x5 o0)) else none) else (k0 x0 x4 x5 o0))
noncomputable def Q_s_ChunksOf_7_0 : Nat → (List Int) → Int → Int → (List T_Piece) → ((List Int) → Int → Int → (List T_Piece) → Option Ret) → Option Ret
  | 0, _, _, _, _, _ => none
  | m + 1, x0, x4, x5, o0, k0 => P_s_ChunksOf_7_0 x0 x4 x5 o0 (fun x0 x4 x5 o0 => (Q_s_ChunksOf_7_0 m x0 x4 x5 o0 k0)) k0
noncomputable def R_s_ChunksOf_7_0 (x0 : List Int) (x4 : Int) (x5 : Int) (o0 : List T_Piece) (k0 : (List Int) → Int → Int → (List T_Piece) → Option Ret) : Option Ret := Q_s_ChunksOf_7_0 (List.length x0 + x4.toNat + x5.toNat + List.length o0 + 2) x0 x4 x5 o0 k0
noncomputable def W_s_ChunksOf_7 : LoopFn := (fun (σ : St) (K : Ex → St → Option Ret) => (match sh_s_ChunksOf_7_0.un σ with | some d => w_s_ChunksOf_7_0 d (fun x0 x4 x5 o0 => R_s_ChunksOf_7_0 x0 x4 x5 o0 (fun x0 x4 x5 o0 => (K (.ext 2) (z_s_ChunksOf_7_0 x0 x4 x5 o0)))) | none => none))
def z_s_ChunksOf_5_0 (o0 : List T_Piece) : St := { tm := ([.x, .x, .x, (.w 0)] ++ List.replicate 42 .x), ob := [(0, (.arr true true pieceR o0))], nx := 1, io := [] }
def sh_s_ChunksOf_5_0 : Ss := { tm := (.cons (.l .no bytesR) (.cons (.x) (.cons (.x) (.cons (.w 0) (.cons (.int .i64) (xsh 41)))))), ob := (.arr true true pieceR .nil), nx := 1, io := .nil }
def d_s_ChunksOf_5_0 (x0 : List Int) (x4 : Int) (o0 : List T_Piece) : sh_s_ChunksOf_5_0.T := ((x0, ((), ((), ((), (x4, xd 41))))), (o0, ()), ())
def s_s_ChunksOf_5_0 (x0 : List Int) (x4 : Int) (o0 : List T_Piece) : St := { tm := ([(.l .no bytesR x0), .x, .x, (.w 0), (.s (.int .i64 x4))] ++ List.replicate 41 .x), ob := [(0, (.arr true true pieceR o0))], nx := 1, io := [] }
theorem se_s_ChunksOf_5_0 (x0 : List Int) (x4 : Int) (o0 : List T_Piece) : sh_s_ChunksOf_5_0.mk' (d_s_ChunksOf_5_0 x0 x4 o0) = (s_s_ChunksOf_5_0 x0 x4 o0) := by kernel_rfl
def w_s_ChunksOf_5_0 (d : sh_s_ChunksOf_5_0.T) (f : (List Int) → Int → (List T_Piece) → Option Ret) : Option Ret := match d with | ((x0, (_, (_, (_, (x4, _))))), (o0, _), _) => f x0 x4 o0
noncomputable def P_s_ChunksOf_5_0 (x0 : List Int) (x4 : Int) (o0 : List T_Piece) (nx0 : (List Int) → Int → (List T_Piece) → Option Ret) (k0 : (List T_Piece) → Option Ret) : Option Ret := (bif (decide (x4 < (((List.length x0) : Nat) : Int))) then (R_s_ChunksOf_7_0 x0 x4 x4 o0 (fun y0 y1 y2 y3 => (bif (((decide ((0 : Int) ≤ y1)) && (decide (y1 ≤ y2))) && (decide (y2 ≤ (((List.length y0) : Nat) : Int)))) then (bif (Nat.ble (((List.length ([] : List Int)) + (List.length (List.drop (Int.toNat y1) (List.take (Int.toNat y2) y0)))) * 1) 140737488355328) then (bif (Nat.ble (((List.length y3) + (List.length ((([] : List Int) ++ (List.drop (Int.toNat y1) (List.take (Int.toNat y2) y0))) :: []))) * 24) 140737488355328) then (nx0 y0 y2 (y3 ++ ((([] : List Int) ++ (List.drop (Int.toNat y1) (List.take (Int.toNat y2) y0))) :: []))) else none) else none) else none))) else (k0 o0))
noncomputable def Q_s_ChunksOf_5_0 : Nat → (List Int) → Int → (List T_Piece) → ((List T_Piece) → Option Ret) → Option Ret
  | 0, _, _, _, _ => none
  | m + 1, x0, x4, o0, k0 => P_s_ChunksOf_5_0 x0 x4 o0 (fun x0 x4 o0 => (Q_s_ChunksOf_5_0 m x0 x4 o0 k0)) k0
noncomputable def R_s_ChunksOf_5_0 (x0 : List Int) (x4 : Int) (o0 : List T_Piece) (k0 : (List T_Piece) → Option Ret) : Option Ret := Q_s_ChunksOf_5_0 (List.length x0 + x4.toNat + List.length o0 + 2) x0 x4 o0 k0
noncomputable def W_s_ChunksOf_5 : LoopFn := (fun (σ : St) (K : Ex → St → Option Ret) => (match sh_s_ChunksOf_5_0.un σ with | some d => w_s_ChunksOf_5_0 d (fun x0 x4 o0 => R_s_ChunksOf_5_0 x0 x4 o0 (fun o0 => (K (.ext 0) (z_s_ChunksOf_5_0 o0)))) | none => none))
noncomputable abbrev ls_s_ChunksOf : List (Nat × Bool × Sm) := [(N.s_TextOk, true, S_s_TextOk), (N.s_RuneSize, true, S_s_RuneSize)]
noncomputable abbrev E_s_ChunksOf : Env := En ls_s_ChunksOf [] [(7, [0,3,4,5], [0,2,3,4,5], W_s_ChunksOf_7), (5, [0,3,4], [2,3], W_s_ChunksOf_5)] [] false 0 []
noncomputable abbrev U_s_ChunksOf_7 := rounds (run E_s_ChunksOf (bodyOf F.s_ChunksOf 7)) [0,3,4,5] [0,2,3,4,5]
theorem st_s_ChunksOf_7_0 (m : Nat) (x0 : List Int) (x4 : Int) (x5 : Int) (o0 : List T_Piece) (K : Ex → St → Option Ret) : U_s_ChunksOf_7 (m + 1) (s_s_ChunksOf_7_0 x0 x4 x5 o0) K = P_s_ChunksOf_7_0 x0 x4 x5 o0 (fun x0 x4 x5 o0 => (U_s_ChunksOf_7 m (s_s_ChunksOf_7_0 x0 x4 x5 o0) K)) (fun x0 x4 x5 o0 => (K (.ext 2) (z_s_ChunksOf_7_0 x0 x4 x5 o0))) := by kernel_rfl
theorem q_s_ChunksOf_7 (K : Ex → St → Option Ret) : ∀ m : Nat, (∀ (x0 : List Int) (x4 : Int) (x5 : Int) (o0 : List T_Piece), U_s_ChunksOf_7 m (s_s_ChunksOf_7_0 x0 x4 x5 o0) K = Q_s_ChunksOf_7_0 m x0 x4 x5 o0 (fun x0 x4 x5 o0 => (K (.ext 2) (z_s_ChunksOf_7_0 x0 x4 x5 o0))))
  | 0 => (fun _ _ _ _ => rfl)
  | m + 1 => (fun x0 x4 x5 o0 => (by rw [st_s_ChunksOf_7_0, show (fun x0 x4 x5 o0 => (U_s_ChunksOf_7 m (s_s_ChunksOf_7_0 x0 x4 x5 o0) K)) = (fun x0 x4 x5 o0 => (Q_s_ChunksOf_7_0 m x0 x4 x5 o0 (fun x0 x4 x5 o0 => (K (.ext 2) (z_s_ChunksOf_7_0 x0 x4 x5 o0))))) from funext fun x0 => funext fun x4 => funext fun x5 => funext fun o0 => (q_s_ChunksOf_7 K m) x0 x4 x5 o0]; rfl))
theorem loopK_s_ChunksOf_7 : LoopOk E_s_ChunksOf (bodyOf F.s_ChunksOf 7) := by
  refine loopW_ok (n := 7) (F := W_s_ChunksOf_7) (by kernel_rfl) rfl (li := [0,3,4,5]) (lo := [0,2,3,4,5]) rfl (fun σ K r hr => ?_)
  unfold W_s_ChunksOf_7 at hr
  split at hr
  · rename_i d hd
    rw [Ss.un_mk hd]
    exact ⟨_, ((congrArg (fun z => U_s_ChunksOf_7 _ z K) (se_s_ChunksOf_7_0 _ _ _ _)).trans ((q_s_ChunksOf_7 K _) _ _ _ _)).trans hr⟩
  · cases hr
noncomputable abbrev U_s_ChunksOf_5 := rounds (run E_s_ChunksOf (bodyOf F.s_ChunksOf 5)) [0,3,4] [2,3]
theorem st_s_ChunksOf_5_0 (m : Nat) (x0 : List Int) (x4 : Int) (o0 : List T_Piece) (K : Ex → St → Option Ret) : U_s_ChunksOf_5 (m + 1) (s_s_ChunksOf_5_0 x0 x4 o0) K = P_s_ChunksOf_5_0 x0 x4 o0 (fun x0 x4 o0 => (U_s_ChunksOf_5 m (s_s_ChunksOf_5_0 x0 x4 o0) K)) (fun o0 => (K (.ext 0) (z_s_ChunksOf_5_0 o0))) := by kernel_rfl
theorem q_s_ChunksOf_5 (K : Ex → St → Option Ret) : ∀ m : Nat, (∀ (x0 : List Int) (x4 : Int) (o0 : List T_Piece), U_s_ChunksOf_5 m (s_s_ChunksOf_5_0 x0 x4 o0) K = Q_s_ChunksOf_5_0 m x0 x4 o0 (fun o0 => (K (.ext 0) (z_s_ChunksOf_5_0 o0))))
  | 0 => (fun _ _ _ => rfl)
  | m + 1 => (fun x0 x4 o0 => (by rw [st_s_ChunksOf_5_0, show (fun x0 x4 o0 => (U_s_ChunksOf_5 m (s_s_ChunksOf_5_0 x0 x4 o0) K)) = (fun x0 x4 o0 => (Q_s_ChunksOf_5_0 m x0 x4 o0 (fun o0 => (K (.ext 0) (z_s_ChunksOf_5_0 o0))))) from funext fun x0 => funext fun x4 => funext fun o0 => (q_s_ChunksOf_5 K m) x0 x4 o0]; rfl))
theorem loopK_s_ChunksOf_5 : LoopOk E_s_ChunksOf (bodyOf F.s_ChunksOf 5) := by
  refine loopW_ok (n := 5) (F := W_s_ChunksOf_5) (by kernel_rfl) rfl (li := [0,3,4]) (lo := [2,3]) rfl (fun σ K r hr => ?_)
  unfold W_s_ChunksOf_5 at hr
  split at hr
  · rename_i d hd
    rw [Ss.un_mk hd]
    exact ⟨_, ((congrArg (fun z => U_s_ChunksOf_5 _ z K) (se_s_ChunksOf_5_0 _ _ _)).trans ((q_s_ChunksOf_5 K _) _ _ _)).trans hr⟩
  · cases hr
noncomputable def T_s_ChunksOf (d : List Int) (K : Ret → Option Ret) : Option Ret := (bif (fitB d) then (bif (!(textOk d)) then K ((.l .deep pieceR []), []) else (R_s_ChunksOf_5_0 d (0 : Int) [] (fun y4 => K ((.l .deep pieceR y4), [])))) else none)
theorem e_s_ChunksOf (d : List Int) (K : Ret → Option Ret) : evF E_s_ChunksOf true F.s_ChunksOf [.l .no bytesR d] K = T_s_ChunksOf d K := by kernel_rfl
def S_s_ChunksOf : Sm := S_fnR [.l bytesR] (fun d => fitB d.1) (fun d => (.l .deep chunkR (bif textOk d.1 then chunksL d.1 else []), []))
theorem v_s_ChunksOf (d : List Int) (h : (fitB d) = true) (K : Ret → Option Ret) : T_s_ChunksOf d K = K (.l .deep chunkR (bif textOk d then chunksL d else []), []) := by
  have hl := fitB_len h
  unfold T_s_ChunksOf
  rw [h]
  cases ht : textOk d with
  | false => rfl
  | true =>
    have hv := (textOk_iff.1 ht).2
    have hlen := (textOk_iff.1 ht).1
    unfold R_s_ChunksOf_5_0
    have q7 : ∀ (a : Nat) (o : List T_Piece) (k0 : (List Int) → Int → Int → (List T_Piece) → Option Ret), a ≤ d.length → isCutD d ((a : Nat) : Int) = true → ∀ (m e : Nat), e ≤ 16 → a + e ≤ d.length → isCutD d ((a + e : Nat) : Int) = true → d.length - (a + e) < m →
        Q_s_ChunksOf_7_0 m d ((a : Nat) : Int) ((a + e : Nat) : Int) o k0 = k0 d ((a : Nat) : Int) ((a + lastCut (d.drop a) (min 16 (d.drop a).length) : Nat) : Int) o := by
      intro a o k0 ha hca m
      induction m with
      | zero => intro e _ _ _ hm; omega
      | succ m ih =>
        intro e he hl2 hc hm
        obtain ⟨_, va⟩ := valid_cut _ d a (Nat.le_refl _) hv hca
        obtain ⟨_, ve⟩ := valid_cut _ d (a + e) (Nat.le_refl _) hv hc
        have hg := greedy_ok (xs := d.drop a) (e := e) va he (by rw [List.length_drop]; omega) (cut_sub hc)
        rw [List.drop_drop, List.length_drop] at hg
        show P_s_ChunksOf_7_0 d ((a : Nat) : Int) ((a + e : Nat) : Int) o _ k0 = _
        unfold P_s_ChunksOf_7_0
        by_cases hlt : a + e < d.length
        · have hz : runeSz (d.drop (a + e)) ≠ 0 := by
            rcases valid_cases ve with x | ⟨x, _⟩
            · have := congrArg List.length x
              rw [List.length_drop] at this
              simp at this; omega
            · exact x
          have hr4 := runeSz_le4 (d.drop (a + e))
          have hrl := runeSz_le (d.drop (a + e))
          rw [List.length_drop] at hrl
          rw [decide_eq_true (show ((a + e : Nat) : Int) < ((d.length : Nat) : Int) by omega), h, szAt_in (by omega) (by omega), Int.toNat_natCast, wrap_in (n := ((a + e : Nat) : Int) + ((runeSz (d.drop (a + e)) : Nat) : Int)) (by omega) (by omega), wrap_in (by omega) (by omega)]
          by_cases hq : e + runeSz (d.drop (a + e)) ≤ 16
          · rw [decide_eq_true (show ((a + e : Nat) : Int) + ((runeSz (d.drop (a + e)) : Nat) : Int) - ((a : Nat) : Int) ≤ 16 by omega), show ((a + e : Nat) : Int) + ((runeSz (d.drop (a + e)) : Nat) : Int) = ((a + (e + runeSz (d.drop (a + e))) : Nat) : Int) by omega]
            refine ih _ hq (by omega) ?_ (by omega)
            have := cut_add (by omega) (cut_rune ve hz)
            rwa [Nat.add_assoc] at this
          · rw [decide_eq_false (show ¬ ((a + e : Nat) : Int) + ((runeSz (d.drop (a + e)) : Nat) : Int) - ((a : Nat) : Int) ≤ 16 by omega), List.length_drop, hg (.inr (by omega))]; rfl
        · rw [decide_eq_false (show ¬ ((a + e : Nat) : Int) < ((d.length : Nat) : Int) by omega), List.length_drop, hg (.inl (by omega))]; rfl
    have q5 : ∀ (m a : Nat) (o : List T_Piece), a ≤ d.length → isCutD d ((a : Nat) : Int) = true → o.length ≤ a → d.length - a < m → Q_s_ChunksOf_5_0 m d ((a : Nat) : Int) o (fun y4 => K ((.l .deep pieceR y4), [])) = K (.l .deep pieceR (o ++ chunksL (d.drop a)), []) := by
      intro m
      induction m with
      | zero => intro a o _ _ _ hm; omega
      | succ m ih =>
        intro a o ha hca ho hm
        obtain ⟨_, va⟩ := valid_cut _ d a (Nat.le_refl _) hv hca
        show P_s_ChunksOf_5_0 d ((a : Nat) : Int) o _ _ = _
        unfold P_s_ChunksOf_5_0
        by_cases hlt : a < d.length
        · have hne : d.drop a ≠ [] := fun e => by
            have := congrArg List.length e
            rw [List.length_drop] at this
            simp at this; omega
          rw [decide_eq_true (show ((a : Nat) : Int) < ((d.length : Nat) : Int) by omega), cond_true, chunksL_step va hne]
          unfold R_s_ChunksOf_7_0
          have q70 := q7 a o
          have e0 : ∀ k0 (m : Nat), d.length < m → Q_s_ChunksOf_7_0 m d ((a : Nat) : Int) ((a : Nat) : Int) o k0 = k0 d ((a : Nat) : Int) ((a + lastCut (d.drop a) (min 16 (d.drop a).length) : Nat) : Int) o := fun k0 m hm => q7 a o k0 ha hca m 0 (by omega) (by omega) hca (by omega)
          rw [e0 _ _ (by omega)]
          have hp := chunk_pos va hne
          have hle := lastCut_le (d.drop a) (min 16 (d.drop a).length)
          have hcc := lastCut_cut (cut_zero va) (min 16 (d.drop a).length)
          have hdl : (d.drop a).length = d.length - a := List.length_drop
          generalize lastCut (d.drop a) (min 16 (d.drop a).length) = c at *
          have hcut := cut_add ha hcc
          rw [decide_eq_true (show (0 : Int) ≤ ((a : Nat) : Int) by omega), decide_eq_true (show ((a : Nat) : Int) ≤ ((a + c : Nat) : Int) by omega), decide_eq_true (show ((a + c : Nat) : Int) ≤ ((d.length : Nat) : Int) by omega), Int.toNat_natCast, Int.toNat_natCast, show List.drop a (List.take (a + c) d) = (d.drop a).take c by rw [List.drop_take, Nat.add_sub_cancel_left], List.nil_append, Nat.ble_eq_true_of_le (by rw [List.length_nil, List.length_take]; omega), Nat.ble_eq_true_of_le (by simp only [List.length_cons, List.length_nil]; omega)]
          refine (ih (a + c) (o ++ [(d.drop a).take c]) (by omega) hcut (by rw [List.length_append]; simp only [List.length_cons, List.length_nil]; omega) (by omega)).trans ?_
          rw [List.append_assoc, List.drop_drop]; rfl
        · rw [decide_eq_false (show ¬ ((a : Nat) : Int) < ((d.length : Nat) : Int) by omega), List.drop_eq_nil_of_le (by omega), chunksL_nil, List.append_nil]; rfl
    refine Eq.trans (q5 _ 0 [] (Nat.zero_le _) (cut_zero hv) (Nat.le_refl _) ?_) ?_
    · omega
    · rw [List.drop_zero]; rfl
theorem okS_s_ChunksOf : OkFn prog I N.s_ChunksOf true S_s_ChunksOf := okN (ok_fn (memc okS_s_TextOk (memc okS_s_RuneSize mem0)) (l := ls_s_ChunksOf) (p := []) (ls := [(7, [0,3,4,5], [0,2,3,4,5], W_s_ChunksOf_7), (5, [0,3,4], [2,3], W_s_ChunksOf_5)]) (lend := []) (focus := false) (fuel := 0) (give := []) (fn := F.s_ChunksOf) (by kernel_rfl) (by kernel_rfl) (by kernel_rfl) (by kernel_rfl) (cs := [bodyOf F.s_ChunksOf 5, bodyOf F.s_ChunksOf 7]) (by kernel_rfl) (loopsc loopK_s_ChunksOf_5 (loopsc loopK_s_ChunksOf_7 loops0))) (S_fnR_of fun d K h => (e_s_ChunksOf d.1 K).trans (v_s_ChunksOf d.1 h K))
end Go.Ev.Seat
end
section
/- s_RopeOf: its contract. -/
namespace Go.Ev.Seat
open Go.RowKit
set_option maxRecDepth 100000
set_option linter.unusedVariables false
set_option linter.unusedSimpArgs false
noncomputable abbrev ls_s_RopeOf : List (Nat × Bool × Sm) := [(N.s_TextOk, true, S_s_TextOk), (N.s_ChunksOf, true, S_s_ChunksOf)]
noncomputable abbrev E_s_RopeOf : Env := En ls_s_RopeOf [] [] [] false 0 []
noncomputable def T_s_RopeOf (d : List Int) (K : Ret → Option Ret) : Option Ret := (bif (fitB d) then (bif (!(textOk d)) then K ((.t [(.a [(.l .deep pieceR [])]), (.s (.bool false))]), []) else (bif (fitB d) then K ((.t [(.a [(.l .deep pieceR (bif (textOk d) then (chunksL d) else []))]), (.s (.bool true))]), []) else none)) else none)
theorem e_s_RopeOf (d : List Int) (K : Ret → Option Ret) : evF E_s_RopeOf true F.s_RopeOf [.l .no bytesR d] K = T_s_RopeOf d K := by kernel_rfl
def S_s_RopeOf : Sm := S_fnR [.l bytesR] (fun d => fitB d.1) (fun d => (.t [.a (ropeR.cells .deep (bif textOk d.1 then chunksL d.1 else [])), bl (textOk d.1)], []))
theorem v_s_RopeOf (d : List Int) (h : (fitB d) = true) (K : Ret → Option Ret) : T_s_RopeOf d K = K (.t [.a (ropeR.cells .deep (bif textOk d then chunksL d else [])), bl (textOk d)], []) := by
  unfold T_s_RopeOf
  rw [h]
  cases textOk d <;> rfl
theorem okS_s_RopeOf : OkFn prog I N.s_RopeOf true S_s_RopeOf := okN (ok_fn (memc okS_s_TextOk (memc okS_s_ChunksOf mem0)) (l := ls_s_RopeOf) (p := []) (ls := []) (lend := []) (focus := false) (fuel := 0) (give := []) (fn := F.s_RopeOf) (by kernel_rfl) (by kernel_rfl) (by kernel_rfl) (by kernel_rfl) (cs := []) (by kernel_rfl) loops0) (S_fnR_of fun d K h => (e_s_RopeOf d.1 K).trans (v_s_RopeOf d.1 h K))
end Go.Ev.Seat
end
section
/- s_l01Cur_badText: its contract. -/
namespace Go.Ev.Seat
open Go.RowKit
set_option maxRecDepth 100000
set_option linter.unusedVariables false
set_option linter.unusedSimpArgs false
noncomputable abbrev ls_s_l01Cur_badText : List (Nat × Bool × Sm) := [(N.s_l01Cur_text, false, (SB_s_l01Cur_text B_s_l01Cur_text)), (N.s_l01Cur_pick, false, (SB_s_l01Cur_pick B_s_l01Cur_pick)), (N.s_l01Cur_once, false, (SB_s_l01Cur_once B_s_l01Cur_once))]
noncomputable abbrev E_s_l01Cur_badText : Env := En ls_s_l01Cur_badText [] [] [] false 0 []
noncomputable def T_s_l01Cur_badText (cc : List Int) (ca : Int) (cs : Int) (n : Int) (K : Ret → Option Ret) : Option Ret := (B_s_l01Cur_text cc ca cs n (fun y0 y1 y2 => (B_s_l01Cur_pick cc y1 y2 (9 : Int) (fun y3 y4 y5 => (bif (y3 == (0 : Int)) then (bif (decide ((((List.length y0) : Nat) : Int) > (0 : Int))) then (B_s_l01Cur_pick cc y4 y5 (if (((List.length y0) : Nat) : Int) < (256 : Int) then (((List.length y0) : Nat) : Int) else (256 : Int)) (fun y6 y7 y8 => (B_s_l01Cur_pick cc y7 y8 (256 : Int) (fun y9 y10 y11 => (B_s_l01Cur_pick cc y10 y11 (10 : Int) (fun y12 y13 y14 => (bif ((decide ((0 : Int) ≤ y12)) && (decide (y12 < (((List.length ((128 : Int) :: ((192 : Int) :: ((193 : Int) :: ((224 : Int) :: ((237 : Int) :: ((240 : Int) :: ((244 : Int) :: ((245 : Int) :: ((255 : Int) :: (y9 :: ([] : List Int)))))))))))) : Nat) : Int)))) then (bif ((decide ((0 : Int) ≤ y6)) && (decide (y6 < (((List.length y0) : Nat) : Int)))) then K ((.l .deep bytesR (List.set y0 (Int.toNat y6) (IntKind.wrap .u8 (List.getD ((128 : Int) :: ((192 : Int) :: ((193 : Int) :: ((224 : Int) :: ((237 : Int) :: ((240 : Int) :: ((244 : Int) :: ((245 : Int) :: ((255 : Int) :: (y9 :: ([] : List Int))))))))))) (Int.toNat y12) (0 : Int))))), [(.io [(.l .no bytesR cc), (.s (.int .i64 y13)), (.s (.int .i64 y14))])]) else none) else none))))))) else K ((.l .deep bytesR y0), [(.io [(.l .no bytesR cc), (.s (.int .i64 y4)), (.s (.int .i64 y5))])])) else (bif (y3 == (1 : Int)) then (B_s_l01Cur_pick cc y4 y5 (3 : Int) (fun y15 y16 y17 => (bif ((decide ((0 : Int) ≤ y15)) && (decide (y15 < (((List.length ((195 : Int) :: ((226 : Int) :: ((240 : Int) :: ([] : List Int))))) : Nat) : Int)))) then (bif (Nat.ble (((List.length y0) + (List.length ((List.getD ((195 : Int) :: ((226 : Int) :: ((240 : Int) :: ([] : List Int)))) (Int.toNat y15) (0 : Int)) :: ([] : List Int)))) * 1) 140737488355328) then K ((.l .deep bytesR (y0 ++ ((List.getD ((195 : Int) :: ((226 : Int) :: ((240 : Int) :: ([] : List Int)))) (Int.toNat y15) (0 : Int)) :: ([] : List Int)))), [(.io [(.l .no bytesR cc), (.s (.int .i64 y16)), (.s (.int .i64 y17))])]) else none) else none))) else (bif (y3 == (2 : Int)) then (B_s_l01Cur_once cc y4 y5 (5 : Int) (fun y18 y19 y20 => (bif y18 then (B_s_l01Cur_pick cc y19 y20 (2 : Int) (fun y21 y22 y23 => (bif (((((IntKind.wrap .i64 ((400 : Int) + y21)) == (IntKind.wrap .i64 ((400 : Int) + y21))) && (decide ((0 : Int) ≤ (IntKind.wrap .i64 ((400 : Int) + y21))))) && (decide (((Int.toNat (IntKind.wrap .i64 ((400 : Int) + y21))) * 1) ≤ 140737488355328))) && (decide ((IntKind.wrap .i64 ((400 : Int) + y21)) ≤ (4611686018427387904 : Int)))) then K ((.l .deep bytesR (List.replicate (Int.toNat (IntKind.wrap .i64 ((400 : Int) + y21))) (0 : Int))), [(.io [(.l .no bytesR cc), (.s (.int .i64 y22)), (.s (.int .i64 y23))])]) else none))) else K ((.l .deep bytesR y0), [(.io [(.l .no bytesR cc), (.s (.int .i64 y19)), (.s (.int .i64 y20))])])))) else K ((.l .deep bytesR y0), [(.io [(.l .no bytesR cc), (.s (.int .i64 y4)), (.s (.int .i64 y5))])]))))))))
theorem e_s_l01Cur_badText (cc : List Int) (ca : Int) (cs : Int) (n : Int) (K : Ret → Option Ret) : evF E_s_l01Cur_badText false F.s_l01Cur_badText [.io [.l .no bytesR cc, .s (.int .i64 ca), .s (.int .i64 cs)], .s (.int .i64 n)] K = T_s_l01Cur_badText cc ca cs n K := by kernel_rfl
theorem x_s_l01Cur_badText (cc : List Int) (ca : Int) (cs : Int) (n : Int) (h : (curB 1000000000000000000 cc ca cs && (decide (0 ≤ n) && decide (n ≤ 1000))) = true) : ∃ (y : List Int) (a : Int) (s : Int), ((fitB y = true ∧ ((y.length : Nat) : Int) ≤ n + 402) ∧ 0 ≤ a ∧ a ≤ ca + (8 + 3 * n) ∧ 0 ≤ s ∧ s < 65536) ∧ ∀ K : Ret → Option Ret, T_s_l01Cur_badText cc ca cs n K = K (.l .deep bytesR y, [.io [.l .no bytesR cc, .s (.int .i64 a), .s (.int .i64 s)]]) := by
  suffices hd : Dr (fun r : Ret => ∃ (y : List Int) (a : Int) (s : Int), ((fitB y = true ∧ ((y.length : Nat) : Int) ≤ n + 402) ∧ 0 ≤ a ∧ a ≤ ca + (8 + 3 * n) ∧ 0 ≤ s ∧ s < 65536) ∧ r = (.l .deep bytesR y, [.io [.l .no bytesR cc, .s (.int .i64 a), .s (.int .i64 s)]])) (fun K : Ret → Option Ret => T_s_l01Cur_badText cc ca cs n K) by
    obtain ⟨_, ⟨y, a, s, hp, rfl⟩, hk⟩ := hd
    exact ⟨y, a, s, hp, hk⟩
  obtain ⟨h, hpre⟩ := (Bool.and_eq_true _ _).mp h
  obtain ⟨hf, h2, h3, h4, h5⟩ := curB_iff.1 h
  have hl := fitB_len hf
  unfold T_s_l01Cur_badText
  simp only [Bool.and_eq_true, decide_eq_true_eq] at hpre
  refine Dr.b3 (b_s_l01Cur_text _ _ _ _ ((Bool.and_eq_true _ _).mpr ⟨(curB_iff.2 ⟨hf, by omega, by omega, by omega, by omega⟩), by simp only [Bool.and_eq_true, decide_eq_true_eq]; omega⟩)) (fun y0 a0 s0 hy => ?_)
  obtain ⟨⟨hq1, hq2⟩, hq3⟩ := hy
  refine Dr.b3 (b_s_l01Cur_pick _ _ _ _ (curB_iff.2 ⟨hf, by omega, by omega, by omega, by omega⟩)) (fun y1 a1 s1 h1 => ?_)
  refine Dr.bif (fun _ => ?_) (fun _ => Dr.bif (fun _ => ?_) (fun _ => Dr.bif (fun _ => ?_) (fun _ => ?_)))
  · refine Dr.bif (fun hc => ?_) (fun _ => ?_)
    · simp only [decide_eq_true_eq] at hc
      obtain ⟨m, hm, hm1, hm2⟩ : ∃ m : Int, (if (((List.length y0) : Nat) : Int) < (256 : Int) then (((List.length y0) : Nat) : Int) else (256 : Int)) = m ∧ 1 ≤ m ∧ m ≤ (((List.length y0) : Nat) : Int) := by
        by_cases q : (((List.length y0) : Nat) : Int) < 256
        · rw [if_pos q]; exact ⟨_, rfl, by omega, by omega⟩
        · rw [if_neg q]; exact ⟨_, rfl, by omega, by omega⟩
      rw [hm]
      refine Dr.b3 (b_s_l01Cur_pick _ _ _ _ (curB_iff.2 ⟨hf, by omega, by omega, by omega, by omega⟩)) (fun y2 a2 s2 h2 => ?_)
      refine Dr.b3 (b_s_l01Cur_pick _ _ _ _ (curB_iff.2 ⟨hf, by omega, by omega, by omega, by omega⟩)) (fun y3 a3 s3 h3 => ?_)
      refine Dr.b3 (b_s_l01Cur_pick _ _ _ _ (curB_iff.2 ⟨hf, by omega, by omega, by omega, by omega⟩)) (fun y4 a4 s4 h4 => ?_)
      refine Dr.must (by simp only [List.length_cons, List.length_nil, Bool.and_eq_true, decide_eq_true_eq]; omega) (Dr.must (by simp only [Bool.and_eq_true, decide_eq_true_eq]; omega) ?_)
      exact Dr.leaf ⟨_, _, _, ⟨⟨fitB_set hq1 (wrap8_range _), by rw [List.length_set]; omega⟩, by omega, by omega, by omega, by omega⟩, rfl⟩
    · exact Dr.leaf ⟨_, _, _, ⟨⟨hq1, by omega⟩, by omega, by omega, by omega, by omega⟩, rfl⟩
  · refine Dr.b3 (b_s_l01Cur_pick _ _ _ _ (curB_iff.2 ⟨hf, by omega, by omega, by omega, by omega⟩)) (fun y2 a2 s2 h2 => ?_)
    refine Dr.must (by simp only [List.length_cons, List.length_nil, Bool.and_eq_true, decide_eq_true_eq]; omega) (Dr.must (Nat.ble_eq_true_of_le (by simp only [List.length_cons, List.length_nil]; omega)) ?_)
    exact Dr.leaf ⟨_, _, _, ⟨⟨fitB_append hq1 (fitB_one (fitB_get (xs := [195, 226, 240]) rfl _)) (by simp; omega), by simp only [List.length_append, List.length_cons, List.length_nil]; omega⟩, by omega, by omega, by omega, by omega⟩, rfl⟩
  · refine Dr.b3 (b_s_l01Cur_once _ _ _ _ (curB_iff.2 ⟨hf, by omega, by omega, by omega, by omega⟩)) (fun y2 a2 s2 h2 => ?_)
    refine Dr.bif (fun _ => ?_) (fun _ => ?_)
    · refine Dr.b3 (b_s_l01Cur_pick _ _ _ _ (curB_iff.2 ⟨hf, by omega, by omega, by omega, by omega⟩)) (fun y3 a3 s3 h3 => ?_)
      rw [wrap_in (n := 400 + y3) (by omega) (by omega)]
      refine Dr.must (by simp only [beq_self_eq_true, Bool.true_and, Bool.and_eq_true, decide_eq_true_eq]; omega) ?_
      exact Dr.leaf ⟨_, _, _, ⟨⟨fitB_rep (by omega), by rw [List.length_replicate]; omega⟩, by omega, by omega, by omega, by omega⟩, rfl⟩
    · exact Dr.leaf ⟨_, _, _, ⟨⟨hq1, by omega⟩, by omega, by omega, by omega, by omega⟩, rfl⟩
  · exact Dr.leaf ⟨_, _, _, ⟨⟨hq1, by omega⟩, by omega, by omega, by omega, by omega⟩, rfl⟩
noncomputable def g_s_l01Cur_badText (cc : List Int) (ca : Int) (cs : Int) (n : Int) : List Int × Int × Int := Classical.epsilon fun g => ((fitB (g).1 = true ∧ (((g).1.length : Nat) : Int) ≤ n + 402) ∧ 0 ≤ (g).2.1 ∧ (g).2.1 ≤ ca + (8 + 3 * n) ∧ 0 ≤ (g).2.2 ∧ (g).2.2 < 65536) ∧ ∀ K : Ret → Option Ret, T_s_l01Cur_badText cc ca cs n K = K (.l .deep bytesR (g).1, [.io [.l .no bytesR cc, .s (.int .i64 (g).2.1), .s (.int .i64 (g).2.2)]])
theorem gs_s_l01Cur_badText (cc : List Int) (ca : Int) (cs : Int) (n : Int) (h : (curB 1000000000000000000 cc ca cs && (decide (0 ≤ n) && decide (n ≤ 1000))) = true) : ((fitB (g_s_l01Cur_badText cc ca cs n).1 = true ∧ (((g_s_l01Cur_badText cc ca cs n).1.length : Nat) : Int) ≤ n + 402) ∧ 0 ≤ (g_s_l01Cur_badText cc ca cs n).2.1 ∧ (g_s_l01Cur_badText cc ca cs n).2.1 ≤ ca + (8 + 3 * n) ∧ 0 ≤ (g_s_l01Cur_badText cc ca cs n).2.2 ∧ (g_s_l01Cur_badText cc ca cs n).2.2 < 65536) ∧ ∀ K : Ret → Option Ret, T_s_l01Cur_badText cc ca cs n K = K (.l .deep bytesR (g_s_l01Cur_badText cc ca cs n).1, [.io [.l .no bytesR cc, .s (.int .i64 (g_s_l01Cur_badText cc ca cs n).2.1), .s (.int .i64 (g_s_l01Cur_badText cc ca cs n).2.2)]]) := by
  obtain ⟨y, a, s, hy, hk⟩ := x_s_l01Cur_badText cc ca cs n h
  exact Classical.epsilon_spec (p := fun g : List Int × Int × Int => ((fitB (g).1 = true ∧ (((g).1.length : Nat) : Int) ≤ n + 402) ∧ 0 ≤ (g).2.1 ∧ (g).2.1 ≤ ca + (8 + 3 * n) ∧ 0 ≤ (g).2.2 ∧ (g).2.2 < 65536) ∧ ∀ K : Ret → Option Ret, T_s_l01Cur_badText cc ca cs n K = K (.l .deep bytesR (g).1, [.io [.l .no bytesR cc, .s (.int .i64 (g).2.1), .s (.int .i64 (g).2.2)]])) ⟨⟨y, a, s⟩, hy, hk⟩
noncomputable def B_s_l01Cur_badText (cc : List Int) (ca : Int) (cs : Int) (n : Int) (k : (List Int) → (Int) → (Int) → Option Ret) : Option Ret := bif curB 1000000000000000000 cc ca cs && (decide (0 ≤ n) && decide (n ≤ 1000)) then k (g_s_l01Cur_badText cc ca cs n).1 (g_s_l01Cur_badText cc ca cs n).2.1 (g_s_l01Cur_badText cc ca cs n).2.2 else none
theorem b_s_l01Cur_badText (cc : List Int) (ca : Int) (cs : Int) (n : Int) (h : (curB 1000000000000000000 cc ca cs && (decide (0 ≤ n) && decide (n ≤ 1000))) = true) : ∃ (y : List Int) (a : Int) (s : Int), ((fitB y = true ∧ ((y.length : Nat) : Int) ≤ n + 402) ∧ 0 ≤ a ∧ a ≤ ca + (8 + 3 * n) ∧ 0 ≤ s ∧ s < 65536) ∧ ∀ k, B_s_l01Cur_badText cc ca cs n k = k y a s :=
  ⟨(g_s_l01Cur_badText cc ca cs n).1, (g_s_l01Cur_badText cc ca cs n).2.1, (g_s_l01Cur_badText cc ca cs n).2.2, (gs_s_l01Cur_badText cc ca cs n h).1, fun k => by unfold B_s_l01Cur_badText; rw [h]; rfl⟩
def SB_s_l01Cur_badText (B : (List Int) → (Int) → (Int) → (Int) → ((List Int) → (Int) → (Int) → Option Ret) → Option Ret) : Sm := S_B [.sh (.io (.cons (.l .no bytesR) (.cons (.int .i64) (.cons (.int .i64) .nil)))), .i] (fun d K => B d.1.1 d.1.2.1 d.1.2.2.1 d.2.1 (fun y a s => K (.l .deep bytesR y, [.io [.l .no bytesR d.1.1, .s (.int .i64 a), .s (.int .i64 s)]])))
theorem okS_s_l01Cur_badText : OkFn prog I N.s_l01Cur_badText false (SB_s_l01Cur_badText B_s_l01Cur_badText) := okN (ok_fn (memc okS_s_l01Cur_text (memc okS_s_l01Cur_pick (memc okS_s_l01Cur_once mem0))) (l := ls_s_l01Cur_badText) (p := []) (ls := []) (lend := []) (focus := false) (fuel := 0) (give := []) (fn := F.s_l01Cur_badText) (by kernel_rfl) (by kernel_rfl) (by kernel_rfl) (by kernel_rfl) (cs := []) (by kernel_rfl) loops0) (S_B_of fun d K q hq => by
  refine (e_s_l01Cur_badText d.1.1 d.1.2.1 d.1.2.2.1 d.2.1 K).trans ?_
  unfold B_s_l01Cur_badText at hq
  cases hp : (curB 1000000000000000000 d.1.1 d.1.2.1 d.1.2.2.1 && (decide (0 ≤ d.2.1) && decide (d.2.1 ≤ 1000))) with
  | false => rw [hp] at hq; cases hq
  | true =>
    rw [hp] at hq
    exact ((gs_s_l01Cur_badText d.1.1 d.1.2.1 d.1.2.2.1 d.2.1 hp).2 K).trans hq)
end Go.Ev.Seat
end
section
/- s_l01Cur_badChunks: its contract. -/
namespace Go.Ev.Seat
open Go.RowKit
set_option maxRecDepth 100000
set_option linter.unusedVariables false
set_option linter.unusedSimpArgs false
def z_s_l01Cur_badChunks_7_0 (x11 : Int) (o0 : List T_Piece) (b10 : List Int) (b11 : Int) (b12 : Int) : St := { tm := ([.x, .x, .x, .x, .x, (.w 0), .x, .x, .x, .x, .x, (.s (.int .i64 x11))] ++ List.replicate 30 .x), ob := [(0, (.arr true true pieceR o0)), (1, (.box [(.l .no bytesR b10), (.s (.int .i64 b11)), (.s (.int .i64 b12))]))], nx := 2, io := [(.pb 1 0)] }
def z_s_l01Cur_badChunks_7_1 (x11 : Int) (o0 : List T_Piece) (b10 : List Int) (b11 : Int) (b12 : Int) : St := { tm := ([.x, .x, .x, .x, .x, (.w 0), .x, .x, .x, .x, .x, (.s (.int .i64 x11))] ++ List.replicate 30 .x), ob := [(0, (.arr true false pieceR o0)), (1, (.box [(.l .no bytesR b10), (.s (.int .i64 b11)), (.s (.int .i64 b12))]))], nx := 2, io := [(.pb 1 0)] }
def sh_s_l01Cur_badChunks_7_0 : Ss := { tm := (.cons (.pb 0 0) (.cons (.x) (.cons (.x) (.cons (.x) (.cons (.x) (.cons (.w 1) (.cons (.int .i64) (.cons (.x) (.cons (.x) (.cons (.x) (.cons (.x) (.cons (.int .i64) (xsh 30))))))))))))), ob := (.box (.cons (.l .no bytesR) (.cons (.int .i64) (.cons (.int .i64) .nil))) (.arr true true pieceR .nil)), nx := 2, io := (.cons (.pb 0 0) .nil) }
def d_s_l01Cur_badChunks_7_0 (x6 : Int) (x11 : Int) (b00 : List Int) (b01 : Int) (b02 : Int) (o1 : List T_Piece) : sh_s_l01Cur_badChunks_7_0.T := (((), ((), ((), ((), ((), ((), (x6, ((), ((), ((), ((), (x11, xd 30)))))))))))), ((b00, (b01, (b02, ()))), (o1, ())), ((), ()))
def s_s_l01Cur_badChunks_7_0 (x6 : Int) (x11 : Int) (b00 : List Int) (b01 : Int) (b02 : Int) (o1 : List T_Piece) : St := { tm := ([(.pb 0 0), .x, .x, .x, .x, (.w 1), (.s (.int .i64 x6)), .x, .x, .x, .x, (.s (.int .i64 x11))] ++ List.replicate 30 .x), ob := [(0, (.box [(.l .no bytesR b00), (.s (.int .i64 b01)), (.s (.int .i64 b02))])), (1, (.arr true true pieceR o1))], nx := 2, io := [(.pb 0 0)] }
theorem se_s_l01Cur_badChunks_7_0 (x6 : Int) (x11 : Int) (b00 : List Int) (b01 : Int) (b02 : Int) (o1 : List T_Piece) : sh_s_l01Cur_badChunks_7_0.mk' (d_s_l01Cur_badChunks_7_0 x6 x11 b00 b01 b02 o1) = (s_s_l01Cur_badChunks_7_0 x6 x11 b00 b01 b02 o1) := by kernel_rfl
def w_s_l01Cur_badChunks_7_0 (d : sh_s_l01Cur_badChunks_7_0.T) (f : Int → Int → (List Int) → Int → Int → (List T_Piece) → Option Ret) : Option Ret := match d with | ((_, (_, (_, (_, (_, (_, (x6, (_, (_, (_, (_, (x11, _)))))))))))), ((b00, (b01, (b02, _))), (o1, _)), (_, _)) => f x6 x11 b00 b01 b02 o1
noncomputable def P_s_l01Cur_badChunks_7_0 (x6 : Int) (x11 : Int) (b00 : List Int) (b01 : Int) (b02 : Int) (o1 : List T_Piece) (nx0 : Int → Int → (List Int) → Int → Int → (List T_Piece) → Option Ret) (nx1 : Int → Int → (List Int) → Int → Int → (List T_Piece) → Option Ret) (k0 : Int → (List T_Piece) → (List Int) → Int → Int → Option Ret) (k1 : Int → (List T_Piece) → (List Int) → Int → Int → Option Ret) : Option Ret := (B_s_l01Cur_pick b00 b01 b02 (2 : Int) (fun y0 y1 y2 => (bif (decide (x6 < (IntKind.wrap .i64 ((25 : Int) + y0)))) then (bif (Nat.ble (((List.length o1) + (List.length (((97 : Int) :: ((97 : Int) :: ((97 : Int) :: ((97 : Int) :: ((97 : Int) :: ((97 : Int) :: ((97 : Int) :: ((97 : Int) :: ((97 : Int) :: ((97 : Int) :: ((97 : Int) :: ((97 : Int) :: ((97 : Int) :: ((97 : Int) :: ((97 : Int) :: ((97 : Int) :: ([] : List Int))))))))))))))))) :: []))) * 24) 140737488355328) then (nx1 (IntKind.wrap .i64 (x6 + (1 : Int))) x11 b00 y1 y2 (o1 ++ (((97 : Int) :: ((97 : Int) :: ((97 : Int) :: ((97 : Int) :: ((97 : Int) :: ((97 : Int) :: ((97 : Int) :: ((97 : Int) :: ((97 : Int) :: ((97 : Int) :: ((97 : Int) :: ((97 : Int) :: ((97 : Int) :: ((97 : Int) :: ((97 : Int) :: ((97 : Int) :: ([] : List Int))))))))))))))))) :: []))) else none) else (k0 x11 o1 b00 y1 y2))))
def sh_s_l01Cur_badChunks_7_1 : Ss := { tm := (.cons (.pb 0 0) (.cons (.x) (.cons (.x) (.cons (.x) (.cons (.x) (.cons (.w 1) (.cons (.int .i64) (.cons (.x) (.cons (.x) (.cons (.x) (.cons (.x) (.cons (.int .i64) (xsh 30))))))))))))), ob := (.box (.cons (.l .no bytesR) (.cons (.int .i64) (.cons (.int .i64) .nil))) (.arr true false pieceR .nil)), nx := 2, io := (.cons (.pb 0 0) .nil) }
def d_s_l01Cur_badChunks_7_1 (x6 : Int) (x11 : Int) (b00 : List Int) (b01 : Int) (b02 : Int) (o1 : List T_Piece) : sh_s_l01Cur_badChunks_7_1.T := (((), ((), ((), ((), ((), ((), (x6, ((), ((), ((), ((), (x11, xd 30)))))))))))), ((b00, (b01, (b02, ()))), (o1, ())), ((), ()))
def s_s_l01Cur_badChunks_7_1 (x6 : Int) (x11 : Int) (b00 : List Int) (b01 : Int) (b02 : Int) (o1 : List T_Piece) : St := { tm := ([(.pb 0 0), .x, .x, .x, .x, (.w 1), (.s (.int .i64 x6)), .x, .x, .x, .x, (.s (.int .i64 x11))] ++ List.replicate 30 .x), ob := [(0, (.box [(.l .no bytesR b00), (.s (.int .i64 b01)), (.s (.int .i64 b02))])), (1, (.arr true false pieceR o1))], nx := 2, io := [(.pb 0 0)] }
theorem se_s_l01Cur_badChunks_7_1 (x6 : Int) (x11 : Int) (b00 : List Int) (b01 : Int) (b02 : Int) (o1 : List T_Piece) : sh_s_l01Cur_badChunks_7_1.mk' (d_s_l01Cur_badChunks_7_1 x6 x11 b00 b01 b02 o1) = (s_s_l01Cur_badChunks_7_1 x6 x11 b00 b01 b02 o1) := by kernel_rfl
def w_s_l01Cur_badChunks_7_1 (d : sh_s_l01Cur_badChunks_7_1.T) (f : Int → Int → (List Int) → Int → Int → (List T_Piece) → Option Ret) : Option Ret := match d with | ((_, (_, (_, (_, (_, (_, (x6, (_, (_, (_, (_, (x11, _)))))))))))), ((b00, (b01, (b02, _))), (o1, _)), (_, _)) => f x6 x11 b00 b01 b02 o1
noncomputable def P_s_l01Cur_badChunks_7_1 (x6 : Int) (x11 : Int) (b00 : List Int) (b01 : Int) (b02 : Int) (o1 : List T_Piece) (nx0 : Int → Int → (List Int) → Int → Int → (List T_Piece) → Option Ret) (nx1 : Int → Int → (List Int) → Int → Int → (List T_Piece) → Option Ret) (k0 : Int → (List T_Piece) → (List Int) → Int → Int → Option Ret) (k1 : Int → (List T_Piece) → (List Int) → Int → Int → Option Ret) : Option Ret := (B_s_l01Cur_pick b00 b01 b02 (2 : Int) (fun y3 y4 y5 => (bif (decide (x6 < (IntKind.wrap .i64 ((25 : Int) + y3)))) then (bif (Nat.ble (((List.length o1) + (List.length (((97 : Int) :: ((97 : Int) :: ((97 : Int) :: ((97 : Int) :: ((97 : Int) :: ((97 : Int) :: ((97 : Int) :: ((97 : Int) :: ((97 : Int) :: ((97 : Int) :: ((97 : Int) :: ((97 : Int) :: ((97 : Int) :: ((97 : Int) :: ((97 : Int) :: ((97 : Int) :: ([] : List Int))))))))))))))))) :: []))) * 24) 140737488355328) then (nx1 (IntKind.wrap .i64 (x6 + (1 : Int))) x11 b00 y4 y5 (o1 ++ (((97 : Int) :: ((97 : Int) :: ((97 : Int) :: ((97 : Int) :: ((97 : Int) :: ((97 : Int) :: ((97 : Int) :: ((97 : Int) :: ((97 : Int) :: ((97 : Int) :: ((97 : Int) :: ((97 : Int) :: ((97 : Int) :: ((97 : Int) :: ((97 : Int) :: ((97 : Int) :: ([] : List Int))))))))))))))))) :: []))) else none) else (k1 x11 o1 b00 y4 y5))))
mutual
noncomputable def Q_s_l01Cur_badChunks_7_0 : Nat → Int → Int → (List Int) → Int → Int → (List T_Piece) → (Int → (List T_Piece) → (List Int) → Int → Int → Option Ret) → (Int → (List T_Piece) → (List Int) → Int → Int → Option Ret) → Option Ret
  | 0, _, _, _, _, _, _, _, _ => none
  | m + 1, x6, x11, b00, b01, b02, o1, k0, k1 => P_s_l01Cur_badChunks_7_0 x6 x11 b00 b01 b02 o1 (fun x6 x11 b00 b01 b02 o1 => (Q_s_l01Cur_badChunks_7_0 m x6 x11 b00 b01 b02 o1 k0 k1)) (fun x6 x11 b00 b01 b02 o1 => (Q_s_l01Cur_badChunks_7_1 m x6 x11 b00 b01 b02 o1 k0 k1)) k0 k1
noncomputable def Q_s_l01Cur_badChunks_7_1 : Nat → Int → Int → (List Int) → Int → Int → (List T_Piece) → (Int → (List T_Piece) → (List Int) → Int → Int → Option Ret) → (Int → (List T_Piece) → (List Int) → Int → Int → Option Ret) → Option Ret
  | 0, _, _, _, _, _, _, _, _ => none
  | m + 1, x6, x11, b00, b01, b02, o1, k0, k1 => P_s_l01Cur_badChunks_7_1 x6 x11 b00 b01 b02 o1 (fun x6 x11 b00 b01 b02 o1 => (Q_s_l01Cur_badChunks_7_0 m x6 x11 b00 b01 b02 o1 k0 k1)) (fun x6 x11 b00 b01 b02 o1 => (Q_s_l01Cur_badChunks_7_1 m x6 x11 b00 b01 b02 o1 k0 k1)) k0 k1
end
noncomputable def R_s_l01Cur_badChunks_7_0 (x6 : Int) (x11 : Int) (b00 : List Int) (b01 : Int) (b02 : Int) (o1 : List T_Piece) (k0 : Int → (List T_Piece) → (List Int) → Int → Int → Option Ret) (k1 : Int → (List T_Piece) → (List Int) → Int → Int → Option Ret) : Option Ret := Q_s_l01Cur_badChunks_7_0 (30) x6 x11 b00 b01 b02 o1 k0 k1
noncomputable def R_s_l01Cur_badChunks_7_1 (x6 : Int) (x11 : Int) (b00 : List Int) (b01 : Int) (b02 : Int) (o1 : List T_Piece) (k0 : Int → (List T_Piece) → (List Int) → Int → Int → Option Ret) (k1 : Int → (List T_Piece) → (List Int) → Int → Int → Option Ret) : Option Ret := Q_s_l01Cur_badChunks_7_1 (30) x6 x11 b00 b01 b02 o1 k0 k1
noncomputable def W_s_l01Cur_badChunks_7 : LoopFn := (fun (σ : St) (K : Ex → St → Option Ret) => (match sh_s_l01Cur_badChunks_7_0.un σ with | some d => w_s_l01Cur_badChunks_7_0 d (fun x6 x11 b00 b01 b02 o1 => R_s_l01Cur_badChunks_7_0 x6 x11 b00 b01 b02 o1 (fun x11 o0 b10 b11 b12 => (K (.ext 1) (z_s_l01Cur_badChunks_7_0 x11 o0 b10 b11 b12))) (fun x11 o0 b10 b11 b12 => (K (.ext 1) (z_s_l01Cur_badChunks_7_1 x11 o0 b10 b11 b12)))) | none => (match sh_s_l01Cur_badChunks_7_1.un σ with | some d => w_s_l01Cur_badChunks_7_1 d (fun x6 x11 b00 b01 b02 o1 => R_s_l01Cur_badChunks_7_1 x6 x11 b00 b01 b02 o1 (fun x11 o0 b10 b11 b12 => (K (.ext 1) (z_s_l01Cur_badChunks_7_0 x11 o0 b10 b11 b12))) (fun x11 o0 b10 b11 b12 => (K (.ext 1) (z_s_l01Cur_badChunks_7_1 x11 o0 b10 b11 b12)))) | none => none)))
noncomputable abbrev ls_s_l01Cur_badChunks : List (Nat × Bool × Sm) := [(N.s_l01Cur_chunks, false, (SB_s_l01Cur_chunks B_s_l01Cur_chunks)), (N.s_l01Cur_pick, false, (SB_s_l01Cur_pick B_s_l01Cur_pick)), (N.s_l01Cur_badText, false, (SB_s_l01Cur_badText B_s_l01Cur_badText))]
noncomputable abbrev E_s_l01Cur_badChunks : Env := En ls_s_l01Cur_badChunks [] [(7, [0,5,6,11], [4,5,11], W_s_l01Cur_badChunks_7)] [] false 0 []
noncomputable abbrev U_s_l01Cur_badChunks_7 := rounds (run E_s_l01Cur_badChunks (bodyOf F.s_l01Cur_badChunks 7)) [0,5,6,11] [4,5,11]
theorem st_s_l01Cur_badChunks_7_0 (m : Nat) (x6 : Int) (x11 : Int) (b00 : List Int) (b01 : Int) (b02 : Int) (o1 : List T_Piece) (K : Ex → St → Option Ret) : U_s_l01Cur_badChunks_7 (m + 1) (s_s_l01Cur_badChunks_7_0 x6 x11 b00 b01 b02 o1) K = P_s_l01Cur_badChunks_7_0 x6 x11 b00 b01 b02 o1 (fun x6 x11 b00 b01 b02 o1 => (U_s_l01Cur_badChunks_7 m (s_s_l01Cur_badChunks_7_0 x6 x11 b00 b01 b02 o1) K)) (fun x6 x11 b00 b01 b02 o1 => (U_s_l01Cur_badChunks_7 m (s_s_l01Cur_badChunks_7_1 x6 x11 b00 b01 b02 o1) K)) (fun x11 o0 b10 b11 b12 => (K (.ext 1) (z_s_l01Cur_badChunks_7_0 x11 o0 b10 b11 b12))) (fun x11 o0 b10 b11 b12 => (K (.ext 1) (z_s_l01Cur_badChunks_7_1 x11 o0 b10 b11 b12))) := by kernel_rfl
theorem st_s_l01Cur_badChunks_7_1 (m : Nat) (x6 : Int) (x11 : Int) (b00 : List Int) (b01 : Int) (b02 : Int) (o1 : List T_Piece) (K : Ex → St → Option Ret) : U_s_l01Cur_badChunks_7 (m + 1) (s_s_l01Cur_badChunks_7_1 x6 x11 b00 b01 b02 o1) K = P_s_l01Cur_badChunks_7_1 x6 x11 b00 b01 b02 o1 (fun x6 x11 b00 b01 b02 o1 => (U_s_l01Cur_badChunks_7 m (s_s_l01Cur_badChunks_7_0 x6 x11 b00 b01 b02 o1) K)) (fun x6 x11 b00 b01 b02 o1 => (U_s_l01Cur_badChunks_7 m (s_s_l01Cur_badChunks_7_1 x6 x11 b00 b01 b02 o1) K)) (fun x11 o0 b10 b11 b12 => (K (.ext 1) (z_s_l01Cur_badChunks_7_0 x11 o0 b10 b11 b12))) (fun x11 o0 b10 b11 b12 => (K (.ext 1) (z_s_l01Cur_badChunks_7_1 x11 o0 b10 b11 b12))) := by kernel_rfl
theorem q_s_l01Cur_badChunks_7 (K : Ex → St → Option Ret) : ∀ m : Nat, (∀ (x6 : Int) (x11 : Int) (b00 : List Int) (b01 : Int) (b02 : Int) (o1 : List T_Piece), U_s_l01Cur_badChunks_7 m (s_s_l01Cur_badChunks_7_0 x6 x11 b00 b01 b02 o1) K = Q_s_l01Cur_badChunks_7_0 m x6 x11 b00 b01 b02 o1 (fun x11 o0 b10 b11 b12 => (K (.ext 1) (z_s_l01Cur_badChunks_7_0 x11 o0 b10 b11 b12))) (fun x11 o0 b10 b11 b12 => (K (.ext 1) (z_s_l01Cur_badChunks_7_1 x11 o0 b10 b11 b12)))) ∧ (∀ (x6 : Int) (x11 : Int) (b00 : List Int) (b01 : Int) (b02 : Int) (o1 : List T_Piece), U_s_l01Cur_badChunks_7 m (s_s_l01Cur_badChunks_7_1 x6 x11 b00 b01 b02 o1) K = Q_s_l01Cur_badChunks_7_1 m x6 x11 b00 b01 b02 o1 (fun x11 o0 b10 b11 b12 => (K (.ext 1) (z_s_l01Cur_badChunks_7_0 x11 o0 b10 b11 b12))) (fun x11 o0 b10 b11 b12 => (K (.ext 1) (z_s_l01Cur_badChunks_7_1 x11 o0 b10 b11 b12))))
  | 0 => ⟨(fun _ _ _ _ _ _ => rfl), (fun _ _ _ _ _ _ => rfl)⟩
  | m + 1 => ⟨(fun x6 x11 b00 b01 b02 o1 => (by rw [st_s_l01Cur_badChunks_7_0, show (fun x6 x11 b00 b01 b02 o1 => (U_s_l01Cur_badChunks_7 m (s_s_l01Cur_badChunks_7_0 x6 x11 b00 b01 b02 o1) K)) = (fun x6 x11 b00 b01 b02 o1 => (Q_s_l01Cur_badChunks_7_0 m x6 x11 b00 b01 b02 o1 (fun x11 o0 b10 b11 b12 => (K (.ext 1) (z_s_l01Cur_badChunks_7_0 x11 o0 b10 b11 b12))) (fun x11 o0 b10 b11 b12 => (K (.ext 1) (z_s_l01Cur_badChunks_7_1 x11 o0 b10 b11 b12))))) from funext fun x6 => funext fun x11 => funext fun b00 => funext fun b01 => funext fun b02 => funext fun o1 => (q_s_l01Cur_badChunks_7 K m).1 x6 x11 b00 b01 b02 o1, show (fun x6 x11 b00 b01 b02 o1 => (U_s_l01Cur_badChunks_7 m (s_s_l01Cur_badChunks_7_1 x6 x11 b00 b01 b02 o1) K)) = (fun x6 x11 b00 b01 b02 o1 => (Q_s_l01Cur_badChunks_7_1 m x6 x11 b00 b01 b02 o1 (fun x11 o0 b10 b11 b12 => (K (.ext 1) (z_s_l01Cur_badChunks_7_0 x11 o0 b10 b11 b12))) (fun x11 o0 b10 b11 b12 => (K (.ext 1) (z_s_l01Cur_badChunks_7_1 x11 o0 b10 b11 b12))))) from funext fun x6 => funext fun x11 => funext fun b00 => funext fun b01 => funext fun b02 => funext fun o1 => (q_s_l01Cur_badChunks_7 K m).2 x6 x11 b00 b01 b02 o1]; rfl)), (fun x6 x11 b00 b01 b02 o1 => (by rw [st_s_l01Cur_badChunks_7_1, show (fun x6 x11 b00 b01 b02 o1 => (U_s_l01Cur_badChunks_7 m (s_s_l01Cur_badChunks_7_0 x6 x11 b00 b01 b02 o1) K)) = (fun x6 x11 b00 b01 b02 o1 => (Q_s_l01Cur_badChunks_7_0 m x6 x11 b00 b01 b02 o1 (fun x11 o0 b10 b11 b12 => (K (.ext 1) (z_s_l01Cur_badChunks_7_0 x11 o0 b10 b11 b12))) (fun x11 o0 b10 b11 b12 => (K (.ext 1) (z_s_l01Cur_badChunks_7_1 x11 o0 b10 b11 b12))))) from funext fun x6 => funext fun x11 => funext fun b00 => funext fun b01 => funext fun b02 => funext fun o1 => (q_s_l01Cur_badChunks_7 K m).1 x6 x11 b00 b01 b02 o1, show (fun x6 x11 b00 b01 b02 o1 => (U_s_l01Cur_badChunks_7 m (s_s_l01Cur_badChunks_7_1 x6 x11 b00 b01 b02 o1) K)) = (fun x6 x11 b00 b01 b02 o1 => (Q_s_l01Cur_badChunks_7_1 m x6 x11 b00 b01 b02 o1 (fun x11 o0 b10 b11 b12 => (K (.ext 1) (z_s_l01Cur_badChunks_7_0 x11 o0 b10 b11 b12))) (fun x11 o0 b10 b11 b12 => (K (.ext 1) (z_s_l01Cur_badChunks_7_1 x11 o0 b10 b11 b12))))) from funext fun x6 => funext fun x11 => funext fun b00 => funext fun b01 => funext fun b02 => funext fun o1 => (q_s_l01Cur_badChunks_7 K m).2 x6 x11 b00 b01 b02 o1]; rfl))⟩
theorem loopK_s_l01Cur_badChunks_7 : LoopOk E_s_l01Cur_badChunks (bodyOf F.s_l01Cur_badChunks 7) := by
  refine loopW_ok (n := 7) (F := W_s_l01Cur_badChunks_7) (by kernel_rfl) rfl (li := [0,5,6,11]) (lo := [4,5,11]) rfl (fun σ K r hr => ?_)
  unfold W_s_l01Cur_badChunks_7 at hr
  split at hr
  · rename_i d hd
    rw [Ss.un_mk hd]
    exact ⟨_, ((congrArg (fun z => U_s_l01Cur_badChunks_7 _ z K) (se_s_l01Cur_badChunks_7_0 _ _ _ _ _ _)).trans ((q_s_l01Cur_badChunks_7 K _).1 _ _ _ _ _ _)).trans hr⟩
  · split at hr
    · rename_i d hd
      rw [Ss.un_mk hd]
      exact ⟨_, ((congrArg (fun z => U_s_l01Cur_badChunks_7 _ z K) (se_s_l01Cur_badChunks_7_1 _ _ _ _ _ _)).trans ((q_s_l01Cur_badChunks_7 K _).2 _ _ _ _ _ _)).trans hr⟩
    · cases hr
noncomputable def T_s_l01Cur_badChunks (cc : List Int) (ca : Int) (cs : Int) (n : Int) (K : Ret → Option Ret) : Option Ret := (B_s_l01Cur_chunks cc ca cs n (fun y6 y7 y8 => (B_s_l01Cur_pick cc y7 y8 (9 : Int) (fun y9 y10 y11 => (bif (y9 == (0 : Int)) then (B_s_l01Cur_badText cc y10 y11 (30 : Int) (fun y12 y13 y14 => (bif (Nat.ble (((List.length y6) + (List.length (y12 :: []))) * 24) 140737488355328) then K ((.l .deep pieceR (y6 ++ (y12 :: []))), [(.io [(.l .no bytesR cc), (.s (.int .i64 y13)), (.s (.int .i64 y14))])]) else none))) else (bif (y9 == (1 : Int)) then (R_s_l01Cur_badChunks_7_0 (0 : Int) y9 cc y10 y11 y6 (fun y15 y16 y17 y18 y19 => K ((.l .deep pieceR y16), [(.io [(.l .no bytesR y17), (.s (.int .i64 y18)), (.s (.int .i64 y19))])])) (fun y20 y21 y22 y23 y24 => K ((.l .top pieceR y21), [(.io [(.l .no bytesR y22), (.s (.int .i64 y23)), (.s (.int .i64 y24))])]))) else (bif (y9 == (2 : Int)) then (bif (Nat.ble (((List.length y6) + (List.length (([] : List Int) :: []))) * 24) 140737488355328) then K ((.l .deep pieceR (y6 ++ (([] : List Int) :: []))), [(.io [(.l .no bytesR cc), (.s (.int .i64 y10)), (.s (.int .i64 y11))])]) else none) else K ((.l .deep pieceR y6), [(.io [(.l .no bytesR cc), (.s (.int .i64 y10)), (.s (.int .i64 y11))])]))))))))
theorem e_s_l01Cur_badChunks (cc : List Int) (ca : Int) (cs : Int) (n : Int) (K : Ret → Option Ret) : evF E_s_l01Cur_badChunks false F.s_l01Cur_badChunks [.io [.l .no bytesR cc, .s (.int .i64 ca), .s (.int .i64 cs)], .s (.int .i64 n)] K = T_s_l01Cur_badChunks cc ca cs n K := by kernel_rfl
theorem badChunks_loop1 {P : Ret → Prop} {cc : List Int} (hf : fitB cc = true) {y : Int} {F G : Int → List T_Piece → List Int → Int → Int → (Ret → Option Ret) → Option Ret} : ∀ (m k : Nat) (ca cs : Int) (o : List T_Piece), k ≤ 26 → 26 - k < m → 0 ≤ ca → ca + (27 - k) ≤ 2000000000000000000 → 0 ≤ cs → cs < 65536 → (∀ d ∈ o, fitB d = true) → o.length + 30 ≤ 100000 + k →
    (∀ (a s : Int) (o' : List T_Piece), 0 ≤ a → a ≤ ca + (27 - k) → 0 ≤ s → s < 65536 → (∀ d ∈ o', fitB d = true) → o'.length + k ≤ o.length + 26 → Dr P (F y o' cc a s) ∧ Dr P (G y o' cc a s)) → Dr P (fun K => Q_s_l01Cur_badChunks_7_1 m (k : Int) y cc ca cs o (fun a b c d e => F a b c d e K) (fun a b c d e => G a b c d e K))
  | 0, k, ca, cs, o, _, h, _, _, _, _, _, _, _ => absurd h (by omega)
  | m + 1, k, ca, cs, o, hk, h, h0, h1, h2, h3, hb, hl, hF => by
    show Dr P (fun K => P_s_l01Cur_badChunks_7_1 (k : Int) y cc ca cs o _ _ _ _)
    unfold P_s_l01Cur_badChunks_7_1
    refine Dr.b3 (b_s_l01Cur_pick _ _ _ _ (curB_iff.2 ⟨hf, by omega, by omega, by omega, by omega⟩)) (fun z a s hz => ?_)
    rw [wrap_in (n := 25 + z) (by omega) (by omega)]
    refine Dr.bif (fun hc => ?_) (fun _ => (hF a s o (by omega) (by omega) (by omega) (by omega) hb (by omega)).2)
    simp only [decide_eq_true_eq] at hc
    refine Dr.must (Nat.ble_eq_true_of_le (by simp only [List.length_cons, List.length_nil]; omega)) ?_
    rw [show IntKind.wrap .i64 ((k : Int) + 1) = ((k + 1 : Nat) : Int) by rw [wrap_in (by omega) (by omega)]; omega]
    exact badChunks_loop1 hf (F := F) (G := G) m (k + 1) a s _ (by omega) (by omega) (by omega) (by omega) (by omega) (by omega) (fun d hd => (List.mem_append.1 hd).elim (hb d) (fun hd => by rw [List.mem_singleton.1 hd]; rfl)) (by rw [List.length_append]; simp only [List.length_cons, List.length_nil]; omega) (fun a' s' o' q1 q2 q3 q4 q5 q6 => hF a' s' o' q1 (by omega) q3 q4 q5 (by rw [List.length_append] at q6; simp only [List.length_cons, List.length_nil] at q6; omega))
theorem badChunks_loop0 {P : Ret → Prop} {cc : List Int} (hf : fitB cc = true) {y : Int} {F G : Int → List T_Piece → List Int → Int → Int → (Ret → Option Ret) → Option Ret} : ∀ (m k : Nat) (ca cs : Int) (o : List T_Piece), k ≤ 26 → 26 - k < m → 0 ≤ ca → ca + (27 - k) ≤ 2000000000000000000 → 0 ≤ cs → cs < 65536 → (∀ d ∈ o, fitB d = true) → o.length + 30 ≤ 100000 + k →
    (∀ (a s : Int) (o' : List T_Piece), 0 ≤ a → a ≤ ca + (27 - k) → 0 ≤ s → s < 65536 → (∀ d ∈ o', fitB d = true) → o'.length + k ≤ o.length + 26 → Dr P (F y o' cc a s) ∧ Dr P (G y o' cc a s)) → Dr P (fun K => Q_s_l01Cur_badChunks_7_0 m (k : Int) y cc ca cs o (fun a b c d e => F a b c d e K) (fun a b c d e => G a b c d e K))
  | 0, k, ca, cs, o, _, h, _, _, _, _, _, _, _ => absurd h (by omega)
  | m + 1, k, ca, cs, o, hk, h, h0, h1, h2, h3, hb, hl, hF => by
    show Dr P (fun K => P_s_l01Cur_badChunks_7_0 (k : Int) y cc ca cs o _ _ _ _)
    unfold P_s_l01Cur_badChunks_7_0
    refine Dr.b3 (b_s_l01Cur_pick _ _ _ _ (curB_iff.2 ⟨hf, by omega, by omega, by omega, by omega⟩)) (fun z a s hz => ?_)
    rw [wrap_in (n := 25 + z) (by omega) (by omega)]
    refine Dr.bif (fun hc => ?_) (fun _ => (hF a s o (by omega) (by omega) (by omega) (by omega) hb (by omega)).1)
    simp only [decide_eq_true_eq] at hc
    refine Dr.must (Nat.ble_eq_true_of_le (by simp only [List.length_cons, List.length_nil]; omega)) ?_
    rw [show IntKind.wrap .i64 ((k : Int) + 1) = ((k + 1 : Nat) : Int) by rw [wrap_in (by omega) (by omega)]; omega]
    exact badChunks_loop1 hf (F := F) (G := G) m (k + 1) a s _ (by omega) (by omega) (by omega) (by omega) (by omega) (by omega) (fun d hd => (List.mem_append.1 hd).elim (hb d) (fun hd => by rw [List.mem_singleton.1 hd]; rfl)) (by rw [List.length_append]; simp only [List.length_cons, List.length_nil]; omega) (fun a' s' o' q1 q2 q3 q4 q5 q6 => hF a' s' o' q1 (by omega) q3 q4 q5 (by rw [List.length_append] at q6; simp only [List.length_cons, List.length_nil] at q6; omega))
theorem x_s_l01Cur_badChunks (cc : List Int) (ca : Int) (cs : Int) (n : Int) (h : (curB 500000000000000000 cc ca cs && (decide (0 ≤ n) && decide (n ≤ 1000))) = true) : ∃ (y : List T_Piece) (a : Int) (s : Int), (((∀ d ∈ y, fitB d = true) ∧ ((y.length : Nat) : Int) ≤ n + 27) ∧ 0 ≤ a ∧ a ≤ ca + (140 + 37 * n) ∧ 0 ≤ s ∧ s < 65536) ∧ ∀ K : Ret → Option Ret, T_s_l01Cur_badChunks cc ca cs n (noK K) = K (.l .no pieceR y, [.io [.l .no bytesR cc, .s (.int .i64 a), .s (.int .i64 s)]]) := by
  suffices hd : Dr (fun r : Ret => ∃ (y : List T_Piece) (a : Int) (s : Int), (((∀ d ∈ y, fitB d = true) ∧ ((y.length : Nat) : Int) ≤ n + 27) ∧ 0 ≤ a ∧ a ≤ ca + (140 + 37 * n) ∧ 0 ≤ s ∧ s < 65536) ∧ r = (.l .no pieceR y, [.io [.l .no bytesR cc, .s (.int .i64 a), .s (.int .i64 s)]])) (fun K : Ret → Option Ret => T_s_l01Cur_badChunks cc ca cs n (noK K)) by
    obtain ⟨_, ⟨y, a, s, hp, rfl⟩, hk⟩ := hd
    exact ⟨y, a, s, hp, hk⟩
  obtain ⟨h, hpre⟩ := (Bool.and_eq_true _ _).mp h
  obtain ⟨hf, h2, h3, h4, h5⟩ := curB_iff.1 h
  have hl := fitB_len hf
  unfold T_s_l01Cur_badChunks
  simp only [Bool.and_eq_true, decide_eq_true_eq] at hpre
  refine Dr.b3 (b_s_l01Cur_chunks _ _ _ _ ((Bool.and_eq_true _ _).mpr ⟨(curB_iff.2 ⟨hf, by omega, by omega, by omega, by omega⟩), by simp only [Bool.and_eq_true, decide_eq_true_eq]; omega⟩)) (fun y0 a0 s0 hy => ?_)
  obtain ⟨⟨hq1, hq2⟩, hq3⟩ := hy
  refine Dr.b3 (b_s_l01Cur_pick _ _ _ _ (curB_iff.2 ⟨hf, by omega, by omega, by omega, by omega⟩)) (fun y1 a1 s1 h1 => ?_)
  refine Dr.bif (fun _ => ?_) (fun _ => Dr.bif (fun _ => ?_) (fun _ => Dr.bif (fun _ => ?_) (fun _ => ?_)))
  · refine Dr.b3 (b_s_l01Cur_badText _ _ _ _ ((Bool.and_eq_true _ _).mpr ⟨(curB_iff.2 ⟨hf, by omega, by omega, by omega, by omega⟩), by rfl⟩)) (fun y2 a2 s2 h2 => ?_)
    obtain ⟨⟨hz1, hz2⟩, hz3⟩ := h2
    refine Dr.must (Nat.ble_eq_true_of_le (by simp only [List.length_cons, List.length_nil]; omega)) ?_
    exact Dr.leafN ⟨_, _, _, ⟨⟨fun d hd => (List.mem_append.1 hd).elim (hq1 d) (fun hd => by rw [List.mem_singleton.1 hd]; exact hz1), by rw [List.length_append]; simp only [List.length_cons, List.length_nil]; omega⟩, by omega, by omega, by omega, by omega⟩, rfl⟩ rfl
  · unfold R_s_l01Cur_badChunks_7_0
    refine badChunks_loop0 hf (F := fun y15 y16 y17 y18 y19 K => noK K ((.l .deep pieceR y16), [(.io [(.l .no bytesR y17), (.s (.int .i64 y18)), (.s (.int .i64 y19))])])) (G := fun y15 y16 y17 y18 y19 K => noK K ((.l .top pieceR y16), [(.io [(.l .no bytesR y17), (.s (.int .i64 y18)), (.s (.int .i64 y19))])])) _ 0 a1 s1 y0 (by omega) (by omega) (by omega) (by omega) (by omega) (by omega) hq1 (by omega) (fun a s o q1 q2 q3 q4 q5 q6 => ?_)
    constructor
    · exact Dr.leafN ⟨_, _, _, ⟨⟨q5, by omega⟩, by omega, by omega, by omega, by omega⟩, rfl⟩ rfl
    · exact Dr.leafN ⟨_, _, _, ⟨⟨q5, by omega⟩, by omega, by omega, by omega, by omega⟩, rfl⟩ rfl
  · refine Dr.must (Nat.ble_eq_true_of_le (by simp only [List.length_cons, List.length_nil]; omega)) ?_
    exact Dr.leafN ⟨_, _, _, ⟨⟨fun d hd => (List.mem_append.1 hd).elim (hq1 d) (fun hd => by rw [List.mem_singleton.1 hd]; rfl), by rw [List.length_append]; simp only [List.length_cons, List.length_nil]; omega⟩, by omega, by omega, by omega, by omega⟩, rfl⟩ rfl
  · exact Dr.leafN ⟨_, _, _, ⟨⟨hq1, by omega⟩, by omega, by omega, by omega, by omega⟩, rfl⟩ rfl
noncomputable def g_s_l01Cur_badChunks (cc : List Int) (ca : Int) (cs : Int) (n : Int) : List T_Piece × Int × Int := Classical.epsilon fun g => (((∀ d ∈ (g).1, fitB d = true) ∧ (((g).1.length : Nat) : Int) ≤ n + 27) ∧ 0 ≤ (g).2.1 ∧ (g).2.1 ≤ ca + (140 + 37 * n) ∧ 0 ≤ (g).2.2 ∧ (g).2.2 < 65536) ∧ ∀ K : Ret → Option Ret, T_s_l01Cur_badChunks cc ca cs n (noK K) = K (.l .no pieceR (g).1, [.io [.l .no bytesR cc, .s (.int .i64 (g).2.1), .s (.int .i64 (g).2.2)]])
theorem gs_s_l01Cur_badChunks (cc : List Int) (ca : Int) (cs : Int) (n : Int) (h : (curB 500000000000000000 cc ca cs && (decide (0 ≤ n) && decide (n ≤ 1000))) = true) : (((∀ d ∈ (g_s_l01Cur_badChunks cc ca cs n).1, fitB d = true) ∧ (((g_s_l01Cur_badChunks cc ca cs n).1.length : Nat) : Int) ≤ n + 27) ∧ 0 ≤ (g_s_l01Cur_badChunks cc ca cs n).2.1 ∧ (g_s_l01Cur_badChunks cc ca cs n).2.1 ≤ ca + (140 + 37 * n) ∧ 0 ≤ (g_s_l01Cur_badChunks cc ca cs n).2.2 ∧ (g_s_l01Cur_badChunks cc ca cs n).2.2 < 65536) ∧ ∀ K : Ret → Option Ret, T_s_l01Cur_badChunks cc ca cs n (noK K) = K (.l .no pieceR (g_s_l01Cur_badChunks cc ca cs n).1, [.io [.l .no bytesR cc, .s (.int .i64 (g_s_l01Cur_badChunks cc ca cs n).2.1), .s (.int .i64 (g_s_l01Cur_badChunks cc ca cs n).2.2)]]) := by
  obtain ⟨y, a, s, hy, hk⟩ := x_s_l01Cur_badChunks cc ca cs n h
  exact Classical.epsilon_spec (p := fun g : List T_Piece × Int × Int => (((∀ d ∈ (g).1, fitB d = true) ∧ (((g).1.length : Nat) : Int) ≤ n + 27) ∧ 0 ≤ (g).2.1 ∧ (g).2.1 ≤ ca + (140 + 37 * n) ∧ 0 ≤ (g).2.2 ∧ (g).2.2 < 65536) ∧ ∀ K : Ret → Option Ret, T_s_l01Cur_badChunks cc ca cs n (noK K) = K (.l .no pieceR (g).1, [.io [.l .no bytesR cc, .s (.int .i64 (g).2.1), .s (.int .i64 (g).2.2)]])) ⟨⟨y, a, s⟩, hy, hk⟩
noncomputable def B_s_l01Cur_badChunks (cc : List Int) (ca : Int) (cs : Int) (n : Int) (k : (List T_Piece) → (Int) → (Int) → Option Ret) : Option Ret := bif curB 500000000000000000 cc ca cs && (decide (0 ≤ n) && decide (n ≤ 1000)) then k (g_s_l01Cur_badChunks cc ca cs n).1 (g_s_l01Cur_badChunks cc ca cs n).2.1 (g_s_l01Cur_badChunks cc ca cs n).2.2 else none
theorem b_s_l01Cur_badChunks (cc : List Int) (ca : Int) (cs : Int) (n : Int) (h : (curB 500000000000000000 cc ca cs && (decide (0 ≤ n) && decide (n ≤ 1000))) = true) : ∃ (y : List T_Piece) (a : Int) (s : Int), (((∀ d ∈ y, fitB d = true) ∧ ((y.length : Nat) : Int) ≤ n + 27) ∧ 0 ≤ a ∧ a ≤ ca + (140 + 37 * n) ∧ 0 ≤ s ∧ s < 65536) ∧ ∀ k, B_s_l01Cur_badChunks cc ca cs n k = k y a s :=
  ⟨(g_s_l01Cur_badChunks cc ca cs n).1, (g_s_l01Cur_badChunks cc ca cs n).2.1, (g_s_l01Cur_badChunks cc ca cs n).2.2, (gs_s_l01Cur_badChunks cc ca cs n h).1, fun k => by unfold B_s_l01Cur_badChunks; rw [h]; rfl⟩
def SB_s_l01Cur_badChunks (B : (List Int) → (Int) → (Int) → (Int) → ((List T_Piece) → (Int) → (Int) → Option Ret) → Option Ret) : Sm := S_B [.sh (.io (.cons (.l .no bytesR) (.cons (.int .i64) (.cons (.int .i64) .nil)))), .i] (fun d K => B d.1.1 d.1.2.1 d.1.2.2.1 d.2.1 (fun y a s => K (.l .no pieceR y, [.io [.l .no bytesR d.1.1, .s (.int .i64 a), .s (.int .i64 s)]])))
theorem okS_s_l01Cur_badChunks : OkFn prog I N.s_l01Cur_badChunks false (SB_s_l01Cur_badChunks B_s_l01Cur_badChunks) := okN (OkFn.no (ok_fn (fresh := false) (memc okS_s_l01Cur_chunks (memc okS_s_l01Cur_pick (memc okS_s_l01Cur_badText mem0))) (l := ls_s_l01Cur_badChunks) (p := []) (ls := [(7, [0,5,6,11], [4,5,11], W_s_l01Cur_badChunks_7)]) (lend := []) (focus := false) (fuel := 0) (give := []) (fn := F.s_l01Cur_badChunks) (by kernel_rfl) (by kernel_rfl) (by kernel_rfl) (by kernel_rfl) (cs := [bodyOf F.s_l01Cur_badChunks 7]) (by kernel_rfl) (loopsc loopK_s_l01Cur_badChunks_7 loops0))) (S_B_of fun d K q hq => by
  refine (e_s_l01Cur_badChunks d.1.1 d.1.2.1 d.1.2.2.1 d.2.1 (noK K)).trans ?_
  unfold B_s_l01Cur_badChunks at hq
  cases hp : (curB 500000000000000000 d.1.1 d.1.2.1 d.1.2.2.1 && (decide (0 ≤ d.2.1) && decide (d.2.1 ≤ 1000))) with
  | false => rw [hp] at hq; cases hq
  | true =>
    rw [hp] at hq
    exact ((gs_s_l01Cur_badChunks d.1.1 d.1.2.1 d.1.2.2.1 d.2.1 hp).2 K).trans hq)
end Go.Ev.Seat
end
section
/- s_l01Cur_rope: its contract. -/
namespace Go.Ev.Seat
open Go.RowKit
set_option maxRecDepth 100000
set_option linter.unusedVariables false
set_option linter.unusedSimpArgs false
noncomputable abbrev ls_s_l01Cur_rope : List (Nat × Bool × Sm) := [(N.s_l01Cur_chunks, false, (SB_s_l01Cur_chunks B_s_l01Cur_chunks)), (N.s_l01Cur_once, false, (SB_s_l01Cur_once B_s_l01Cur_once)), (N.s_l01Cur_text, false, (SB_s_l01Cur_text B_s_l01Cur_text)), (N.s_RopeOf, true, S_s_RopeOf), (N.s_l01Cur_badChunks, false, (SB_s_l01Cur_badChunks B_s_l01Cur_badChunks))]
noncomputable abbrev E_s_l01Cur_rope : Env := En ls_s_l01Cur_rope [] [] [] false 0 []
noncomputable def T_s_l01Cur_rope (cc : List Int) (ca : Int) (cs : Int) (K : Ret → Option Ret) : Option Ret := (B_s_l01Cur_chunks cc ca cs (6 : Int) (fun y0 y1 y2 => (B_s_l01Cur_once cc y1 y2 (3 : Int) (fun y3 y4 y5 => (bif y3 then (B_s_l01Cur_text cc y4 y5 (60 : Int) (fun y6 y7 y8 => (bif (fitB y6) then (B_s_l01Cur_once cc y7 y8 (12 : Int) (fun y9 y10 y11 => (bif y9 then (B_s_l01Cur_badChunks cc y10 y11 (6 : Int) (fun y12 y13 y14 => K ((.a [(.l .no pieceR y12)]), [(.io [(.l .no bytesR cc), (.s (.int .i64 y13)), (.s (.int .i64 y14))])]))) else K ((.a [(.l .deep pieceR (bif (textOk y6) then (chunksL y6) else []))]), [(.io [(.l .no bytesR cc), (.s (.int .i64 y10)), (.s (.int .i64 y11))])])))) else none))) else (B_s_l01Cur_once cc y4 y5 (12 : Int) (fun y15 y16 y17 => (bif y15 then (B_s_l01Cur_badChunks cc y16 y17 (6 : Int) (fun y18 y19 y20 => K ((.a [(.l .no pieceR y18)]), [(.io [(.l .no bytesR cc), (.s (.int .i64 y19)), (.s (.int .i64 y20))])]))) else K ((.a [(.l .deep pieceR y0)]), [(.io [(.l .no bytesR cc), (.s (.int .i64 y16)), (.s (.int .i64 y17))])])))))))))
theorem e_s_l01Cur_rope (cc : List Int) (ca : Int) (cs : Int) (K : Ret → Option Ret) : evF E_s_l01Cur_rope false F.s_l01Cur_rope [.io [.l .no bytesR cc, .s (.int .i64 ca), .s (.int .i64 cs)]] K = T_s_l01Cur_rope cc ca cs K := by kernel_rfl
theorem x_s_l01Cur_rope (cc : List Int) (ca : Int) (cs : Int) (h : (curB 200000000000000000 cc ca cs) = true) : ∃ (y : List T_Piece) (a : Int) (s : Int), (((∀ d ∈ y, fitB d = true) ∧ y.length ≤ 500) ∧ 0 ≤ a ∧ a ≤ ca + 1000 ∧ 0 ≤ s ∧ s < 65536) ∧ ∀ K : Ret → Option Ret, T_s_l01Cur_rope cc ca cs (noK K) = K (.a [.l .no pieceR y], [.io [.l .no bytesR cc, .s (.int .i64 a), .s (.int .i64 s)]]) := by
  suffices hd : Dr (fun r : Ret => ∃ (y : List T_Piece) (a : Int) (s : Int), (((∀ d ∈ y, fitB d = true) ∧ y.length ≤ 500) ∧ 0 ≤ a ∧ a ≤ ca + 1000 ∧ 0 ≤ s ∧ s < 65536) ∧ r = (.a [.l .no pieceR y], [.io [.l .no bytesR cc, .s (.int .i64 a), .s (.int .i64 s)]])) (fun K : Ret → Option Ret => T_s_l01Cur_rope cc ca cs (noK K)) by
    obtain ⟨_, ⟨y, a, s, hp, rfl⟩, hk⟩ := hd
    exact ⟨y, a, s, hp, hk⟩
  obtain ⟨hf, h2, h3, h4, h5⟩ := curB_iff.1 h
  have hl := fitB_len hf
  unfold T_s_l01Cur_rope
  refine Dr.b3 (b_s_l01Cur_chunks _ _ _ _ ((Bool.and_eq_true _ _).mpr ⟨(curB_iff.2 ⟨hf, by omega, by omega, by omega, by omega⟩), by rfl⟩)) (fun y0 a0 s0 h0 => ?_)
  obtain ⟨⟨hq1, hq2⟩, hq3⟩ := h0
  refine Dr.b3 (b_s_l01Cur_once _ _ _ _ (curB_iff.2 ⟨hf, by omega, by omega, by omega, by omega⟩)) (fun y1 a1 s1 h1 => ?_)
  refine Dr.bif (fun _ => ?_) (fun _ => ?_)
  · refine Dr.b3 (b_s_l01Cur_text _ _ _ _ ((Bool.and_eq_true _ _).mpr ⟨(curB_iff.2 ⟨hf, by omega, by omega, by omega, by omega⟩), by rfl⟩)) (fun y2 a2 s2 h2 => ?_)
    obtain ⟨⟨hz1, hz2⟩, hz3⟩ := h2
    refine Dr.must hz1 ?_
    refine Dr.b3 (b_s_l01Cur_once _ _ _ _ (curB_iff.2 ⟨hf, by omega, by omega, by omega, by omega⟩)) (fun y3 a3 s3 h3 => ?_)
    refine Dr.bif (fun _ => ?_) (fun _ => ?_)
    · refine Dr.b3 (b_s_l01Cur_badChunks _ _ _ _ ((Bool.and_eq_true _ _).mpr ⟨(curB_iff.2 ⟨hf, by omega, by omega, by omega, by omega⟩), by rfl⟩)) (fun y4 a4 s4 h4 => ?_)
      exact Dr.leafN ⟨_, _, _, ⟨⟨h4.1.1, by omega⟩, by omega, by omega, by omega, by omega⟩, rfl⟩ rfl
    · exact Dr.leafN ⟨_, _, _, ⟨⟨(chunksOf_fit hz1).1, Nat.le_trans (chunksOf_fit hz1).2 (by omega)⟩, by omega, by omega, by omega, by omega⟩, rfl⟩ rfl
  · refine Dr.b3 (b_s_l01Cur_once _ _ _ _ (curB_iff.2 ⟨hf, by omega, by omega, by omega, by omega⟩)) (fun y3 a3 s3 h3 => ?_)
    refine Dr.bif (fun _ => ?_) (fun _ => ?_)
    · refine Dr.b3 (b_s_l01Cur_badChunks _ _ _ _ ((Bool.and_eq_true _ _).mpr ⟨(curB_iff.2 ⟨hf, by omega, by omega, by omega, by omega⟩), by rfl⟩)) (fun y4 a4 s4 h4 => ?_)
      exact Dr.leafN ⟨_, _, _, ⟨⟨h4.1.1, by omega⟩, by omega, by omega, by omega, by omega⟩, rfl⟩ rfl
    · exact Dr.leafN ⟨_, _, _, ⟨⟨hq1, by omega⟩, by omega, by omega, by omega, by omega⟩, rfl⟩ rfl
noncomputable def g_s_l01Cur_rope (cc : List Int) (ca : Int) (cs : Int) : List T_Piece × Int × Int := Classical.epsilon fun g => (((∀ d ∈ (g).1, fitB d = true) ∧ (g).1.length ≤ 500) ∧ 0 ≤ (g).2.1 ∧ (g).2.1 ≤ ca + 1000 ∧ 0 ≤ (g).2.2 ∧ (g).2.2 < 65536) ∧ ∀ K : Ret → Option Ret, T_s_l01Cur_rope cc ca cs (noK K) = K (.a [.l .no pieceR (g).1], [.io [.l .no bytesR cc, .s (.int .i64 (g).2.1), .s (.int .i64 (g).2.2)]])
theorem gs_s_l01Cur_rope (cc : List Int) (ca : Int) (cs : Int) (h : (curB 200000000000000000 cc ca cs) = true) : (((∀ d ∈ (g_s_l01Cur_rope cc ca cs).1, fitB d = true) ∧ (g_s_l01Cur_rope cc ca cs).1.length ≤ 500) ∧ 0 ≤ (g_s_l01Cur_rope cc ca cs).2.1 ∧ (g_s_l01Cur_rope cc ca cs).2.1 ≤ ca + 1000 ∧ 0 ≤ (g_s_l01Cur_rope cc ca cs).2.2 ∧ (g_s_l01Cur_rope cc ca cs).2.2 < 65536) ∧ ∀ K : Ret → Option Ret, T_s_l01Cur_rope cc ca cs (noK K) = K (.a [.l .no pieceR (g_s_l01Cur_rope cc ca cs).1], [.io [.l .no bytesR cc, .s (.int .i64 (g_s_l01Cur_rope cc ca cs).2.1), .s (.int .i64 (g_s_l01Cur_rope cc ca cs).2.2)]]) := by
  obtain ⟨y, a, s, hy, hk⟩ := x_s_l01Cur_rope cc ca cs h
  exact Classical.epsilon_spec (p := fun g : List T_Piece × Int × Int => (((∀ d ∈ (g).1, fitB d = true) ∧ (g).1.length ≤ 500) ∧ 0 ≤ (g).2.1 ∧ (g).2.1 ≤ ca + 1000 ∧ 0 ≤ (g).2.2 ∧ (g).2.2 < 65536) ∧ ∀ K : Ret → Option Ret, T_s_l01Cur_rope cc ca cs (noK K) = K (.a [.l .no pieceR (g).1], [.io [.l .no bytesR cc, .s (.int .i64 (g).2.1), .s (.int .i64 (g).2.2)]])) ⟨⟨y, a, s⟩, hy, hk⟩
noncomputable def B_s_l01Cur_rope (cc : List Int) (ca : Int) (cs : Int) (k : (List T_Piece) → (Int) → (Int) → Option Ret) : Option Ret := bif curB 200000000000000000 cc ca cs then k (g_s_l01Cur_rope cc ca cs).1 (g_s_l01Cur_rope cc ca cs).2.1 (g_s_l01Cur_rope cc ca cs).2.2 else none
theorem b_s_l01Cur_rope (cc : List Int) (ca : Int) (cs : Int) (h : (curB 200000000000000000 cc ca cs) = true) : ∃ (y : List T_Piece) (a : Int) (s : Int), (((∀ d ∈ y, fitB d = true) ∧ y.length ≤ 500) ∧ 0 ≤ a ∧ a ≤ ca + 1000 ∧ 0 ≤ s ∧ s < 65536) ∧ ∀ k, B_s_l01Cur_rope cc ca cs k = k y a s :=
  ⟨(g_s_l01Cur_rope cc ca cs).1, (g_s_l01Cur_rope cc ca cs).2.1, (g_s_l01Cur_rope cc ca cs).2.2, (gs_s_l01Cur_rope cc ca cs h).1, fun k => by unfold B_s_l01Cur_rope; rw [h]; rfl⟩
def SB_s_l01Cur_rope (B : (List Int) → (Int) → (Int) → ((List T_Piece) → (Int) → (Int) → Option Ret) → Option Ret) : Sm := S_B [.sh (.io (.cons (.l .no bytesR) (.cons (.int .i64) (.cons (.int .i64) .nil))))] (fun d K => B d.1.1 d.1.2.1 d.1.2.2.1 (fun y a s => K (.a [.l .no pieceR y], [.io [.l .no bytesR d.1.1, .s (.int .i64 a), .s (.int .i64 s)]])))
theorem okS_s_l01Cur_rope : OkFn prog I N.s_l01Cur_rope false (SB_s_l01Cur_rope B_s_l01Cur_rope) := okN (OkFn.no (ok_fn (fresh := false) (memc okS_s_l01Cur_chunks (memc okS_s_l01Cur_once (memc okS_s_l01Cur_text (memc okS_s_RopeOf (memc okS_s_l01Cur_badChunks mem0))))) (l := ls_s_l01Cur_rope) (p := []) (ls := []) (lend := []) (focus := false) (fuel := 0) (give := []) (fn := F.s_l01Cur_rope) (by kernel_rfl) (by kernel_rfl) (by kernel_rfl) (by kernel_rfl) (cs := []) (by kernel_rfl) loops0)) (S_B_of fun d K q hq => by
  refine (e_s_l01Cur_rope d.1.1 d.1.2.1 d.1.2.2.1 (noK K)).trans ?_
  unfold B_s_l01Cur_rope at hq
  cases hp : (curB 200000000000000000 d.1.1 d.1.2.1 d.1.2.2.1) with
  | false => rw [hp] at hq; cases hq
  | true =>
    rw [hp] at hq
    exact ((gs_s_l01Cur_rope d.1.1 d.1.2.1 d.1.2.2.1 hp).2 K).trans hq)
end Go.Ev.Seat
end
section
/- s_ChunkOk: its contract. -/
namespace Go.Ev.Seat
open Go.RowKit
set_option maxRecDepth 100000
set_option linter.unusedVariables false
set_option linter.unusedSimpArgs false
noncomputable abbrev ls_s_ChunkOk : List (Nat × Bool × Sm) := [(N.s_TextOk, true, S_s_TextOk)]
noncomputable abbrev E_s_ChunkOk : Env := En ls_s_ChunkOk [] [] [] false 0 []
noncomputable def T_s_ChunkOk (d : T_Chunk) (K : Ret → Option Ret) : Option Ret := (bif (decide ((((List.length d) : Nat) : Int) ≥ (1 : Int))) then (bif (decide ((((List.length d) : Nat) : Int) ≤ (16 : Int))) then (bif (fitB d) then K ((.s (.bool (textOk d))), []) else none) else K ((.s (.bool false)), [])) else K ((.s (.bool false)), []))
theorem e_s_ChunkOk (d : T_Chunk) (K : Ret → Option Ret) : evF E_s_ChunkOk true F.s_ChunkOk [.a (chunkR.cells .no d)] K = T_s_ChunkOk d K := by kernel_rfl
def S_s_ChunkOk : Sm := S_fnR [.a chunkR] (fun d => fitB d.1) (fun d => (bl (chunkOkD d.1), []))
theorem v_s_ChunkOk (d : T_Chunk) (h : (fitB d) = true) (K : Ret → Option Ret) : T_s_ChunkOk d K = K (bl (chunkOkD d), []) := by
  unfold T_s_ChunkOk chunkOkD
  rw [h, show decide (((d.length : Nat) : Int) ≥ 1) = decide (1 ≤ ((d.length : Nat) : Int)) from rfl]
  cases decide (1 ≤ ((d.length : Nat) : Int)) <;> cases decide (((d.length : Nat) : Int) ≤ 16) <;> rfl
theorem okS_s_ChunkOk : OkFn prog I N.s_ChunkOk true S_s_ChunkOk := okN (ok_fn (memc okS_s_TextOk mem0) (l := ls_s_ChunkOk) (p := []) (ls := []) (lend := []) (focus := false) (fuel := 0) (give := []) (fn := F.s_ChunkOk) (by kernel_rfl) (by kernel_rfl) (by kernel_rfl) (by kernel_rfl) (cs := []) (by kernel_rfl) loops0) (S_fnR_of fun d K h => (e_s_ChunkOk d.1 K).trans (v_s_ChunkOk d.1 h K))
end Go.Ev.Seat
end
section
/- s_ChunksOk: its contract. -/
namespace Go.Ev.Seat
open Go.RowKit
set_option maxRecDepth 100000
set_option linter.unusedVariables false
set_option linter.unusedSimpArgs false
def z_s_ChunksOk_3_0 (x2 : Bool) : St := { tm := ([.x, .x, (.s (.bool x2))] ++ List.replicate 24 .x), ob := [], nx := 0, io := [] }
def z_s_ChunksOk_3_1 : St := { tm := ([] ++ List.replicate 27 .x), ob := [], nx := 0, io := [] }
def sh_s_ChunksOk_3_0 : Ss := { tm := (.cons (.l .no pieceR) (.cons (.x) (.cons (.x) (.cons (.int .i64) (.cons (.int .i64) (xsh 22)))))), ob := .nil, nx := 0, io := .nil }
def d_s_ChunksOk_3_0 (x0 : List T_Piece) (x3 : Int) (x4 : Int) : sh_s_ChunksOk_3_0.T := ((x0, ((), ((), (x3, (x4, xd 22))))), (), ())
def s_s_ChunksOk_3_0 (x0 : List T_Piece) (x3 : Int) (x4 : Int) : St := { tm := ([(.l .no pieceR x0), .x, .x, (.s (.int .i64 x3)), (.s (.int .i64 x4))] ++ List.replicate 22 .x), ob := [], nx := 0, io := [] }
theorem se_s_ChunksOk_3_0 (x0 : List T_Piece) (x3 : Int) (x4 : Int) : sh_s_ChunksOk_3_0.mk' (d_s_ChunksOk_3_0 x0 x3 x4) = (s_s_ChunksOk_3_0 x0 x3 x4) := by kernel_rfl
def w_s_ChunksOk_3_0 (d : sh_s_ChunksOk_3_0.T) (f : (List T_Piece) → Int → Int → Option Ret) : Option Ret := match d with | ((x0, (_, (_, (x3, (x4, _))))), _, _) => f x0 x3 x4
noncomputable def P_s_ChunksOk_3_0 (x0 : List T_Piece) (x3 : Int) (x4 : Int) (nx0 : (List T_Piece) → Int → Int → Option Ret) (k0 : Bool → Option Ret) (k1 : Option Ret) : Option Ret := (bif (decide (x4 < (((List.length x0) : Nat) : Int))) then (bif ((decide ((0 : Int) ≤ x4)) && (decide (x4 < (((List.length x0) : Nat) : Int)))) then (bif (fitB (List.getD x0 (Int.toNat x4) (pieceR.dflt))) then (bif (!(chunkOkD (List.getD x0 (Int.toNat x4) (pieceR.dflt)))) then (k0 false) else (bif ((decide ((0 : Int) ≤ x4)) && (decide (x4 < (((List.length x0) : Nat) : Int)))) then (bif (decide ((IntKind.wrap .i64 (x3 + (((List.length (List.getD x0 (Int.toNat x4) (pieceR.dflt))) : Nat) : Int))) > (400 : Int))) then (k0 false) else (nx0 x0 (IntKind.wrap .i64 (x3 + (((List.length (List.getD x0 (Int.toNat x4) (pieceR.dflt))) : Nat) : Int))) (IntKind.wrap .i64 (x4 + (1 : Int))))) else none)) else none) else none) else k1)
noncomputable def Q_s_ChunksOk_3_0 : Nat → (List T_Piece) → Int → Int → (Bool → Option Ret) → (Option Ret) → Option Ret
  | 0, _, _, _, _, _ => none
  | m + 1, x0, x3, x4, k0, k1 => P_s_ChunksOk_3_0 x0 x3 x4 (fun x0 x3 x4 => (Q_s_ChunksOk_3_0 m x0 x3 x4 k0 k1)) k0 k1
noncomputable def R_s_ChunksOk_3_0 (x0 : List T_Piece) (x3 : Int) (x4 : Int) (k0 : Bool → Option Ret) (k1 : Option Ret) : Option Ret := Q_s_ChunksOk_3_0 (List.length x0 + x3.toNat + x4.toNat + 2) x0 x3 x4 k0 k1
noncomputable def W_s_ChunksOk_3 : LoopFn := (fun (σ : St) (K : Ex → St → Option Ret) => (match sh_s_ChunksOk_3_0.un σ with | some d => w_s_ChunksOk_3_0 d (fun x0 x3 x4 => R_s_ChunksOk_3_0 x0 x3 x4 (fun x2 => (K .ret (z_s_ChunksOk_3_0 x2))) (K (.ext 0) z_s_ChunksOk_3_1)) | none => none))
noncomputable abbrev ls_s_ChunksOk : List (Nat × Bool × Sm) := [(N.s_ChunkOk, true, S_s_ChunkOk)]
noncomputable abbrev E_s_ChunksOk : Env := En ls_s_ChunksOk [] [(3, [0,3,4], [2], W_s_ChunksOk_3)] [] false 0 []
noncomputable abbrev U_s_ChunksOk_3 := rounds (run E_s_ChunksOk (bodyOf F.s_ChunksOk 3)) [0,3,4] [2]
theorem st_s_ChunksOk_3_0 (m : Nat) (x0 : List T_Piece) (x3 : Int) (x4 : Int) (K : Ex → St → Option Ret) : U_s_ChunksOk_3 (m + 1) (s_s_ChunksOk_3_0 x0 x3 x4) K = P_s_ChunksOk_3_0 x0 x3 x4 (fun x0 x3 x4 => (U_s_ChunksOk_3 m (s_s_ChunksOk_3_0 x0 x3 x4) K)) (fun x2 => (K .ret (z_s_ChunksOk_3_0 x2))) (K (.ext 0) z_s_ChunksOk_3_1) := by kernel_rfl
theorem q_s_ChunksOk_3 (K : Ex → St → Option Ret) : ∀ m : Nat, (∀ (x0 : List T_Piece) (x3 : Int) (x4 : Int), U_s_ChunksOk_3 m (s_s_ChunksOk_3_0 x0 x3 x4) K = Q_s_ChunksOk_3_0 m x0 x3 x4 (fun x2 => (K .ret (z_s_ChunksOk_3_0 x2))) (K (.ext 0) z_s_ChunksOk_3_1))
  | 0 => (fun _ _ _ => rfl)
  | m + 1 => (fun x0 x3 x4 => (by rw [st_s_ChunksOk_3_0, show (fun x0 x3 x4 => (U_s_ChunksOk_3 m (s_s_ChunksOk_3_0 x0 x3 x4) K)) = (fun x0 x3 x4 => (Q_s_ChunksOk_3_0 m x0 x3 x4 (fun x2 => (K .ret (z_s_ChunksOk_3_0 x2))) (K (.ext 0) z_s_ChunksOk_3_1))) from funext fun x0 => funext fun x3 => funext fun x4 => (q_s_ChunksOk_3 K m) x0 x3 x4]; rfl))
theorem loopK_s_ChunksOk_3 : LoopOk E_s_ChunksOk (bodyOf F.s_ChunksOk 3) := by
  refine loopW_ok (n := 3) (F := W_s_ChunksOk_3) (by kernel_rfl) rfl (li := [0,3,4]) (lo := [2]) rfl (fun σ K r hr => ?_)
  unfold W_s_ChunksOk_3 at hr
  split at hr
  · rename_i d hd
    rw [Ss.un_mk hd]
    exact ⟨_, ((congrArg (fun z => U_s_ChunksOk_3 _ z K) (se_s_ChunksOk_3_0 _ _ _)).trans ((q_s_ChunksOk_3 K _) _ _ _)).trans hr⟩
  · cases hr
noncomputable def T_s_ChunksOk (l : List T_Chunk) (K : Ret → Option Ret) : Option Ret := (R_s_ChunksOk_3_0 l (0 : Int) (0 : Int) (fun y0 => K ((.s (.bool y0)), [])) (K ((.s (.bool true)), [])))
theorem e_s_ChunksOk (l : List T_Chunk) (K : Ret → Option Ret) : evF E_s_ChunksOk true F.s_ChunksOk [.l .no chunkR l] K = T_s_ChunksOk l K := by kernel_rfl
def S_s_ChunksOk : Sm := S_fnR [.l chunkR] (fun d => fitC (.sl chunkR) d.1) (fun d => (bl (chunksOkD d.1), []))
theorem v_s_ChunksOk (l : List T_Chunk) (h : (fitC (.sl chunkR) l) = true) (K : Ret → Option Ret) : T_s_ChunksOk l K = K (bl (chunksOkD l), []) := by
  have hl := fitC_len h
  unfold T_s_ChunksOk chunksOkD
  have q : ∀ (m i n : Nat), n ≤ 400 → i ≤ l.length → l.length - i < m → Q_s_ChunksOk_3_0 m l ((n : Nat) : Int) ((i : Nat) : Int) (fun y0 => K ((.s (.bool y0)), [])) (K ((.s (.bool true)), [])) = K (bl (chunksOkL (l.drop i) n), []) := by
    intro m
    induction m with
    | zero => intro i n _ _ hm; omega
    | succ m ih =>
      intro i n hn hi hm
      show P_s_ChunksOk_3_0 l ((n : Nat) : Int) ((i : Nat) : Int) _ _ _ = _
      unfold P_s_ChunksOk_3_0
      by_cases hlt : i < l.length
      · have hg : l.getD i (pieceR.dflt) = l[i] := getD_lt _ hlt
        have hf : fitB l[i] = true := fitB_fit (fitC_mem (r := chunkR) h (List.getElem_mem hlt))
        have hd : l.drop i = l[i] :: l.drop (i + 1) := (List.getElem_cons_drop hlt).symm
        rw [decide_eq_true (show ((i : Nat) : Int) < ((l.length : Nat) : Int) by omega), decide_eq_true (show (0 : Int) ≤ ((i : Nat) : Int) by omega), Int.toNat_natCast, wrap_nat (by omega), hg, hf, hd]
        cases he : chunkOkD l[i] with
        | false => simp only [chunksOkL, he]; rfl
        | true =>
          have hk := chunkOkD_len he
          have e1 : ((n : Nat) : Int) + ((l[i].length : Nat) : Int) = ((n + l[i].length : Nat) : Int) := by omega
          rw [wrap_in (n := ((n : Nat) : Int) + ((l[i].length : Nat) : Int)) (by omega) (by omega), e1]
          simp only [chunksOkL, he]
          by_cases h4 : ((n + l[i].length : Nat) : Int) > 400
          · rw [decide_eq_true h4]; rfl
          · rw [decide_eq_false h4]
            exact ih (i + 1) (n + l[i].length) (by omega) (by omega) (by omega)
      · obtain rfl : i = l.length := by omega
        rw [decide_eq_false (show ¬ ((l.length : Nat) : Int) < ((l.length : Nat) : Int) by omega), List.drop_length]; rfl
  refine Eq.trans (q _ 0 0 (by omega) (by omega) (by omega)) ?_
  rw [List.drop_zero]
theorem okS_s_ChunksOk : OkFn prog I N.s_ChunksOk true S_s_ChunksOk := okN (ok_fn (memc okS_s_ChunkOk mem0) (l := ls_s_ChunksOk) (p := []) (ls := [(3, [0,3,4], [2], W_s_ChunksOk_3)]) (lend := []) (focus := false) (fuel := 0) (give := []) (fn := F.s_ChunksOk) (by kernel_rfl) (by kernel_rfl) (by kernel_rfl) (by kernel_rfl) (cs := [bodyOf F.s_ChunksOk 3]) (by kernel_rfl) (loopsc loopK_s_ChunksOk_3 loops0)) (S_fnR_of fun d K h => (e_s_ChunksOk d.1 K).trans (v_s_ChunksOk d.1 h K))
end Go.Ev.Seat
end
section
/- s_ChunksText: its contract. -/
namespace Go.Ev.Seat
open Go.RowKit
set_option maxRecDepth 100000
set_option linter.unusedVariables false
set_option linter.unusedSimpArgs false
def z_s_ChunksText_3_0 (o0 : List Int) : St := { tm := ([.x, .x, .x, (.w 0)] ++ List.replicate 20 .x), ob := [(0, (.arr true true bytesR o0))], nx := 1, io := [] }
def sh_s_ChunksText_3_0 : Ss := { tm := (.cons (.l .no pieceR) (.cons (.x) (.cons (.x) (.cons (.w 0) (.cons (.int .i64) (xsh 19)))))), ob := (.arr true true bytesR .nil), nx := 1, io := .nil }
def d_s_ChunksText_3_0 (x0 : List T_Piece) (x4 : Int) (o0 : List Int) : sh_s_ChunksText_3_0.T := ((x0, ((), ((), ((), (x4, xd 19))))), (o0, ()), ())
def s_s_ChunksText_3_0 (x0 : List T_Piece) (x4 : Int) (o0 : List Int) : St := { tm := ([(.l .no pieceR x0), .x, .x, (.w 0), (.s (.int .i64 x4))] ++ List.replicate 19 .x), ob := [(0, (.arr true true bytesR o0))], nx := 1, io := [] }
theorem se_s_ChunksText_3_0 (x0 : List T_Piece) (x4 : Int) (o0 : List Int) : sh_s_ChunksText_3_0.mk' (d_s_ChunksText_3_0 x0 x4 o0) = (s_s_ChunksText_3_0 x0 x4 o0) := by kernel_rfl
def w_s_ChunksText_3_0 (d : sh_s_ChunksText_3_0.T) (f : (List T_Piece) → Int → (List Int) → Option Ret) : Option Ret := match d with | ((x0, (_, (_, (_, (x4, _))))), (o0, _), _) => f x0 x4 o0
noncomputable def P_s_ChunksText_3_0 (x0 : List T_Piece) (x4 : Int) (o0 : List Int) (nx0 : (List T_Piece) → Int → (List Int) → Option Ret) (k0 : (List Int) → Option Ret) : Option Ret := (bif (fitC (Cc.sl chunkR) x0) then (bif (chunksOkD x0) then (bif (decide (x4 < (((List.length x0) : Nat) : Int))) then (bif ((decide ((0 : Int) ≤ x4)) && (decide (x4 < (((List.length x0) : Nat) : Int)))) then (bif (Nat.ble (((List.length o0) + (List.length (List.getD x0 (Int.toNat x4) (pieceR.dflt)))) * 1) 140737488355328) then (nx0 x0 (IntKind.wrap .i64 (x4 + (1 : Int))) (o0 ++ (List.getD x0 (Int.toNat x4) (pieceR.dflt)))) else none) else none) else (k0 o0)) else (k0 o0)) else none)
noncomputable def Q_s_ChunksText_3_0 : Nat → (List T_Piece) → Int → (List Int) → ((List Int) → Option Ret) → Option Ret
  | 0, _, _, _, _ => none
  | m + 1, x0, x4, o0, k0 => P_s_ChunksText_3_0 x0 x4 o0 (fun x0 x4 o0 => (Q_s_ChunksText_3_0 m x0 x4 o0 k0)) k0
noncomputable def R_s_ChunksText_3_0 (x0 : List T_Piece) (x4 : Int) (o0 : List Int) (k0 : (List Int) → Option Ret) : Option Ret := Q_s_ChunksText_3_0 (List.length x0 + x4.toNat + List.length o0 + 2) x0 x4 o0 k0
noncomputable def W_s_ChunksText_3 : LoopFn := (fun (σ : St) (K : Ex → St → Option Ret) => (match sh_s_ChunksText_3_0.un σ with | some d => w_s_ChunksText_3_0 d (fun x0 x4 o0 => R_s_ChunksText_3_0 x0 x4 o0 (fun o0 => (K (.ext 0) (z_s_ChunksText_3_0 o0)))) | none => none))
noncomputable abbrev ls_s_ChunksText : List (Nat × Bool × Sm) := [(N.s_ChunksOk, true, S_s_ChunksOk)]
noncomputable abbrev E_s_ChunksText : Env := En ls_s_ChunksText [] [(3, [0,3,4], [2,3], W_s_ChunksText_3)] [] false 0 []
noncomputable abbrev U_s_ChunksText_3 := rounds (run E_s_ChunksText (bodyOf F.s_ChunksText 3)) [0,3,4] [2,3]
theorem st_s_ChunksText_3_0 (m : Nat) (x0 : List T_Piece) (x4 : Int) (o0 : List Int) (K : Ex → St → Option Ret) : U_s_ChunksText_3 (m + 1) (s_s_ChunksText_3_0 x0 x4 o0) K = P_s_ChunksText_3_0 x0 x4 o0 (fun x0 x4 o0 => (U_s_ChunksText_3 m (s_s_ChunksText_3_0 x0 x4 o0) K)) (fun o0 => (K (.ext 0) (z_s_ChunksText_3_0 o0))) := by kernel_rfl
theorem q_s_ChunksText_3 (K : Ex → St → Option Ret) : ∀ m : Nat, (∀ (x0 : List T_Piece) (x4 : Int) (o0 : List Int), U_s_ChunksText_3 m (s_s_ChunksText_3_0 x0 x4 o0) K = Q_s_ChunksText_3_0 m x0 x4 o0 (fun o0 => (K (.ext 0) (z_s_ChunksText_3_0 o0))))
  | 0 => (fun _ _ _ => rfl)
  | m + 1 => (fun x0 x4 o0 => (by rw [st_s_ChunksText_3_0, show (fun x0 x4 o0 => (U_s_ChunksText_3 m (s_s_ChunksText_3_0 x0 x4 o0) K)) = (fun x0 x4 o0 => (Q_s_ChunksText_3_0 m x0 x4 o0 (fun o0 => (K (.ext 0) (z_s_ChunksText_3_0 o0))))) from funext fun x0 => funext fun x4 => funext fun o0 => (q_s_ChunksText_3 K m) x0 x4 o0]; rfl))
theorem loopK_s_ChunksText_3 : LoopOk E_s_ChunksText (bodyOf F.s_ChunksText 3) := by
  refine loopW_ok (n := 3) (F := W_s_ChunksText_3) (by kernel_rfl) rfl (li := [0,3,4]) (lo := [2,3]) rfl (fun σ K r hr => ?_)
  unfold W_s_ChunksText_3 at hr
  split at hr
  · rename_i d hd
    rw [Ss.un_mk hd]
    exact ⟨_, ((congrArg (fun z => U_s_ChunksText_3 _ z K) (se_s_ChunksText_3_0 _ _ _)).trans ((q_s_ChunksText_3 K _) _ _ _)).trans hr⟩
  · cases hr
noncomputable def T_s_ChunksText (l : List T_Chunk) (K : Ret → Option Ret) : Option Ret := (R_s_ChunksText_3_0 l (0 : Int) ([] : List Int) (fun y0 => K ((.l .deep bytesR y0), [])))
theorem e_s_ChunksText (l : List T_Chunk) (K : Ret → Option Ret) : evF E_s_ChunksText true F.s_ChunksText [.l .no chunkR l] K = T_s_ChunksText l K := by kernel_rfl
def S_s_ChunksText : Sm := S_fnR [.l chunkR] (fun d => fitC (.sl chunkR) d.1) (fun d => (.l .deep bytesR (chunksTextD d.1), []))
theorem v_s_ChunksText (l : List T_Chunk) (h : (fitC (.sl chunkR) l) = true) (K : Ret → Option Ret) : T_s_ChunksText l K = K (.l .deep bytesR (chunksTextD l), []) := by
  have hl := fitC_len h
  unfold T_s_ChunksText chunksTextD
  cases hk : chunksOkD l with
  | false =>
    have hq : ∀ (m : Nat) (k : List Int → Option Ret), Q_s_ChunksText_3_0 (m + 1) l 0 [] k = P_s_ChunksText_3_0 l 0 [] (fun a b c => Q_s_ChunksText_3_0 m a b c k) k := fun _ _ => rfl
    refine (hq (List.length l + (0 : Int).toNat + List.length ([] : List Int) + 1) _).trans ?_
    unfold P_s_ChunksText_3_0
    rw [h, hk]; rfl
  | true =>
    have hs := (chunksOkD_iff.1 hk).2
    have q : ∀ (m i : Nat), i ≤ l.length → l.length - i < m → Q_s_ChunksText_3_0 m l ((i : Nat) : Int) (l.take i).flatten (fun y0 => K ((.l .deep bytesR y0), [])) = K (.l .deep bytesR l.flatten, []) := by
      intro m
      induction m with
      | zero => intro i _ hm; omega
      | succ m ih =>
        intro i hi hm
        show P_s_ChunksText_3_0 l ((i : Nat) : Int) _ _ _ = _
        unfold P_s_ChunksText_3_0
        rw [h, hk]
        by_cases hlt : i < l.length
        · have h2 : (l.take i).flatten.length ≤ 400 := by
            rw [sumW_flat]
            exact Nat.le_trans sumW_take_le hs
          have h3 : (l.getD i []).length ≤ 400 := by
            rw [getD_lt [] hlt]
            have := chunkOkD_len ((chunksOkD_iff.1 hk).1 l[i] (List.getElem_mem hlt)); omega
          have hf2 : (l.take (i + 1)).flatten = (l.take i).flatten ++ l.getD i [] := flatten_take hlt
          rw [decide_eq_true (show ((i : Nat) : Int) < ((l.length : Nat) : Int) by omega), decide_eq_true (show (0 : Int) ≤ ((i : Nat) : Int) by omega), Int.toNat_natCast, wrap_nat (by omega), show l.getD i pieceR.dflt = l.getD i [] from rfl, Nat.ble_eq_true_of_le (by omega), ← hf2]
          exact ih (i + 1) (by omega) (by omega)
        · obtain rfl : i = l.length := by omega
          rw [decide_eq_false (show ¬ ((l.length : Nat) : Int) < ((l.length : Nat) : Int) by omega), List.take_length]; rfl
    exact q _ 0 (by omega) (by omega)
theorem okS_s_ChunksText : OkFn prog I N.s_ChunksText true S_s_ChunksText := okN (ok_fn (memc okS_s_ChunksOk mem0) (l := ls_s_ChunksText) (p := []) (ls := [(3, [0,3,4], [2,3], W_s_ChunksText_3)]) (lend := []) (focus := false) (fuel := 0) (give := []) (fn := F.s_ChunksText) (by kernel_rfl) (by kernel_rfl) (by kernel_rfl) (by kernel_rfl) (cs := [bodyOf F.s_ChunksText 3]) (by kernel_rfl) (loopsc loopK_s_ChunksText_3 loops0)) (S_fnR_of fun d K h => (e_s_ChunksText d.1 K).trans (v_s_ChunksText d.1 h K))
end Go.Ev.Seat
end
section
/- s_RopeText: its contract. -/
namespace Go.Ev.Seat
open Go.RowKit
set_option maxRecDepth 100000
set_option linter.unusedVariables false
set_option linter.unusedSimpArgs false
noncomputable abbrev ls_s_RopeText : List (Nat × Bool × Sm) := [(N.s_ChunksText, true, S_s_ChunksText)]
noncomputable abbrev E_s_RopeText : Env := En ls_s_RopeText [] [] [] false 0 []
noncomputable def T_s_RopeText (r : T_Rope) (K : Ret → Option Ret) : Option Ret := (bif (fitC (Cc.sl chunkR) r) then K ((.l .deep bytesR (chunksTextD r)), []) else none)
theorem e_s_RopeText (r : T_Rope) (K : Ret → Option Ret) : evF E_s_RopeText true F.s_RopeText [.a (ropeR.cells .no r)] K = T_s_RopeText r K := by kernel_rfl
def S_s_RopeText : Sm := S_fnR [.a ropeR] (fun d => fitC (.sl chunkR) d.1) (fun d => (.l .deep bytesR (chunksTextD d.1), []))
theorem v_s_RopeText (r : T_Rope) (h : (fitC (.sl chunkR) r) = true) (K : Ret → Option Ret) : T_s_RopeText r K = K (.l .deep bytesR (chunksTextD r), []) := by
  unfold T_s_RopeText
  rw [h]; rfl
theorem okS_s_RopeText : OkFn prog I N.s_RopeText true S_s_RopeText := okN (ok_fn (memc okS_s_ChunksText mem0) (l := ls_s_RopeText) (p := []) (ls := []) (lend := []) (focus := false) (fuel := 0) (give := []) (fn := F.s_RopeText) (by kernel_rfl) (by kernel_rfl) (by kernel_rfl) (by kernel_rfl) (cs := []) (by kernel_rfl) loops0) (S_fnR_of fun d K h => (e_s_RopeText d.1 K).trans (v_s_RopeText d.1 h K))
end Go.Ev.Seat
end
section
/- s_l01Cur_raw: its contract. -/
namespace Go.Ev.Seat
open Go.RowKit
set_option maxRecDepth 100000
set_option linter.unusedVariables false
set_option linter.unusedSimpArgs false
noncomputable abbrev ls_s_l01Cur_raw : List (Nat × Bool × Sm) := [(N.s_l01Cur_pick, false, (SB_s_l01Cur_pick B_s_l01Cur_pick))]
noncomputable abbrev E_s_l01Cur_raw : Env := En ls_s_l01Cur_raw [] [] [] false 0 []
noncomputable def T_s_l01Cur_raw (cc : List Int) (ca : Int) (cs : Int) (K : Ret → Option Ret) : Option Ret := (B_s_l01Cur_pick cc ca cs (8 : Int) (fun y0 y1 y2 => (bif (y0 == (0 : Int)) then (B_s_l01Cur_pick cc y1 y2 (256 : Int) (fun y3 y4 y5 => K ((.s (.int .i64 (IntKind.wrap .i64 (y3 - (128 : Int))))), [(.io [(.l .no bytesR cc), (.s (.int .i64 y4)), (.s (.int .i64 y5))])]))) else (bif (y0 == (1 : Int)) then (B_s_l01Cur_pick cc y1 y2 (8 : Int) (fun y6 y7 y8 => (bif ((decide ((0 : Int) ≤ y6)) && (decide (y6 < (((List.length ((9223372036854775807 : Int) :: ((-(9223372036854775808 : Int)) :: ((4611686018427387904 : Int) :: ((55296 : Int) :: ((57343 : Int) :: ((65536 : Int) :: ((1114111 : Int) :: ((1114112 : Int) :: ([] : List Int)))))))))) : Nat) : Int)))) then K ((.s (.int .i64 (List.getD ((9223372036854775807 : Int) :: ((-(9223372036854775808 : Int)) :: ((4611686018427387904 : Int) :: ((55296 : Int) :: ((57343 : Int) :: ((65536 : Int) :: ((1114111 : Int) :: ((1114112 : Int) :: ([] : List Int))))))))) (Int.toNat y6) (0 : Int)))), [(.io [(.l .no bytesR cc), (.s (.int .i64 y7)), (.s (.int .i64 y8))])]) else none))) else (B_s_l01Cur_pick cc y1 y2 (14 : Int) (fun y9 y10 y11 => K ((.s (.int .i64 (IntKind.wrap .i64 (y9 - (3 : Int))))), [(.io [(.l .no bytesR cc), (.s (.int .i64 y10)), (.s (.int .i64 y11))])])))))))
theorem e_s_l01Cur_raw (cc : List Int) (ca : Int) (cs : Int) (K : Ret → Option Ret) : evF E_s_l01Cur_raw false F.s_l01Cur_raw [.io [.l .no bytesR cc, .s (.int .i64 ca), .s (.int .i64 cs)]] K = T_s_l01Cur_raw cc ca cs K := by kernel_rfl
theorem x_s_l01Cur_raw (cc : List Int) (ca : Int) (cs : Int) (h : (curB 3000000000000000000 cc ca cs) = true) : ∃ (y : Int) (a : Int) (s : Int), ((-9223372036854775808 ≤ y ∧ y ≤ 9223372036854775807) ∧ 0 ≤ a ∧ a ≤ ca + 2 ∧ 0 ≤ s ∧ s < 65536) ∧ ∀ K : Ret → Option Ret, T_s_l01Cur_raw cc ca cs K = K (.s (.int .i64 y), [.io [.l .no bytesR cc, .s (.int .i64 a), .s (.int .i64 s)]]) := by
  suffices hd : Dr (fun r : Ret => ∃ (y : Int) (a : Int) (s : Int), ((-9223372036854775808 ≤ y ∧ y ≤ 9223372036854775807) ∧ 0 ≤ a ∧ a ≤ ca + 2 ∧ 0 ≤ s ∧ s < 65536) ∧ r = (.s (.int .i64 y), [.io [.l .no bytesR cc, .s (.int .i64 a), .s (.int .i64 s)]])) (fun K : Ret → Option Ret => T_s_l01Cur_raw cc ca cs K) by
    obtain ⟨_, ⟨y, a, s, hp, rfl⟩, hk⟩ := hd
    exact ⟨y, a, s, hp, hk⟩
  obtain ⟨hf, h2, h3, h4, h5⟩ := curB_iff.1 h
  have hl := fitB_len hf
  unfold T_s_l01Cur_raw
  repeat' first
    | exact Dr.leaf ⟨_, _, _, ⟨by first | omega | exact rng_get rfl, by omega, by omega, by omega, by omega⟩, rfl⟩
    | refine Dr.b3 (b_s_l01Cur_pick _ _ _ _ (curB_iff.2 ⟨hf, by omega, by omega, by omega, by omega⟩)) (fun _ _ _ hy => ?_)
    | refine Dr.meet ?_
    | simp (disch := omega) only [wrap_in]
    | refine Dr.must (by first | rfl | (simp only [List.length_cons, List.length_nil, BEq.rfl, Bool.true_and, Bool.and_eq_true, decide_eq_true_eq]; omega)) ?_
    | refine Dr.bif (fun hb => ?_) (fun hb => ?_)
noncomputable def g_s_l01Cur_raw (cc : List Int) (ca : Int) (cs : Int) : Int × Int × Int := Classical.epsilon fun g => ((-9223372036854775808 ≤ (g).1 ∧ (g).1 ≤ 9223372036854775807) ∧ 0 ≤ (g).2.1 ∧ (g).2.1 ≤ ca + 2 ∧ 0 ≤ (g).2.2 ∧ (g).2.2 < 65536) ∧ ∀ K : Ret → Option Ret, T_s_l01Cur_raw cc ca cs K = K (.s (.int .i64 (g).1), [.io [.l .no bytesR cc, .s (.int .i64 (g).2.1), .s (.int .i64 (g).2.2)]])
theorem gs_s_l01Cur_raw (cc : List Int) (ca : Int) (cs : Int) (h : (curB 3000000000000000000 cc ca cs) = true) : ((-9223372036854775808 ≤ (g_s_l01Cur_raw cc ca cs).1 ∧ (g_s_l01Cur_raw cc ca cs).1 ≤ 9223372036854775807) ∧ 0 ≤ (g_s_l01Cur_raw cc ca cs).2.1 ∧ (g_s_l01Cur_raw cc ca cs).2.1 ≤ ca + 2 ∧ 0 ≤ (g_s_l01Cur_raw cc ca cs).2.2 ∧ (g_s_l01Cur_raw cc ca cs).2.2 < 65536) ∧ ∀ K : Ret → Option Ret, T_s_l01Cur_raw cc ca cs K = K (.s (.int .i64 (g_s_l01Cur_raw cc ca cs).1), [.io [.l .no bytesR cc, .s (.int .i64 (g_s_l01Cur_raw cc ca cs).2.1), .s (.int .i64 (g_s_l01Cur_raw cc ca cs).2.2)]]) := by
  obtain ⟨y, a, s, hy, hk⟩ := x_s_l01Cur_raw cc ca cs h
  exact Classical.epsilon_spec (p := fun g : Int × Int × Int => ((-9223372036854775808 ≤ (g).1 ∧ (g).1 ≤ 9223372036854775807) ∧ 0 ≤ (g).2.1 ∧ (g).2.1 ≤ ca + 2 ∧ 0 ≤ (g).2.2 ∧ (g).2.2 < 65536) ∧ ∀ K : Ret → Option Ret, T_s_l01Cur_raw cc ca cs K = K (.s (.int .i64 (g).1), [.io [.l .no bytesR cc, .s (.int .i64 (g).2.1), .s (.int .i64 (g).2.2)]])) ⟨⟨y, a, s⟩, hy, hk⟩
noncomputable def B_s_l01Cur_raw (cc : List Int) (ca : Int) (cs : Int) (k : (Int) → (Int) → (Int) → Option Ret) : Option Ret := bif curB 3000000000000000000 cc ca cs then k (g_s_l01Cur_raw cc ca cs).1 (g_s_l01Cur_raw cc ca cs).2.1 (g_s_l01Cur_raw cc ca cs).2.2 else none
theorem b_s_l01Cur_raw (cc : List Int) (ca : Int) (cs : Int) (h : (curB 3000000000000000000 cc ca cs) = true) : ∃ (y : Int) (a : Int) (s : Int), ((-9223372036854775808 ≤ y ∧ y ≤ 9223372036854775807) ∧ 0 ≤ a ∧ a ≤ ca + 2 ∧ 0 ≤ s ∧ s < 65536) ∧ ∀ k, B_s_l01Cur_raw cc ca cs k = k y a s :=
  ⟨(g_s_l01Cur_raw cc ca cs).1, (g_s_l01Cur_raw cc ca cs).2.1, (g_s_l01Cur_raw cc ca cs).2.2, (gs_s_l01Cur_raw cc ca cs h).1, fun k => by unfold B_s_l01Cur_raw; rw [h]; rfl⟩
def SB_s_l01Cur_raw (B : (List Int) → (Int) → (Int) → ((Int) → (Int) → (Int) → Option Ret) → Option Ret) : Sm := S_B [.sh (.io (.cons (.l .no bytesR) (.cons (.int .i64) (.cons (.int .i64) .nil))))] (fun d K => B d.1.1 d.1.2.1 d.1.2.2.1 (fun y a s => K (.s (.int .i64 y), [.io [.l .no bytesR d.1.1, .s (.int .i64 a), .s (.int .i64 s)]])))
theorem okS_s_l01Cur_raw : OkFn prog I N.s_l01Cur_raw false (SB_s_l01Cur_raw B_s_l01Cur_raw) := okN (ok_fn (memc okS_s_l01Cur_pick mem0) (l := ls_s_l01Cur_raw) (p := []) (ls := []) (lend := []) (focus := false) (fuel := 0) (give := []) (fn := F.s_l01Cur_raw) (by kernel_rfl) (by kernel_rfl) (by kernel_rfl) (by kernel_rfl) (cs := []) (by kernel_rfl) loops0) (S_B_of fun d K q hq => by
  refine (e_s_l01Cur_raw d.1.1 d.1.2.1 d.1.2.2.1 K).trans ?_
  unfold B_s_l01Cur_raw at hq
  cases hp : (curB 3000000000000000000 d.1.1 d.1.2.1 d.1.2.2.1) with
  | false => rw [hp] at hq; cases hq
  | true =>
    rw [hp] at hq
    exact ((gs_s_l01Cur_raw d.1.1 d.1.2.1 d.1.2.2.1 hp).2 K).trans hq)
end Go.Ev.Seat
end
section
/- s_l01Cur_place: its contract. -/
namespace Go.Ev.Seat
open Go.RowKit
set_option maxRecDepth 100000
set_option linter.unusedVariables false
set_option linter.unusedSimpArgs false
noncomputable abbrev ls_s_l01Cur_place : List (Nat × Bool × Sm) := [(N.s_l01Cur_pick, false, (SB_s_l01Cur_pick B_s_l01Cur_pick)), (N.s_l01Cur_raw, false, (SB_s_l01Cur_raw B_s_l01Cur_raw))]
noncomputable abbrev E_s_l01Cur_place : Env := En ls_s_l01Cur_place [] [] [] false 0 []
noncomputable def T_s_l01Cur_place (cc : List Int) (ca : Int) (cs : Int) (n : Int) (K : Ret → Option Ret) : Option Ret := (B_s_l01Cur_pick cc ca cs (if (IntKind.wrap .i64 (n + (1 : Int))) > (1 : Int) then (IntKind.wrap .i64 (n + (1 : Int))) else (1 : Int)) (fun y0 y1 y2 => (B_s_l01Cur_pick cc y1 y2 (if (IntKind.wrap .i64 (n + (1 : Int))) > (1 : Int) then (IntKind.wrap .i64 (n + (1 : Int))) else (1 : Int)) (fun y3 y4 y5 => (B_s_l01Cur_raw cc y4 y5 (fun y6 y7 y8 => (B_s_l01Cur_pick cc y7 y8 (5 : Int) (fun y9 y10 y11 => (bif ((decide ((0 : Int) ≤ y9)) && (decide (y9 < (((List.length (y0 :: (y3 :: (n :: ((IntKind.wrap .i64 (n + (1 : Int))) :: (y6 :: ([] : List Int))))))) : Nat) : Int)))) then K ((.s (.int .i64 (List.getD (y0 :: (y3 :: (n :: ((IntKind.wrap .i64 (n + (1 : Int))) :: (y6 :: ([] : List Int)))))) (Int.toNat y9) (0 : Int)))), [(.io [(.l .no bytesR cc), (.s (.int .i64 y10)), (.s (.int .i64 y11))])]) else none)))))))))
theorem e_s_l01Cur_place (cc : List Int) (ca : Int) (cs : Int) (n : Int) (K : Ret → Option Ret) : evF E_s_l01Cur_place false F.s_l01Cur_place [.io [.l .no bytesR cc, .s (.int .i64 ca), .s (.int .i64 cs)], .s (.int .i64 n)] K = T_s_l01Cur_place cc ca cs n K := by kernel_rfl
theorem x_s_l01Cur_place (cc : List Int) (ca : Int) (cs : Int) (n : Int) (h : (curB 2000000000000000000 cc ca cs && (decide (0 ≤ n) && decide (n ≤ 1000))) = true) : ∃ (y : Int) (a : Int) (s : Int), ((-9223372036854775808 ≤ y ∧ y ≤ 9223372036854775807) ∧ 0 ≤ a ∧ a ≤ ca + 6 ∧ 0 ≤ s ∧ s < 65536) ∧ ∀ K : Ret → Option Ret, T_s_l01Cur_place cc ca cs n K = K (.s (.int .i64 y), [.io [.l .no bytesR cc, .s (.int .i64 a), .s (.int .i64 s)]]) := by
  suffices hd : Dr (fun r : Ret => ∃ (y : Int) (a : Int) (s : Int), ((-9223372036854775808 ≤ y ∧ y ≤ 9223372036854775807) ∧ 0 ≤ a ∧ a ≤ ca + 6 ∧ 0 ≤ s ∧ s < 65536) ∧ r = (.s (.int .i64 y), [.io [.l .no bytesR cc, .s (.int .i64 a), .s (.int .i64 s)]])) (fun K : Ret → Option Ret => T_s_l01Cur_place cc ca cs n K) by
    obtain ⟨_, ⟨y, a, s, hp, rfl⟩, hk⟩ := hd
    exact ⟨y, a, s, hp, hk⟩
  obtain ⟨h, hpre⟩ := (Bool.and_eq_true _ _).mp h
  obtain ⟨hf, h2, h3, h4, h5⟩ := curB_iff.1 h
  have hl := fitB_len hf
  unfold T_s_l01Cur_place
  simp only [Bool.and_eq_true, decide_eq_true_eq] at hpre
  rw [wrap_in (n := n + 1) (by omega) (by omega)]
  obtain ⟨m, hm, hm1, hm2⟩ : ∃ m : Int, (if n + 1 > (1 : Int) then n + 1 else (1 : Int)) = m ∧ 1 ≤ m ∧ m ≤ n + 1 := by
    by_cases q : n + 1 > (1 : Int)
    · rw [if_pos q]; exact ⟨_, rfl, by omega, by omega⟩
    · rw [if_neg q]; exact ⟨_, rfl, by omega, by omega⟩
  rw [hm]
  refine Dr.b3 (b_s_l01Cur_pick _ _ _ _ (curB_iff.2 ⟨hf, by omega, by omega, by omega, by omega⟩)) (fun y0 a0 s0 h0 => ?_)
  refine Dr.b3 (b_s_l01Cur_pick _ _ _ _ (curB_iff.2 ⟨hf, by omega, by omega, by omega, by omega⟩)) (fun y1 a1 s1 h1 => ?_)
  refine Dr.b3 (b_s_l01Cur_raw _ _ _ (curB_iff.2 ⟨hf, by omega, by omega, by omega, by omega⟩)) (fun y2 a2 s2 h2 => ?_)
  refine Dr.b3 (b_s_l01Cur_pick _ _ _ _ (curB_iff.2 ⟨hf, by omega, by omega, by omega, by omega⟩)) (fun y3 a3 s3 h3 => ?_)
  refine Dr.must (by simp only [List.length_cons, List.length_nil, Bool.and_eq_true, decide_eq_true_eq]; omega) ?_
  exact Dr.leaf ⟨_, _, _, ⟨rng_cons (by omega) (rng_cons (by omega) (rng_cons (by omega) (rng_cons (by omega) (rng_cons (by omega) rng_nil)))), by omega, by omega, by omega, by omega⟩, rfl⟩
noncomputable def g_s_l01Cur_place (cc : List Int) (ca : Int) (cs : Int) (n : Int) : Int × Int × Int := Classical.epsilon fun g => ((-9223372036854775808 ≤ (g).1 ∧ (g).1 ≤ 9223372036854775807) ∧ 0 ≤ (g).2.1 ∧ (g).2.1 ≤ ca + 6 ∧ 0 ≤ (g).2.2 ∧ (g).2.2 < 65536) ∧ ∀ K : Ret → Option Ret, T_s_l01Cur_place cc ca cs n K = K (.s (.int .i64 (g).1), [.io [.l .no bytesR cc, .s (.int .i64 (g).2.1), .s (.int .i64 (g).2.2)]])
theorem gs_s_l01Cur_place (cc : List Int) (ca : Int) (cs : Int) (n : Int) (h : (curB 2000000000000000000 cc ca cs && (decide (0 ≤ n) && decide (n ≤ 1000))) = true) : ((-9223372036854775808 ≤ (g_s_l01Cur_place cc ca cs n).1 ∧ (g_s_l01Cur_place cc ca cs n).1 ≤ 9223372036854775807) ∧ 0 ≤ (g_s_l01Cur_place cc ca cs n).2.1 ∧ (g_s_l01Cur_place cc ca cs n).2.1 ≤ ca + 6 ∧ 0 ≤ (g_s_l01Cur_place cc ca cs n).2.2 ∧ (g_s_l01Cur_place cc ca cs n).2.2 < 65536) ∧ ∀ K : Ret → Option Ret, T_s_l01Cur_place cc ca cs n K = K (.s (.int .i64 (g_s_l01Cur_place cc ca cs n).1), [.io [.l .no bytesR cc, .s (.int .i64 (g_s_l01Cur_place cc ca cs n).2.1), .s (.int .i64 (g_s_l01Cur_place cc ca cs n).2.2)]]) := by
  obtain ⟨y, a, s, hy, hk⟩ := x_s_l01Cur_place cc ca cs n h
  exact Classical.epsilon_spec (p := fun g : Int × Int × Int => ((-9223372036854775808 ≤ (g).1 ∧ (g).1 ≤ 9223372036854775807) ∧ 0 ≤ (g).2.1 ∧ (g).2.1 ≤ ca + 6 ∧ 0 ≤ (g).2.2 ∧ (g).2.2 < 65536) ∧ ∀ K : Ret → Option Ret, T_s_l01Cur_place cc ca cs n K = K (.s (.int .i64 (g).1), [.io [.l .no bytesR cc, .s (.int .i64 (g).2.1), .s (.int .i64 (g).2.2)]])) ⟨⟨y, a, s⟩, hy, hk⟩
noncomputable def B_s_l01Cur_place (cc : List Int) (ca : Int) (cs : Int) (n : Int) (k : (Int) → (Int) → (Int) → Option Ret) : Option Ret := bif curB 2000000000000000000 cc ca cs && (decide (0 ≤ n) && decide (n ≤ 1000)) then k (g_s_l01Cur_place cc ca cs n).1 (g_s_l01Cur_place cc ca cs n).2.1 (g_s_l01Cur_place cc ca cs n).2.2 else none
theorem b_s_l01Cur_place (cc : List Int) (ca : Int) (cs : Int) (n : Int) (h : (curB 2000000000000000000 cc ca cs && (decide (0 ≤ n) && decide (n ≤ 1000))) = true) : ∃ (y : Int) (a : Int) (s : Int), ((-9223372036854775808 ≤ y ∧ y ≤ 9223372036854775807) ∧ 0 ≤ a ∧ a ≤ ca + 6 ∧ 0 ≤ s ∧ s < 65536) ∧ ∀ k, B_s_l01Cur_place cc ca cs n k = k y a s :=
  ⟨(g_s_l01Cur_place cc ca cs n).1, (g_s_l01Cur_place cc ca cs n).2.1, (g_s_l01Cur_place cc ca cs n).2.2, (gs_s_l01Cur_place cc ca cs n h).1, fun k => by unfold B_s_l01Cur_place; rw [h]; rfl⟩
def SB_s_l01Cur_place (B : (List Int) → (Int) → (Int) → (Int) → ((Int) → (Int) → (Int) → Option Ret) → Option Ret) : Sm := S_B [.sh (.io (.cons (.l .no bytesR) (.cons (.int .i64) (.cons (.int .i64) .nil)))), .i] (fun d K => B d.1.1 d.1.2.1 d.1.2.2.1 d.2.1 (fun y a s => K (.s (.int .i64 y), [.io [.l .no bytesR d.1.1, .s (.int .i64 a), .s (.int .i64 s)]])))
theorem okS_s_l01Cur_place : OkFn prog I N.s_l01Cur_place false (SB_s_l01Cur_place B_s_l01Cur_place) := okN (ok_fn (memc okS_s_l01Cur_pick (memc okS_s_l01Cur_raw mem0)) (l := ls_s_l01Cur_place) (p := []) (ls := []) (lend := []) (focus := false) (fuel := 0) (give := []) (fn := F.s_l01Cur_place) (by kernel_rfl) (by kernel_rfl) (by kernel_rfl) (by kernel_rfl) (cs := []) (by kernel_rfl) loops0) (S_B_of fun d K q hq => by
  refine (e_s_l01Cur_place d.1.1 d.1.2.1 d.1.2.2.1 d.2.1 K).trans ?_
  unfold B_s_l01Cur_place at hq
  cases hp : (curB 2000000000000000000 d.1.1 d.1.2.1 d.1.2.2.1 && (decide (0 ≤ d.2.1) && decide (d.2.1 ≤ 1000))) with
  | false => rw [hp] at hq; cases hq
  | true =>
    rw [hp] at hq
    exact ((gs_s_l01Cur_place d.1.1 d.1.2.1 d.1.2.2.1 d.2.1 hp).2 K).trans hq)
end Go.Ev.Seat
end
section
/- s_l01Cur_cutOf: its contract. -/
namespace Go.Ev.Seat
open Go.RowKit
set_option maxRecDepth 100000
set_option linter.unusedVariables false
set_option linter.unusedSimpArgs false
noncomputable abbrev ls_s_l01Cur_cutOf : List (Nat × Bool × Sm) := [(N.s_RopeText, true, S_s_RopeText), (N.s_l01Cuts, true, S_s_l01Cuts), (N.s_l01Cur_once, false, (SB_s_l01Cur_once B_s_l01Cur_once)), (N.s_l01Cur_pick, false, (SB_s_l01Cur_pick B_s_l01Cur_pick)), (N.s_l01Cur_place, false, (SB_s_l01Cur_place B_s_l01Cur_place))]
noncomputable abbrev E_s_l01Cur_cutOf : Env := En ls_s_l01Cur_cutOf [] [] [] false 0 []
noncomputable def T_s_l01Cur_cutOf (cc : List Int) (ca : Int) (cs : Int) (r : T_Rope) (K : Ret → Option Ret) : Option Ret := (bif (fitC (Cc.sl chunkR) r) then (bif (fitB (chunksTextD r)) then (bif (decide ((((List.length (cutsD (chunksTextD r))) : Nat) : Int) > (0 : Int))) then (B_s_l01Cur_once cc ca cs (9 : Int) (fun y0 y1 y2 => (bif (!y0) then (B_s_l01Cur_pick cc y1 y2 (if (((List.length (cutsD (chunksTextD r))) : Nat) : Int) < (256 : Int) then (((List.length (cutsD (chunksTextD r))) : Nat) : Int) else (256 : Int)) (fun y3 y4 y5 => (bif ((decide ((0 : Int) ≤ y3)) && (decide (y3 < (((List.length (cutsD (chunksTextD r))) : Nat) : Int)))) then K ((.s (.int .i64 (List.getD (cutsD (chunksTextD r)) (Int.toNat y3) (0 : Int)))), [(.io [(.l .no bytesR cc), (.s (.int .i64 y4)), (.s (.int .i64 y5))])]) else none))) else (bif (fitC (Cc.sl chunkR) r) then (B_s_l01Cur_place cc y1 y2 (if (((List.length (chunksTextD r)) : Nat) : Int) < (200 : Int) then (((List.length (chunksTextD r)) : Nat) : Int) else (200 : Int)) (fun y6 y7 y8 => K ((.s (.int .i64 y6)), [(.io [(.l .no bytesR cc), (.s (.int .i64 y7)), (.s (.int .i64 y8))])]))) else none)))) else (bif (fitC (Cc.sl chunkR) r) then (B_s_l01Cur_place cc ca cs (if (((List.length (chunksTextD r)) : Nat) : Int) < (200 : Int) then (((List.length (chunksTextD r)) : Nat) : Int) else (200 : Int)) (fun y9 y10 y11 => K ((.s (.int .i64 y9)), [(.io [(.l .no bytesR cc), (.s (.int .i64 y10)), (.s (.int .i64 y11))])]))) else none)) else none) else none)
theorem e_s_l01Cur_cutOf (cc : List Int) (ca : Int) (cs : Int) (r : T_Rope) (K : Ret → Option Ret) : evF E_s_l01Cur_cutOf false F.s_l01Cur_cutOf [.io [.l .no bytesR cc, .s (.int .i64 ca), .s (.int .i64 cs)], .a (ropeR.cells .no r)] K = T_s_l01Cur_cutOf cc ca cs r K := by kernel_rfl
theorem x_s_l01Cur_cutOf (cc : List Int) (ca : Int) (cs : Int) (r : T_Rope) (h : (curB 500000000000000000 cc ca cs && (fitC (.sl chunkR) r)) = true) : ∃ (y : Int) (a : Int) (s : Int), ((-9223372036854775808 ≤ y ∧ y ≤ 9223372036854775807) ∧ 0 ≤ a ∧ a ≤ ca + 10 ∧ 0 ≤ s ∧ s < 65536) ∧ ∀ K : Ret → Option Ret, T_s_l01Cur_cutOf cc ca cs r K = K (.s (.int .i64 y), [.io [.l .no bytesR cc, .s (.int .i64 a), .s (.int .i64 s)]]) := by
  suffices hd : Dr (fun r : Ret => ∃ (y : Int) (a : Int) (s : Int), ((-9223372036854775808 ≤ y ∧ y ≤ 9223372036854775807) ∧ 0 ≤ a ∧ a ≤ ca + 10 ∧ 0 ≤ s ∧ s < 65536) ∧ r = (.s (.int .i64 y), [.io [.l .no bytesR cc, .s (.int .i64 a), .s (.int .i64 s)]])) (fun K : Ret → Option Ret => T_s_l01Cur_cutOf cc ca cs r K) by
    obtain ⟨_, ⟨y, a, s, hp, rfl⟩, hk⟩ := hd
    exact ⟨y, a, s, hp, hk⟩
  obtain ⟨h, hpre⟩ := (Bool.and_eq_true _ _).mp h
  obtain ⟨hf, h2, h3, h4, h5⟩ := curB_iff.1 h
  have hl := fitB_len hf
  unfold T_s_l01Cur_cutOf
  have hft := ropeText_fit (fun d hd => fitC_mem (r := chunkR) hpre hd)
  have htl := chunksTextD_len r
  rw [hpre, hft]
  refine Dr.must rfl (Dr.must rfl ?_)
  refine Dr.bif (fun hc => ?_) (fun _ => Dr.must rfl ?_)
  · simp only [decide_eq_true_eq] at hc
    refine Dr.b3 (b_s_l01Cur_once _ _ _ _ (curB_iff.2 ⟨hf, by omega, by omega, by omega, by omega⟩)) (fun y0 a0 s0 h0 => ?_)
    refine Dr.bif (fun _ => ?_) (fun _ => Dr.must rfl ?_)
    · obtain ⟨m, hm, hm1, hm2, hm3⟩ : ∃ m : Int, (if (((List.length (cutsD (chunksTextD r))) : Nat) : Int) < (256 : Int) then (((List.length (cutsD (chunksTextD r))) : Nat) : Int) else (256 : Int)) = m ∧ 0 ≤ m ∧ m ≤ 256 ∧ m ≤ (((List.length (cutsD (chunksTextD r))) : Nat) : Int) := by
        by_cases q : (((List.length (cutsD (chunksTextD r))) : Nat) : Int) < 256
        · rw [if_pos q]; exact ⟨_, rfl, by omega, by omega, by omega⟩
        · rw [if_neg q]; exact ⟨_, rfl, by omega, by omega, by omega⟩
      rw [hm]
      refine Dr.b3 (b_s_l01Cur_pick _ _ _ _ (curB_iff.2 ⟨hf, by omega, by omega, by omega, by omega⟩)) (fun y2 a2 s2 h2 => ?_)
      have hpos : 1 ≤ m := by
        by_cases q : (((List.length (cutsD (chunksTextD r))) : Nat) : Int) < 256
        · rw [if_pos q] at hm; omega
        · rw [if_neg q] at hm; omega
      refine Dr.must (by simp only [Bool.and_eq_true, decide_eq_true_eq]; omega) ?_
      have hb := bounds_rng (chunksTextD r) htl (Int.toNat y2)
      exact Dr.leaf ⟨_, _, _, ⟨hb, by omega, by omega, by omega, by omega⟩, rfl⟩
    obtain ⟨m, hm, hm1, hm2, hm3⟩ : ∃ m : Int, (if (((List.length (chunksTextD r)) : Nat) : Int) < (200 : Int) then (((List.length (chunksTextD r)) : Nat) : Int) else (200 : Int)) = m ∧ 0 ≤ m ∧ m ≤ 200 ∧ m ≤ (((List.length (chunksTextD r)) : Nat) : Int) := by
      by_cases q : (((List.length (chunksTextD r)) : Nat) : Int) < 200
      · rw [if_pos q]; exact ⟨_, rfl, by omega, by omega, by omega⟩
      · rw [if_neg q]; exact ⟨_, rfl, by omega, by omega, by omega⟩
    rw [hm]
    refine Dr.b3 (b_s_l01Cur_place _ _ _ _ ((Bool.and_eq_true _ _).mpr ⟨(curB_iff.2 ⟨hf, by omega, by omega, by omega, by omega⟩), by simp only [Bool.and_eq_true, decide_eq_true_eq]; omega⟩)) (fun y2 a2 s2 h2 => ?_)
    exact Dr.leaf ⟨_, _, _, ⟨h2.1, by omega, by omega, by omega, by omega⟩, rfl⟩
  · obtain ⟨m, hm, hm1, hm2, hm3⟩ : ∃ m : Int, (if (((List.length (chunksTextD r)) : Nat) : Int) < (200 : Int) then (((List.length (chunksTextD r)) : Nat) : Int) else (200 : Int)) = m ∧ 0 ≤ m ∧ m ≤ 200 ∧ m ≤ (((List.length (chunksTextD r)) : Nat) : Int) := by
      by_cases q : (((List.length (chunksTextD r)) : Nat) : Int) < 200
      · rw [if_pos q]; exact ⟨_, rfl, by omega, by omega, by omega⟩
      · rw [if_neg q]; exact ⟨_, rfl, by omega, by omega, by omega⟩
    rw [hm]
    refine Dr.b3 (b_s_l01Cur_place _ _ _ _ ((Bool.and_eq_true _ _).mpr ⟨(curB_iff.2 ⟨hf, by omega, by omega, by omega, by omega⟩), by simp only [Bool.and_eq_true, decide_eq_true_eq]; omega⟩)) (fun y2 a2 s2 h2 => ?_)
    exact Dr.leaf ⟨_, _, _, ⟨h2.1, by omega, by omega, by omega, by omega⟩, rfl⟩
noncomputable def g_s_l01Cur_cutOf (cc : List Int) (ca : Int) (cs : Int) (r : T_Rope) : Int × Int × Int := Classical.epsilon fun g => ((-9223372036854775808 ≤ (g).1 ∧ (g).1 ≤ 9223372036854775807) ∧ 0 ≤ (g).2.1 ∧ (g).2.1 ≤ ca + 10 ∧ 0 ≤ (g).2.2 ∧ (g).2.2 < 65536) ∧ ∀ K : Ret → Option Ret, T_s_l01Cur_cutOf cc ca cs r K = K (.s (.int .i64 (g).1), [.io [.l .no bytesR cc, .s (.int .i64 (g).2.1), .s (.int .i64 (g).2.2)]])
theorem gs_s_l01Cur_cutOf (cc : List Int) (ca : Int) (cs : Int) (r : T_Rope) (h : (curB 500000000000000000 cc ca cs && (fitC (.sl chunkR) r)) = true) : ((-9223372036854775808 ≤ (g_s_l01Cur_cutOf cc ca cs r).1 ∧ (g_s_l01Cur_cutOf cc ca cs r).1 ≤ 9223372036854775807) ∧ 0 ≤ (g_s_l01Cur_cutOf cc ca cs r).2.1 ∧ (g_s_l01Cur_cutOf cc ca cs r).2.1 ≤ ca + 10 ∧ 0 ≤ (g_s_l01Cur_cutOf cc ca cs r).2.2 ∧ (g_s_l01Cur_cutOf cc ca cs r).2.2 < 65536) ∧ ∀ K : Ret → Option Ret, T_s_l01Cur_cutOf cc ca cs r K = K (.s (.int .i64 (g_s_l01Cur_cutOf cc ca cs r).1), [.io [.l .no bytesR cc, .s (.int .i64 (g_s_l01Cur_cutOf cc ca cs r).2.1), .s (.int .i64 (g_s_l01Cur_cutOf cc ca cs r).2.2)]]) := by
  obtain ⟨y, a, s, hy, hk⟩ := x_s_l01Cur_cutOf cc ca cs r h
  exact Classical.epsilon_spec (p := fun g : Int × Int × Int => ((-9223372036854775808 ≤ (g).1 ∧ (g).1 ≤ 9223372036854775807) ∧ 0 ≤ (g).2.1 ∧ (g).2.1 ≤ ca + 10 ∧ 0 ≤ (g).2.2 ∧ (g).2.2 < 65536) ∧ ∀ K : Ret → Option Ret, T_s_l01Cur_cutOf cc ca cs r K = K (.s (.int .i64 (g).1), [.io [.l .no bytesR cc, .s (.int .i64 (g).2.1), .s (.int .i64 (g).2.2)]])) ⟨⟨y, a, s⟩, hy, hk⟩
noncomputable def B_s_l01Cur_cutOf (cc : List Int) (ca : Int) (cs : Int) (r : T_Rope) (k : (Int) → (Int) → (Int) → Option Ret) : Option Ret := bif curB 500000000000000000 cc ca cs && (fitC (.sl chunkR) r) then k (g_s_l01Cur_cutOf cc ca cs r).1 (g_s_l01Cur_cutOf cc ca cs r).2.1 (g_s_l01Cur_cutOf cc ca cs r).2.2 else none
theorem b_s_l01Cur_cutOf (cc : List Int) (ca : Int) (cs : Int) (r : T_Rope) (h : (curB 500000000000000000 cc ca cs && (fitC (.sl chunkR) r)) = true) : ∃ (y : Int) (a : Int) (s : Int), ((-9223372036854775808 ≤ y ∧ y ≤ 9223372036854775807) ∧ 0 ≤ a ∧ a ≤ ca + 10 ∧ 0 ≤ s ∧ s < 65536) ∧ ∀ k, B_s_l01Cur_cutOf cc ca cs r k = k y a s :=
  ⟨(g_s_l01Cur_cutOf cc ca cs r).1, (g_s_l01Cur_cutOf cc ca cs r).2.1, (g_s_l01Cur_cutOf cc ca cs r).2.2, (gs_s_l01Cur_cutOf cc ca cs r h).1, fun k => by unfold B_s_l01Cur_cutOf; rw [h]; rfl⟩
def SB_s_l01Cur_cutOf (B : (List Int) → (Int) → (Int) → (T_Rope) → ((Int) → (Int) → (Int) → Option Ret) → Option Ret) : Sm := S_B [.sh (.io (.cons (.l .no bytesR) (.cons (.int .i64) (.cons (.int .i64) .nil)))), .a ropeR] (fun d K => B d.1.1 d.1.2.1 d.1.2.2.1 d.2.1 (fun y a s => K (.s (.int .i64 y), [.io [.l .no bytesR d.1.1, .s (.int .i64 a), .s (.int .i64 s)]])))
theorem okS_s_l01Cur_cutOf : OkFn prog I N.s_l01Cur_cutOf false (SB_s_l01Cur_cutOf B_s_l01Cur_cutOf) := okN (ok_fn (memc okS_s_RopeText (memc okS_s_l01Cuts (memc okS_s_l01Cur_once (memc okS_s_l01Cur_pick (memc okS_s_l01Cur_place mem0))))) (l := ls_s_l01Cur_cutOf) (p := []) (ls := []) (lend := []) (focus := false) (fuel := 0) (give := []) (fn := F.s_l01Cur_cutOf) (by kernel_rfl) (by kernel_rfl) (by kernel_rfl) (by kernel_rfl) (cs := []) (by kernel_rfl) loops0) (S_B_of fun d K q hq => by
  refine (e_s_l01Cur_cutOf d.1.1 d.1.2.1 d.1.2.2.1 d.2.1 K).trans ?_
  unfold B_s_l01Cur_cutOf at hq
  cases hp : (curB 500000000000000000 d.1.1 d.1.2.1 d.1.2.2.1 && (fitC (.sl chunkR) d.2.1)) with
  | false => rw [hp] at hq; cases hq
  | true =>
    rw [hp] at hq
    exact ((gs_s_l01Cur_cutOf d.1.1 d.1.2.1 d.1.2.2.1 d.2.1 hp).2 K).trans hq)
end Go.Ev.Seat
end
section
/- s_DrawRopeLine: its contract. -/
namespace Go.Ev.Seat
open Go.RowKit
set_option maxRecDepth 100000
set_option linter.unusedVariables false
set_option linter.unusedSimpArgs false
noncomputable abbrev pl_s_DrawRopeLine : List (Nat × Plan × List Nat) := [(3, takeB [0, 1] (.fork (.one 2 (.fork (.one 3 (.fork (.one 4 (takes [5]))))))), [4])]
noncomputable abbrev ls_s_DrawRopeLine : List (Nat × Bool × Sm) := [(N.s_l01Open, false, S_s_l01Open), (N.s_l01Cur_rope, false, (SB_s_l01Cur_rope B_s_l01Cur_rope)), (N.s_l01Cur_cutOf, false, (SB_s_l01Cur_cutOf B_s_l01Cur_cutOf))]
noncomputable abbrev E_s_DrawRopeLine : Env := En ls_s_DrawRopeLine pl_s_DrawRopeLine [] [] false 0 []
noncomputable def T_s_DrawRopeLine (code : List Int) (K : Ret → Option Ret) : Option Ret := (bif (fitB code) then (B_s_l01Cur_rope code (0 : Int) (seedD code) (fun y0 y1 y2 => (B_s_l01Cur_cutOf code y1 y2 y0 (fun y3 y4 y5 => K ((.t [(.a [(.l .no pieceR y0)]), (.s (.int .i64 y3))]), []))))) else none)
theorem e_s_DrawRopeLine (code : List Int) (K : Ret → Option Ret) : evF E_s_DrawRopeLine false F.s_DrawRopeLine [.l .no bytesR code] K = T_s_DrawRopeLine code K := by kernel_rfl
theorem x_s_DrawRopeLine (code : List Int) (h : (fitB code) = true) : ∃ (t : List T_Piece) (u : Int), (fitC (.sl chunkR) t = true ∧ (-9223372036854775808 ≤ u ∧ u ≤ 9223372036854775807)) ∧ ∀ K : Ret → Option Ret, T_s_DrawRopeLine code K = K (.t [.a [.l .no pieceR t], .s (.int .i64 u)], []) := by
  suffices hd : Dr (fun r : Ret => ∃ (t : List T_Piece) (u : Int), (fitC (.sl chunkR) t = true ∧ (-9223372036854775808 ≤ u ∧ u ≤ 9223372036854775807)) ∧ r = (.t [.a [.l .no pieceR t], .s (.int .i64 u)], [])) (fun K : Ret → Option Ret => T_s_DrawRopeLine code K) by
    obtain ⟨_, ⟨t, u, hp, rfl⟩, hk⟩ := hd
    exact ⟨t, u, hp, hk⟩
  have hs : 0 ≤ seedD code ∧ seedD code < 65536 := by unfold seedD; omega
  have hl := fitB_len h
  unfold T_s_DrawRopeLine
  refine Dr.must h ?_
  refine Dr.b3 (b_s_l01Cur_rope _ _ _ (curB_iff.2 ⟨h, by omega, by omega, by omega, by omega⟩)) (fun v0_0 a0 s0 hy0 => ?_)
  obtain ⟨⟨hq1, hq2⟩, hq3⟩ := hy0
  have hq : fitC (.sl chunkR) v0_0 = true := fitC_mk (by omega) (fun x hx => hq1 x hx)
  refine Dr.b3 (b_s_l01Cur_cutOf _ _ _ _ ((Bool.and_eq_true _ _).mpr ⟨curB_iff.2 ⟨h, by omega, by omega, by omega, by omega⟩, hq⟩)) (fun u a3 s3 hy3 => ?_)
  exact Dr.leaf ⟨_, _, ⟨hq, hy3.1⟩, rfl⟩
noncomputable def g_s_DrawRopeLine (code : List Int) : List T_Piece × Int := Classical.epsilon fun g => (fitC (.sl chunkR) (g).1 = true ∧ (-9223372036854775808 ≤ (g).2 ∧ (g).2 ≤ 9223372036854775807)) ∧ ∀ K : Ret → Option Ret, T_s_DrawRopeLine code K = K (.t [.a [.l .no pieceR (g).1], .s (.int .i64 (g).2)], [])
theorem gs_s_DrawRopeLine (code : List Int) (h : (fitB code) = true) : (fitC (.sl chunkR) (g_s_DrawRopeLine code).1 = true ∧ (-9223372036854775808 ≤ (g_s_DrawRopeLine code).2 ∧ (g_s_DrawRopeLine code).2 ≤ 9223372036854775807)) ∧ ∀ K : Ret → Option Ret, T_s_DrawRopeLine code K = K (.t [.a [.l .no pieceR (g_s_DrawRopeLine code).1], .s (.int .i64 (g_s_DrawRopeLine code).2)], []) := by
  obtain ⟨t, u, hy, hk⟩ := x_s_DrawRopeLine code h
  exact Classical.epsilon_spec (p := fun g : List T_Piece × Int => (fitC (.sl chunkR) (g).1 = true ∧ (-9223372036854775808 ≤ (g).2 ∧ (g).2 ≤ 9223372036854775807)) ∧ ∀ K : Ret → Option Ret, T_s_DrawRopeLine code K = K (.t [.a [.l .no pieceR (g).1], .s (.int .i64 (g).2)], [])) ⟨⟨t, u⟩, hy, hk⟩
noncomputable def B_s_DrawRopeLine (code : List Int) (k : (List T_Piece) → (Int) → Option Ret) : Option Ret := bif fitB code then k (g_s_DrawRopeLine code).1 (g_s_DrawRopeLine code).2 else none
theorem b_s_DrawRopeLine (code : List Int) (h : (fitB code) = true) : ∃ (t : List T_Piece) (u : Int), (fitC (.sl chunkR) t = true ∧ (-9223372036854775808 ≤ u ∧ u ≤ 9223372036854775807)) ∧ ∀ k, B_s_DrawRopeLine code k = k t u :=
  ⟨(g_s_DrawRopeLine code).1, (g_s_DrawRopeLine code).2, (gs_s_DrawRopeLine code h).1, fun k => by unfold B_s_DrawRopeLine; rw [h]; rfl⟩
def SB_s_DrawRopeLine (B : (List Int) → ((List T_Piece) → (Int) → Option Ret) → Option Ret) : Sm := S_B [.l bytesR] (fun d K => B d.1 (fun t u => K (.t [.a [.l .no pieceR t], .s (.int .i64 u)], [])))
theorem okS_s_DrawRopeLine : OkFn prog I N.s_DrawRopeLine false (SB_s_DrawRopeLine B_s_DrawRopeLine) := okN (ok_fn (memc okS_s_l01Open (memc okS_s_l01Cur_rope (memc okS_s_l01Cur_cutOf mem0))) (l := ls_s_DrawRopeLine) (p := pl_s_DrawRopeLine) (ls := []) (lend := []) (focus := false) (fuel := 0) (give := []) (fn := F.s_DrawRopeLine) (by kernel_rfl) (by kernel_rfl) (by kernel_rfl) (by kernel_rfl) (cs := []) (by kernel_rfl) loops0) (S_B_of fun d K q hq => by
  refine (e_s_DrawRopeLine d.1 K).trans ?_
  unfold B_s_DrawRopeLine at hq
  cases hp : (fitB d.1) with
  | false => rw [hp] at hq; cases hq
  | true =>
    rw [hp] at hq
    exact ((gs_s_DrawRopeLine d.1 hp).2 K).trans hq)
end Go.Ev.Seat
end
section
/- i_in: its contract. -/
namespace Go.Ev.Seat
open Go.RowKit
set_option maxRecDepth 100000
set_option linter.unusedVariables false
set_option linter.unusedSimpArgs false
noncomputable abbrev E_i_in : Env := En [] [] [] [] false 0 []
noncomputable def T_i_in (n : Int) (low : Int) (high : Int) (K : Ret → Option Ret) : Option Ret := (bif (decide (low ≤ n)) then K ((.s (.bool (decide (n ≤ high)))), []) else K ((.s (.bool false)), []))
theorem e_i_in (n : Int) (low : Int) (high : Int) (K : Ret → Option Ret) : evF E_i_in true F.i_in [.s (.int .i64 n), .s (.int .i64 low), .s (.int .i64 high)] K = T_i_in n low high K := by kernel_rfl
def S_i_in : Sm := S_fnR [.i, .i, .i] (fun d => true) (fun d => (bl (decide (d.2.1 ≤ d.1) && decide (d.1 ≤ d.2.2.1)), []))
theorem v_i_in (n : Int) (low : Int) (high : Int) (K : Ret → Option Ret) : T_i_in n low high K = K (bl (decide (low ≤ n) && decide (n ≤ high)), []) := by
  unfold T_i_in; cases decide (low ≤ n) <;> rfl
theorem okS_i_in : OkFn prog I N.i_in true S_i_in := okN (ok_fn mem0 (l := []) (p := []) (ls := []) (lend := []) (focus := false) (fuel := 0) (give := []) (fn := F.i_in) (by kernel_rfl) (by kernel_rfl) (by kernel_rfl) (by kernel_rfl) (cs := []) (by kernel_rfl) loops0) (S_fnR_of fun d K h => (e_i_in d.1 d.2.1 d.2.2.1 K).trans (v_i_in d.1 d.2.1 d.2.2.1 K))
end Go.Ev.Seat
end
section
/- utf8_word_bytes: its contract. -/
namespace Go.Ev.Seat
open Go.RowKit
set_option maxRecDepth 100000
set_option linter.unusedVariables false
set_option linter.unusedSimpArgs false
def w8 (p : List Int) : Int := bor .u64 (bor .u64 (bor .u64 (bor .u64 (bor .u64 (bor .u64 (bor .u64 (IntKind.wrap .u64 (p.getD 0 0)) (shlI .u64 (IntKind.wrap .u64 (p.getD 1 0)) 8)) (shlI .u64 (IntKind.wrap .u64 (p.getD 2 0)) 16)) (shlI .u64 (IntKind.wrap .u64 (p.getD 3 0)) 24)) (shlI .u64 (IntKind.wrap .u64 (p.getD 4 0)) 32)) (shlI .u64 (IntKind.wrap .u64 (p.getD 5 0)) 40)) (shlI .u64 (IntKind.wrap .u64 (p.getD 6 0)) 48)) (shlI .u64 (IntKind.wrap .u64 (p.getD 7 0)) 56)
noncomputable abbrev pl_utf8_word_bytes : List (Nat × Plan × List Nat) := [(1, takes [0, 1, 2, 3, 4, 5, 6, 7, 8, 9, 10, 11, 12, 13, 14, 15, 16, 17, 18, 19, 20, 21, 22], []), (2, takes [0, 1, 2, 3, 4, 5, 6, 7, 8, 9, 10, 11, 12, 13, 14, 15, 16, 17, 18, 19, 20, 21, 22, 23, 24, 25, 26, 27, 28, 29, 30, 31, 32, 33, 34, 35, 36, 37, 38, 39, 40, 41, 42, 43, 44, 45, 46], [])]
noncomputable abbrev E_utf8_word_bytes : Env := En [] pl_utf8_word_bytes [] [] false 0 []
noncomputable def T_utf8_word_bytes (p : List Int) (K : Ret → Option Ret) : Option Ret := (bif (decide ((0 : Int) < (((List.length p) : Nat) : Int))) then (bif (decide ((1 : Int) < (((List.length p) : Nat) : Int))) then (bif (decide ((2 : Int) < (((List.length p) : Nat) : Int))) then (bif (decide ((3 : Int) < (((List.length p) : Nat) : Int))) then (bif (decide ((4 : Int) < (((List.length p) : Nat) : Int))) then (bif (decide ((5 : Int) < (((List.length p) : Nat) : Int))) then (bif (decide ((6 : Int) < (((List.length p) : Nat) : Int))) then (bif (decide ((7 : Int) < (((List.length p) : Nat) : Int))) then K ((.s (.int .u64 (bor .u64 (bor .u64 (bor .u64 (bor .u64 (bor .u64 (bor .u64 (bor .u64 (IntKind.wrap .u64 (List.getD p 0 (0 : Int))) (shlI .u64 (IntKind.wrap .u64 (List.getD p 1 (0 : Int))) (8 : Int))) (shlI .u64 (IntKind.wrap .u64 (List.getD p 2 (0 : Int))) (16 : Int))) (shlI .u64 (IntKind.wrap .u64 (List.getD p 3 (0 : Int))) (24 : Int))) (shlI .u64 (IntKind.wrap .u64 (List.getD p 4 (0 : Int))) (32 : Int))) (shlI .u64 (IntKind.wrap .u64 (List.getD p 5 (0 : Int))) (40 : Int))) (shlI .u64 (IntKind.wrap .u64 (List.getD p 6 (0 : Int))) (48 : Int))) (shlI .u64 (IntKind.wrap .u64 (List.getD p 7 (0 : Int))) (56 : Int))))), []) else none) else none) else none) else none) else none) else none) else none) else none)
theorem e_utf8_word_bytes (p : List Int) (K : Ret → Option Ret) : evF E_utf8_word_bytes true F.utf8_word_bytes [.l .no bytesR p] K = T_utf8_word_bytes p K := by kernel_rfl
def S_utf8_word_bytes : Sm := S_fnR [.l bytesR] (fun d => Nat.ble 8 d.1.length) (fun d => (.s (.int .u64 (w8 d.1)), []))
theorem v_utf8_word_bytes (p : List Int) (h : (Nat.ble 8 p.length) = true) (K : Ret → Option Ret) : T_utf8_word_bytes p K = K (.s (.int .u64 (w8 p)), []) := by
  have h' := Nat.le_of_ble_eq_true h
  unfold T_utf8_word_bytes
  simp (disch := omega) only [decide_eq_true, Bool.true_and, cond_true]
  rfl
theorem okS_utf8_word_bytes : OkFn prog I N.utf8_word_bytes true S_utf8_word_bytes := okN (ok_fn mem0 (l := []) (p := pl_utf8_word_bytes) (ls := []) (lend := []) (focus := false) (fuel := 0) (give := []) (fn := F.utf8_word_bytes) (by kernel_rfl) (by kernel_rfl) (by kernel_rfl) (by kernel_rfl) (cs := []) (by kernel_rfl) loops0) (S_fnR_of fun d K h => (e_utf8_word_bytes d.1 K).trans (v_utf8_word_bytes d.1 h K))
end Go.Ev.Seat
end
section
/- utf8_Valid: its contract. -/
namespace Go.Ev.Seat
open Go.RowKit
set_option maxRecDepth 100000
set_option linter.unusedVariables false
set_option linter.unusedSimpArgs false
def z_utf8_Valid_10_0 (x0 : List Int) (x3 : Int) : St := { tm := ([(.l .no bytesR x0), .x, .x, (.s (.int .u8 x3))] ++ List.replicate 184 .x), ob := [], nx := 0, io := [] }
def sh_utf8_Valid_10_0 : Ss := { tm := (.cons (.l .no bytesR) (.cons (.x) (.cons (.x) (.cons (.int .u8) (xsh 184))))), ob := .nil, nx := 0, io := .nil }
def d_utf8_Valid_10_0 (x0 : List Int) (x3 : Int) : sh_utf8_Valid_10_0.T := ((x0, ((), ((), (x3, xd 184)))), (), ())
def s_utf8_Valid_10_0 (x0 : List Int) (x3 : Int) : St := { tm := ([(.l .no bytesR x0), .x, .x, (.s (.int .u8 x3))] ++ List.replicate 184 .x), ob := [], nx := 0, io := [] }
theorem se_utf8_Valid_10_0 (x0 : List Int) (x3 : Int) : sh_utf8_Valid_10_0.mk' (d_utf8_Valid_10_0 x0 x3) = (s_utf8_Valid_10_0 x0 x3) := by kernel_rfl
def w_utf8_Valid_10_0 (d : sh_utf8_Valid_10_0.T) (f : (List Int) → Int → Option Ret) : Option Ret := match d with | ((x0, (_, (_, (x3, _)))), _, _) => f x0 x3
noncomputable def P_utf8_Valid_10_0 (x0 : List Int) (x3 : Int) (nx0 : (List Int) → Int → Option Ret) (k0 : (List Int) → Int → Option Ret) : Option Ret := (bif (decide ((((List.length x0) : Nat) : Int) > (32 : Int))) then (bif (decide ((8 : Int) ≤ (((List.length x0) : Nat) : Int))) then (bif (decide ((16 : Int) ≤ (((List.length x0) : Nat) : Int))) then (bif (decide ((24 : Int) ≤ (((List.length x0) : Nat) : Int))) then (bif (Nat.ble 8 (List.length x0)) then (bif (Nat.ble 8 (List.length (List.drop 8 x0))) then (bif (Nat.ble 8 (List.length (List.drop 16 x0))) then (bif (Nat.ble 8 (List.length (List.drop 24 x0))) then (bif ((band .u64 (bor .u64 (bor .u64 (w8 x0) (w8 (List.drop 8 x0))) (bor .u64 (w8 (List.drop 16 x0)) (w8 (List.drop 24 x0)))) (9259542123273814144 : Int)) == (0 : Int)) then (bif (decide ((32 : Int) ≤ (((List.length x0) : Nat) : Int))) then (nx0 (List.drop 32 x0) x3) else none) else (k0 x0 x3)) else none) else none) else none) else none) else none) else none) else none) else (k0 x0 x3))
noncomputable def Q_utf8_Valid_10_0 : Nat → (List Int) → Int → ((List Int) → Int → Option Ret) → Option Ret
  | 0, _, _, _ => none
  | m + 1, x0, x3, k0 => P_utf8_Valid_10_0 x0 x3 (fun x0 x3 => (Q_utf8_Valid_10_0 m x0 x3 k0)) k0
noncomputable def R_utf8_Valid_10_0 (x0 : List Int) (x3 : Int) (k0 : (List Int) → Int → Option Ret) : Option Ret := Q_utf8_Valid_10_0 (List.length x0 + x3.toNat + 2) x0 x3 k0
noncomputable def W_utf8_Valid_10 : LoopFn := (fun (σ : St) (K : Ex → St → Option Ret) => (match sh_utf8_Valid_10_0.un σ with | some d => w_utf8_Valid_10_0 d (fun x0 x3 => R_utf8_Valid_10_0 x0 x3 (fun x0 x3 => (K (.ext 2) (z_utf8_Valid_10_0 x0 x3)))) | none => none))
def z_utf8_Valid_2_0 (x2 : Bool) : St := { tm := ([.x, .x, (.s (.bool x2))] ++ List.replicate 185 .x), ob := [], nx := 0, io := [] }
def z_utf8_Valid_2_1 : St := { tm := ([] ++ List.replicate 188 .x), ob := [], nx := 0, io := [] }
def sh_utf8_Valid_2_0 : Ss := { tm := (.cons (.l .no bytesR) (xsh 187)), ob := .nil, nx := 0, io := .nil }
def d_utf8_Valid_2_0 (x0 : List Int) : sh_utf8_Valid_2_0.T := ((x0, xd 187), (), ())
def s_utf8_Valid_2_0 (x0 : List Int) : St := { tm := ([(.l .no bytesR x0)] ++ List.replicate 187 .x), ob := [], nx := 0, io := [] }
theorem se_utf8_Valid_2_0 (x0 : List Int) : sh_utf8_Valid_2_0.mk' (d_utf8_Valid_2_0 x0) = (s_utf8_Valid_2_0 x0) := by kernel_rfl
def w_utf8_Valid_2_0 (d : sh_utf8_Valid_2_0.T) (f : (List Int) → Option Ret) : Option Ret := match d with | ((x0, _), _, _) => f x0
noncomputable def P_utf8_Valid_2_0 (x0 : List Int) (nx0 : (List Int) → Option Ret) (k0 : Bool → Option Ret) (k1 : Option Ret) : Option Ret := (bif (decide ((((List.length x0) : Nat) : Int) > (0 : Int))) then (bif (decide ((0 : Int) < (((List.length x0) : Nat) : Int))) then (bif (decide ((List.getD x0 0 (0 : Int)) < (128 : Int))) then (bif (decide ((1 : Int) ≤ (((List.length x0) : Nat) : Int))) then (bif (decide ((((List.length (List.drop 1 x0)) : Nat) : Int) > (8 : Int))) then (bif (Nat.ble 8 (List.length (List.drop 1 x0))) then (bif ((band .u64 (w8 (List.drop 1 x0)) (9259542123273814144 : Int)) == (0 : Int)) then (bif (decide ((8 : Int) ≤ (((List.length (List.drop 1 x0)) : Nat) : Int))) then (bif (decide ((((List.length (List.drop 8 (List.drop 1 x0))) : Nat) : Int) > (16 : Int))) then (bif (decide ((8 : Int) ≤ (((List.length (List.drop 8 (List.drop 1 x0))) : Nat) : Int))) then (bif (Nat.ble 8 (List.length (List.drop 8 (List.drop 1 x0)))) then (bif (Nat.ble 8 (List.length (List.drop 8 (List.drop 8 (List.drop 1 x0))))) then (bif ((band .u64 (bor .u64 (w8 (List.drop 8 (List.drop 1 x0))) (w8 (List.drop 8 (List.drop 8 (List.drop 1 x0))))) (9259542123273814144 : Int)) == (0 : Int)) then (bif (decide ((16 : Int) ≤ (((List.length (List.drop 8 (List.drop 1 x0))) : Nat) : Int))) then (R_utf8_Valid_10_0 (List.drop 16 (List.drop 8 (List.drop 1 x0))) (List.getD x0 0 (0 : Int)) (fun y0 y1 => (nx0 y0))) else none) else (nx0 (List.drop 8 (List.drop 1 x0)))) else none) else none) else none) else (nx0 (List.drop 8 (List.drop 1 x0)))) else none) else (nx0 (List.drop 1 x0))) else none) else (nx0 (List.drop 1 x0))) else none) else (bif ((decide ((0 : Int) ≤ (List.getD x0 0 (0 : Int)))) && (decide ((List.getD x0 0 (0 : Int)) < ((256 : Nat) : Int)))) then (bif (Nat.blt (Int.toNat (List.getD x0 0 (0 : Int))) (List.length utfFirst)) then (bif ((decide ((0 : Int) ≤ (shrI .u8 (List.getD utfFirst (Int.toNat (List.getD x0 0 (0 : Int))) (0 : Int)) (4 : Int)))) && (decide ((shrI .u8 (List.getD utfFirst (Int.toNat (List.getD x0 0 (0 : Int))) (0 : Int)) (4 : Int)) < ((16 : Nat) : Int)))) then (bif (Nat.blt (Int.toNat (shrI .u8 (List.getD utfFirst (Int.toNat (List.getD x0 0 (0 : Int))) (0 : Int)) (4 : Int))) (List.length utfAccept)) then (bif ((IntKind.wrap .i64 (band .u8 (List.getD utfFirst (Int.toNat (List.getD x0 0 (0 : Int))) (0 : Int)) (7 : Int))) == (2 : Int)) then (bif (decide ((((List.length x0) : Nat) : Int) < (2 : Int))) then (k0 false) else (bif (decide ((1 : Int) < (((List.length x0) : Nat) : Int))) then (bif (decide ((List.getD x0 1 (0 : Int)) < (List.getD utfAccept (Int.toNat (shrI .u8 (List.getD utfFirst (Int.toNat (List.getD x0 0 (0 : Int))) (0 : Int)) (4 : Int))) (accR.dflt)).1)) then (k0 false) else (bif (decide ((1 : Int) < (((List.length x0) : Nat) : Int))) then (bif (decide ((List.getD utfAccept (Int.toNat (shrI .u8 (List.getD utfFirst (Int.toNat (List.getD x0 0 (0 : Int))) (0 : Int)) (4 : Int))) (accR.dflt)).2 < (List.getD x0 1 (0 : Int)))) then (k0 false) else (bif (decide ((2 : Int) ≤ (((List.length x0) : Nat) : Int))) then (nx0 (List.drop 2 x0)) else none)) else none)) else none)) else (bif ((IntKind.wrap .i64 (band .u8 (List.getD utfFirst (Int.toNat (List.getD x0 0 (0 : Int))) (0 : Int)) (7 : Int))) == (3 : Int)) then (bif (decide ((((List.length x0) : Nat) : Int) < (3 : Int))) then (k0 false) else (bif (decide ((1 : Int) < (((List.length x0) : Nat) : Int))) then (bif (decide ((List.getD x0 1 (0 : Int)) < (List.getD utfAccept (Int.toNat (shrI .u8 (List.getD utfFirst (Int.toNat (List.getD x0 0 (0 : Int))) (0 : Int)) (4 : Int))) (accR.dflt)).1)) then (k0 false) else (bif (decide ((1 : Int) < (((List.length x0) : Nat) : Int))) then (bif (decide ((List.getD utfAccept (Int.toNat (shrI .u8 (List.getD utfFirst (Int.toNat (List.getD x0 0 (0 : Int))) (0 : Int)) (4 : Int))) (accR.dflt)).2 < (List.getD x0 1 (0 : Int)))) then (k0 false) else (bif (decide ((2 : Int) < (((List.length x0) : Nat) : Int))) then (bif (decide ((List.getD x0 2 (0 : Int)) < (128 : Int))) then (k0 false) else (bif (decide ((2 : Int) < (((List.length x0) : Nat) : Int))) then (bif (decide ((191 : Int) < (List.getD x0 2 (0 : Int)))) then (k0 false) else (bif (decide ((3 : Int) ≤ (((List.length x0) : Nat) : Int))) then (nx0 (List.drop 3 x0)) else none)) else none)) else none)) else none)) else none)) else (bif ((IntKind.wrap .i64 (band .u8 (List.getD utfFirst (Int.toNat (List.getD x0 0 (0 : Int))) (0 : Int)) (7 : Int))) == (4 : Int)) then (bif (decide ((((List.length x0) : Nat) : Int) < (4 : Int))) then (k0 false) else (bif (decide ((1 : Int) < (((List.length x0) : Nat) : Int))) then (bif (decide ((List.getD x0 1 (0 : Int)) < (List.getD utfAccept (Int.toNat (shrI .u8 (List.getD utfFirst (Int.toNat (List.getD x0 0 (0 : Int))) (0 : Int)) (4 : Int))) (accR.dflt)).1)) then (k0 false) else (bif (decide ((1 : Int) < (((List.length x0) : Nat) : Int))) then (bif (decide ((List.getD utfAccept (Int.toNat (shrI .u8 (List.getD utfFirst (Int.toNat (List.getD x0 0 (0 : Int))) (0 : Int)) (4 : Int))) (accR.dflt)).2 < (List.getD x0 1 (0 : Int)))) then (k0 false) else (bif (decide ((2 : Int) < (((List.length x0) : Nat) : Int))) then (bif (decide ((List.getD x0 2 (0 : Int)) < (128 : Int))) then (k0 false) else (bif (decide ((2 : Int) < (((List.length x0) : Nat) : Int))) then (bif (decide ((191 : Int) < (List.getD x0 2 (0 : Int)))) then (k0 false) else (bif (decide ((3 : Int) < (((List.length x0) : Nat) : Int))) then (bif (decide ((List.getD x0 3 (0 : Int)) < (128 : Int))) then (k0 false) else (bif (decide ((3 : Int) < (((List.length x0) : Nat) : Int))) then (bif (decide ((191 : Int) < (List.getD x0 3 (0 : Int)))) then (k0 false) else (bif (decide ((4 : Int) ≤ (((List.length x0) : Nat) : Int))) then (nx0 (List.drop 4 x0)) else none)) else none)) else none)) else none)) else none)) else none)) else none)) else (k0 false)))) else none) else none) else none) else none)) else none) else k1)
noncomputable def Q_utf8_Valid_2_0 : Nat → (List Int) → (Bool → Option Ret) → (Option Ret) → Option Ret
  | 0, _, _, _ => none
  | m + 1, x0, k0, k1 => P_utf8_Valid_2_0 x0 (fun x0 => (Q_utf8_Valid_2_0 m x0 k0 k1)) k0 k1
noncomputable def R_utf8_Valid_2_0 (x0 : List Int) (k0 : Bool → Option Ret) (k1 : Option Ret) : Option Ret := Q_utf8_Valid_2_0 (List.length x0 + 2) x0 k0 k1
noncomputable def W_utf8_Valid_2 : LoopFn := (fun (σ : St) (K : Ex → St → Option Ret) => (match sh_utf8_Valid_2_0.un σ with | some d => w_utf8_Valid_2_0 d (fun x0 => R_utf8_Valid_2_0 x0 (fun x2 => (K .ret (z_utf8_Valid_2_0 x2))) (K (.ext 0) z_utf8_Valid_2_1)) | none => none))
noncomputable abbrev pl_utf8_Valid : List (Nat × Plan × List Nat) := [(8, takeB [0, 1, 2, 3, 4, 6, 7] (.fork (.one 5 (.fork (.one 8 (takes [9, 10, 11, 12]))))), []), (10, takeB [0, 1, 2, 3, 4, 6, 7, 10, 11, 13, 14] (.fork (.one 5 (.fork (.one 8 (takeB [9] (.fork (.one 12 (.fork (.one 15 (takes [16, 17, 18, 19, 20])))))))))), []), (18, takes [0, 1, 2, 3, 4, 5, 6, 7, 8, 9, 10, 11, 12, 13, 14, 15, 16, 17, 18], []), (22, takes [0, 1, 2, 3, 4, 5, 6, 7, 8, 9, 10, 11, 12, 13, 14, 15, 16, 17, 18, 19, 20, 21, 22, 23, 24, 25, 26, 27, 28, 29, 30], []), (26, takes [0, 1, 2, 3, 4, 5, 6, 7, 8, 9, 10, 11, 12, 13, 14, 15, 16, 17, 18, 19, 20, 21, 22, 23, 24, 25, 26, 27, 28, 29, 30, 31, 32, 33, 34, 35, 36, 37, 38, 39, 40, 41, 42], [])]
noncomputable abbrev ls_utf8_Valid : List (Nat × Bool × Sm) := [(N.utf8_word_bytes, true, S_utf8_word_bytes)]
noncomputable abbrev E_utf8_Valid : Env := En ls_utf8_Valid pl_utf8_Valid [(10, [0,3], [0,2,3], W_utf8_Valid_10), (2, [0], [2], W_utf8_Valid_2)] [] false 0 []
noncomputable abbrev U_utf8_Valid_10 := rounds (run E_utf8_Valid (bodyOf F.utf8_Valid 10)) [0,3] [0,2,3]
theorem st_utf8_Valid_10_0 (m : Nat) (x0 : List Int) (x3 : Int) (K : Ex → St → Option Ret) : U_utf8_Valid_10 (m + 1) (s_utf8_Valid_10_0 x0 x3) K = P_utf8_Valid_10_0 x0 x3 (fun x0 x3 => (U_utf8_Valid_10 m (s_utf8_Valid_10_0 x0 x3) K)) (fun x0 x3 => (K (.ext 2) (z_utf8_Valid_10_0 x0 x3))) := by kernel_rfl
theorem q_utf8_Valid_10 (K : Ex → St → Option Ret) : ∀ m : Nat, (∀ (x0 : List Int) (x3 : Int), U_utf8_Valid_10 m (s_utf8_Valid_10_0 x0 x3) K = Q_utf8_Valid_10_0 m x0 x3 (fun x0 x3 => (K (.ext 2) (z_utf8_Valid_10_0 x0 x3))))
  | 0 => (fun _ _ => rfl)
  | m + 1 => (fun x0 x3 => (by rw [st_utf8_Valid_10_0, show (fun x0 x3 => (U_utf8_Valid_10 m (s_utf8_Valid_10_0 x0 x3) K)) = (fun x0 x3 => (Q_utf8_Valid_10_0 m x0 x3 (fun x0 x3 => (K (.ext 2) (z_utf8_Valid_10_0 x0 x3))))) from funext fun x0 => funext fun x3 => (q_utf8_Valid_10 K m) x0 x3]; rfl))
theorem loopK_utf8_Valid_10 : LoopOk E_utf8_Valid (bodyOf F.utf8_Valid 10) := by
  refine loopW_ok (n := 10) (F := W_utf8_Valid_10) (by kernel_rfl) rfl (li := [0,3]) (lo := [0,2,3]) rfl (fun σ K r hr => ?_)
  unfold W_utf8_Valid_10 at hr
  split at hr
  · rename_i d hd
    rw [Ss.un_mk hd]
    exact ⟨_, ((congrArg (fun z => U_utf8_Valid_10 _ z K) (se_utf8_Valid_10_0 _ _)).trans ((q_utf8_Valid_10 K _) _ _)).trans hr⟩
  · cases hr
noncomputable abbrev U_utf8_Valid_2 := rounds (run E_utf8_Valid (bodyOf F.utf8_Valid 2)) [0] [2]
theorem st_utf8_Valid_2_0 (m : Nat) (x0 : List Int) (K : Ex → St → Option Ret) : U_utf8_Valid_2 (m + 1) (s_utf8_Valid_2_0 x0) K = P_utf8_Valid_2_0 x0 (fun x0 => (U_utf8_Valid_2 m (s_utf8_Valid_2_0 x0) K)) (fun x2 => (K .ret (z_utf8_Valid_2_0 x2))) (K (.ext 0) z_utf8_Valid_2_1) := by kernel_rfl
theorem q_utf8_Valid_2 (K : Ex → St → Option Ret) : ∀ m : Nat, (∀ (x0 : List Int), U_utf8_Valid_2 m (s_utf8_Valid_2_0 x0) K = Q_utf8_Valid_2_0 m x0 (fun x2 => (K .ret (z_utf8_Valid_2_0 x2))) (K (.ext 0) z_utf8_Valid_2_1))
  | 0 => (fun _ => rfl)
  | m + 1 => (fun x0 => (by rw [st_utf8_Valid_2_0, show (fun x0 => (U_utf8_Valid_2 m (s_utf8_Valid_2_0 x0) K)) = (fun x0 => (Q_utf8_Valid_2_0 m x0 (fun x2 => (K .ret (z_utf8_Valid_2_0 x2))) (K (.ext 0) z_utf8_Valid_2_1))) from funext fun x0 => (q_utf8_Valid_2 K m) x0]; rfl))
theorem loopK_utf8_Valid_2 : LoopOk E_utf8_Valid (bodyOf F.utf8_Valid 2) := by
  refine loopW_ok (n := 2) (F := W_utf8_Valid_2) (by kernel_rfl) rfl (li := [0]) (lo := [2]) rfl (fun σ K r hr => ?_)
  unfold W_utf8_Valid_2 at hr
  split at hr
  · rename_i d hd
    rw [Ss.un_mk hd]
    exact ⟨_, ((congrArg (fun z => U_utf8_Valid_2 _ z K) (se_utf8_Valid_2_0 _)).trans ((q_utf8_Valid_2 K _) _)).trans hr⟩
  · cases hr
noncomputable def T_utf8_Valid (p : List Int) (K : Ret → Option Ret) : Option Ret := (bif ((decide ((((List.length p) : Nat) : Int) ≤ (((List.length p) : Nat) : Int))) && (decide ((((List.length p) : Nat) : Int) ≤ (((List.length p) : Nat) : Int)))) then (R_utf8_Valid_2_0 (List.drop 0 (List.take (List.length p) p)) (fun y2 => K ((.s (.bool y2)), [])) (K ((.s (.bool true)), []))) else none)
theorem e_utf8_Valid (p : List Int) (K : Ret → Option Ret) : evF E_utf8_Valid true F.utf8_Valid [.l .no bytesR p] K = T_utf8_Valid p K := by kernel_rfl
theorem w8_nat {xs : List Int} (h : fitB xs = true) : ∃ W : Nat, w8 xs = (W : Int) ∧ W < 18446744073709551616 ∧ (W &&& M8 = 0 ↔ ∀ i, i < 8 → xs.getD i 0 < 128) := by
  have hb : ∀ i : Nat, ∃ n : Nat, xs.getD i 0 = (n : Int) ∧ n < 256 := fun i => by
    have := fitB_get h i
    exact ⟨(xs.getD i 0).toNat, by omega, by omega⟩
  obtain ⟨n0, e0, l0⟩ := hb 0
  obtain ⟨n1, e1, l1⟩ := hb 1
  obtain ⟨n2, e2, l2⟩ := hb 2
  obtain ⟨n3, e3, l3⟩ := hb 3
  obtain ⟨n4, e4, l4⟩ := hb 4
  obtain ⟨n5, e5, l5⟩ := hb 5
  obtain ⟨n6, e6, l6⟩ := hb 6
  obtain ⟨n7, e7, l7⟩ := hb 7
  have o : ∀ {a b : Nat}, a < 18446744073709551616 → b < 18446744073709551616 → a ||| b < 18446744073709551616 := fun ha hb => Nat.or_lt_two_pow (n := 64) ha hb
  have s0 : n0 < 18446744073709551616 := by omega
  have s1 := shl_lt l1 (show 1 < 8 by omega)
  have s2 := shl_lt l2 (show 2 < 8 by omega)
  have s3 := shl_lt l3 (show 3 < 8 by omega)
  have s4 := shl_lt l4 (show 4 < 8 by omega)
  have s5 := shl_lt l5 (show 5 < 8 by omega)
  have s6 := shl_lt l6 (show 6 < 8 by omega)
  have s7 := shl_lt l7 (show 7 < 8 by omega)
  refine ⟨((((((n0 ||| n1 * 2 ^ (8 * 1)) ||| n2 * 2 ^ (8 * 2)) ||| n3 * 2 ^ (8 * 3)) ||| n4 * 2 ^ (8 * 4)) ||| n5 * 2 ^ (8 * 5)) ||| n6 * 2 ^ (8 * 6)) ||| n7 * 2 ^ (8 * 7), ?_, o (o (o (o (o (o (o s0 s1) s2) s3) s4) s5) s6) s7, ?_⟩
  · unfold w8
    rw [e0, e1, e2, e3, e4, e5, e6, e7]
    rw [show (8 : Int) = ((8 * 1 : Nat) : Int) from rfl, show (16 : Int) = ((8 * 2 : Nat) : Int) from rfl, show (24 : Int) = ((8 * 3 : Nat) : Int) from rfl, show (32 : Int) = ((8 * 4 : Nat) : Int) from rfl, show (40 : Int) = ((8 * 5 : Nat) : Int) from rfl, show (48 : Int) = ((8 * 6 : Nat) : Int) from rfl, show (56 : Int) = ((8 * 7 : Nat) : Int) from rfl]
    rw [shl64 l1 (by omega), shl64 l2 (by omega), shl64 l3 (by omega), shl64 l4 (by omega), shl64 l5 (by omega), shl64 l6 (by omega), shl64 l7 (by omega), wrap64 s0]
    rw [bor64 s0 s1, bor64 (o s0 s1) s2, bor64 (o (o s0 s1) s2) s3, bor64 (o (o (o s0 s1) s2) s3) s4, bor64 (o (o (o (o s0 s1) s2) s3) s4) s5, bor64 (o (o (o (o (o s0 s1) s2) s3) s4) s5) s6, bor64 (o (o (o (o (o (o s0 s1) s2) s3) s4) s5) s6) s7]
  · rw [or_mask, or_mask, or_mask, or_mask, or_mask, or_mask, or_mask, hi_ok l1 (by omega), hi_ok l2 (by omega), hi_ok l3 (by omega), hi_ok l4 (by omega), hi_ok l5 (by omega), hi_ok l6 (by omega), hi_ok l7 (by omega)]
    have h0 := hi_ok l0 (show 0 < 8 by omega)
    rw [show n0 * 2 ^ (8 * 0) = n0 by simp] at h0
    rw [h0]
    constructor
    · intro hh i hi
      have hc : i = 0 ∨ i = 1 ∨ i = 2 ∨ i = 3 ∨ i = 4 ∨ i = 5 ∨ i = 6 ∨ i = 7 := by omega
      rcases hc with rfl | rfl | rfl | rfl | rfl | rfl | rfl | rfl
      · rw [e0]; omega
      · rw [e1]; omega
      · rw [e2]; omega
      · rw [e3]; omega
      · rw [e4]; omega
      · rw [e5]; omega
      · rw [e6]; omega
      · rw [e7]; omega
    · intro hh
      have g0 := hh 0 (by omega)
      have g1 := hh 1 (by omega)
      have g2 := hh 2 (by omega)
      have g3 := hh 3 (by omega)
      have g4 := hh 4 (by omega)
      have g5 := hh 5 (by omega)
      have g6 := hh 6 (by omega)
      have g7 := hh 7 (by omega)
      rw [e0] at g0; rw [e1] at g1; rw [e2] at g2; rw [e3] at g3; rw [e4] at g4; rw [e5] at g5; rw [e6] at g6; rw [e7] at g7
      omega
theorem mask1 {xs : List Int} (h : fitB xs = true) (hm : (band .u64 (w8 xs) (9259542123273814144 : Int) == (0 : Int)) = true) : ∀ i, i < 8 → xs.getD i 0 < 128 := by
  obtain ⟨W, e, l, hw⟩ := w8_nat h
  rw [e, show (9259542123273814144 : Int) = ((M8 : Nat) : Int) from rfl, band64 l (by decide), beq_iff_eq] at hm
  exact hw.1 (by omega)
theorem mask2 {xs ys : List Int} (h : fitB xs = true) (h2 : fitB ys = true) (hm : (band .u64 (bor .u64 (w8 xs) (w8 ys)) (9259542123273814144 : Int) == (0 : Int)) = true) : (∀ i, i < 8 → xs.getD i 0 < 128) ∧ ∀ i, i < 8 → ys.getD i 0 < 128 := by
  obtain ⟨W, e, l, hw⟩ := w8_nat h
  obtain ⟨V, e2, l2, hv⟩ := w8_nat h2
  rw [e, e2, bor64 l l2, show (9259542123273814144 : Int) = ((M8 : Nat) : Int) from rfl, band64 (Nat.or_lt_two_pow (n := 64) l l2) (by decide), beq_iff_eq] at hm
  have : (W ||| V) &&& M8 = 0 := by omega
  rw [or_mask] at this
  exact ⟨hw.1 this.1, hv.1 this.2⟩
theorem mask4 {a b c d : List Int} (ha : fitB a = true) (hb : fitB b = true) (hc : fitB c = true) (hd : fitB d = true) (hm : (band .u64 (bor .u64 (bor .u64 (w8 a) (w8 b)) (bor .u64 (w8 c) (w8 d))) (9259542123273814144 : Int) == (0 : Int)) = true) :
    (∀ i, i < 8 → a.getD i 0 < 128) ∧ (∀ i, i < 8 → b.getD i 0 < 128) ∧ (∀ i, i < 8 → c.getD i 0 < 128) ∧ ∀ i, i < 8 → d.getD i 0 < 128 := by
  obtain ⟨A, e1, l1, h1⟩ := w8_nat ha
  obtain ⟨B, e2, l2, h2⟩ := w8_nat hb
  obtain ⟨C, e3, l3, h3⟩ := w8_nat hc
  obtain ⟨D, e4, l4, h4⟩ := w8_nat hd
  have o : ∀ {a b : Nat}, a < 18446744073709551616 → b < 18446744073709551616 → a ||| b < 18446744073709551616 := fun ha hb => Nat.or_lt_two_pow (n := 64) ha hb
  rw [e1, e2, e3, e4, bor64 l1 l2, bor64 l3 l4, bor64 (o l1 l2) (o l3 l4), show (9259542123273814144 : Int) = ((M8 : Nat) : Int) from rfl, band64 (o (o l1 l2) (o l3 l4)) (by decide), beq_iff_eq] at hm
  have : ((A ||| B) ||| (C ||| D)) &&& M8 = 0 := by omega
  rw [or_mask, or_mask, or_mask] at this
  exact ⟨h1.1 this.1.1, h2.1 this.1.2, h3.1 this.2.1, h4.1 this.2.2⟩
theorem ascii_more {xs : List Int} {n m : Nat} (h1 : ∀ i, i < n → xs.getD i 0 < 128) (h2 : ∀ i, i < m → (xs.drop n).getD i 0 < 128) : ∀ i, i < n + m → xs.getD i 0 < 128 := fun i hi => by
  by_cases h : i < n
  · exact h1 i h
  · have := h2 (i - n) (by omega)
    rw [getD_drop, show n + (i - n) = i by omega] at this
    exact this
theorem loop10 (k0 : List Int → Int → Option Ret) (x3 : Int) : ∀ (m : Nat) (xs : List Int), fitB xs = true → xs.length < m → ∃ ys, fitB ys = true ∧ ys.length ≤ xs.length ∧ valid ys = valid xs ∧ Q_utf8_Valid_10_0 m xs x3 k0 = k0 ys x3
  | 0, xs, _, h => absurd h (by omega)
  | m + 1, xs, hf, hl => by
    show ∃ ys, fitB ys = true ∧ ys.length ≤ xs.length ∧ valid ys = valid xs ∧ P_utf8_Valid_10_0 xs x3 _ k0 = k0 ys x3
    unfold P_utf8_Valid_10_0
    by_cases h32 : ((xs.length : Nat) : Int) > 32
    · simp (disch := omega) only [decide_eq_true, decide_eq_false, Bool.true_and, cond_true, List.length_drop, Nat.ble_eq_true_of_le]
      cases hm : (band .u64 (bor .u64 (bor .u64 (w8 xs) (w8 (List.drop 8 xs))) (bor .u64 (w8 (List.drop 16 xs)) (w8 (List.drop 24 xs)))) (9259542123273814144 : Int) == (0 : Int)) with
      | false => exact ⟨xs, hf, Nat.le_refl _, rfl, rfl⟩
      | true =>
        obtain ⟨a1, a2, a3, a4⟩ := mask4 hf (fitB_drop hf 8) (fitB_drop hf 16) (fitB_drop hf 24) hm
        have a := ascii_more (n := 24) (ascii_more (n := 16) (ascii_more (n := 8) a1 a2) a3) a4
        obtain ⟨ys, g1, g2, g3, g4⟩ := loop10 k0 x3 m (List.drop 32 xs) (fitB_drop hf 32) (by simp; omega)
        exact ⟨ys, g1, by simp at g2; omega, g3.trans (valid_drop 32 (by omega) a), g4⟩
    · rw [decide_eq_false h32]
      exact ⟨xs, hf, Nat.le_refl _, rfl, rfl⟩
theorem step2 (x0 : List Int) (hx : fitB x0 = true) (nx : List Int → Option Ret) (k0 : Bool → Option Ret) (k1 RES : Option Ret)
    (hn : ∀ ys, fitB ys = true → ys.length < x0.length → valid ys = valid x0 → nx ys = RES) (h1 : valid x0 = true → k1 = RES) (h0 : valid x0 = false → k0 false = RES) : P_utf8_Valid_2_0 x0 nx k0 k1 = RES := by
  unfold P_utf8_Valid_2_0
  by_cases hl : ((x0.length : Nat) : Int) > 0
  case neg =>
    rw [decide_eq_false hl]
    have : x0 = [] := List.length_eq_zero_iff.1 (by omega)
    exact h1 (by rw [this]; exact valid_nil)
  case pos =>
  have hb := fitB_get hx 0
  by_cases hb1 : x0.getD 0 0 < 128
  · have hd : ∀ n, 1 ≤ n → n ≤ x0.length → (∀ i, i < n → x0.getD i 0 < 128) → nx (x0.drop n) = RES := fun n hn1 hn2 ha => hn _ (fitB_drop hx n) (by simp; omega) (valid_drop n hn2 ha)
    have a0 : ∀ i, i < 1 → x0.getD i 0 < 128 := fun i hi => by rw [show i = 0 by omega]; exact hb1
    simp (disch := omega) only [decide_eq_true, Bool.true_and, cond_true, List.length_drop, List.drop_drop]
    by_cases h9 : ((x0.length - 1 : Nat) : Int) > 8
    case neg => rw [decide_eq_false h9]; exact hd 1 (by omega) (by omega) a0
    rw [decide_eq_true h9, Nat.ble_eq_true_of_le (show 8 ≤ x0.length - 1 by omega)]
    cases hm : (band .u64 (w8 (List.drop 1 x0)) (9259542123273814144 : Int) == (0 : Int)) with
    | false => exact hd 1 (by omega) (by omega) a0
    | true =>
    have a9 := ascii_more a0 (mask1 (fitB_drop hx 1) hm)
    rw [decide_eq_true (show (8 : Int) ≤ ((x0.length - 1 : Nat) : Int) by omega)]
    simp only [cond_true]
    by_cases h17 : ((x0.length - (1 + 8) : Nat) : Int) > 16
    case neg => rw [decide_eq_false h17]; exact hd 9 (by omega) (by omega) a9
    simp (disch := omega) only [decide_eq_true, Nat.ble_eq_true_of_le, Bool.true_and, cond_true]
    cases hm2 : (band .u64 (bor .u64 (w8 (List.drop (1 + 8) x0)) (w8 (List.drop (1 + 8 + 8) x0))) (9259542123273814144 : Int) == (0 : Int)) with
    | false => exact hd 9 (by omega) (by omega) a9
    | true =>
    obtain ⟨m1, m2⟩ := mask2 (fitB_drop hx _) (fitB_drop hx _) hm2
    have a25 := ascii_more (ascii_more a9 m1) m2
    unfold R_utf8_Valid_10_0
    obtain ⟨ys, g1, g2, g3, g4⟩ := loop10 (fun y0 y1 => nx y0) (x0.getD 0 0) ((List.drop (1 + 8 + 16) x0).length + (x0.getD 0 0).toNat + 2) (List.drop (1 + 8 + 16) x0) (fitB_drop hx _) (by omega)
    refine g4.trans (hn ys g1 ?_ (g3.trans (valid_drop 25 (by omega) a25)))
    simp at g2; omega
  · have hsh := first_sh hb.1 hb.2
    have hlen := first_len
    have hacc := accept_len
    have e1 : shrI .u8 (List.getD utfFirst (Int.toNat (List.getD x0 0 (0 : Int))) (0 : Int)) (4 : Int) = fsh (x0.getD 0 0) := rfl
    have e2 : IntKind.wrap .i64 (band .u8 (List.getD utfFirst (Int.toNat (List.getD x0 0 (0 : Int))) (0 : Int)) (7 : Int)) = fsz (x0.getD 0 0) := rfl
    have e3 : List.getD utfAccept (Int.toNat (fsh (x0.getD 0 0))) (Seat.accR.dflt) = fac (x0.getD 0 0) := rfl
    rw [e1, e2, e3]
    have c1 : Nat.blt (Int.toNat (List.getD x0 0 (0 : Int))) (List.length utfFirst) = true := by rw [hlen, Nat.blt_eq]; omega
    have c2 : Nat.blt (Int.toNat (fsh (x0.getD 0 0))) (List.length utfAccept) = true := by rw [hacc, Nat.blt_eq]; omega
    rw [c1, c2]
    simp (disch := omega) only [decide_eq_true, decide_eq_false, Bool.true_and, cond_true, cond_false]
    have stop : runeSz x0 = 0 → k0 false = RES := fun h => h0 (valid_stop h (by omega))
    have go : ∀ n, runeSz x0 = n → 1 ≤ n → nx (x0.drop n) = RES := fun n h hn1 => by
      subst h
      exact hn _ (fitB_drop hx _) (by have := runeSz_le x0; simp; omega) (valid_step (by omega)).symm
    by_cases r1 : x0.getD 0 0 < 194 ∨ 245 ≤ x0.getD 0 0
    · rw [first_1 (by omega) hb.2 r1]
      refine stop ?_
      unfold runeSz
      repeat' split
      all_goals first | omega | rfl
    by_cases r2 : x0.getD 0 0 < 224
    · obtain ⟨f1, f2⟩ := first_2 (by omega) r2
      rw [f1, f2]
      have er : runeSz x0 = if 2 ≤ x0.length ∧ 128 ≤ x0.getD 1 0 ∧ x0.getD 1 0 ≤ 191 then 2 else 0 := by
        unfold runeSz; rw [if_neg (by omega), if_neg (by omega), if_neg (by omega), if_pos r2]
      simp only [BEq.rfl, cond_true]
      by_cases c : ((x0.length : Nat) : Int) < 2
      · rw [decide_eq_true c]; exact stop (by rw [er, if_neg (by omega)])
      rw [decide_eq_false c, decide_eq_true (show (1 : Int) < ((x0.length : Nat) : Int) by omega)]
      simp only [cond_true, cond_false]
      by_cases d1 : x0.getD 1 0 < 128
      · rw [decide_eq_true d1]; exact stop (by rw [er, if_neg (by omega)])
      by_cases d2 : 191 < x0.getD 1 0
      · rw [decide_eq_false d1, decide_eq_true d2]; exact stop (by rw [er, if_neg (by omega)])
      rw [decide_eq_false d1, decide_eq_false d2, decide_eq_true (show (2 : Int) ≤ ((x0.length : Nat) : Int) by omega)]
      exact go 2 (by rw [er, if_pos (by omega)]) (by omega)
    by_cases r3 : x0.getD 0 0 < 240
    · obtain ⟨f1, f2⟩ := first_3 (by omega) r3
      rw [f1, f2]
      have er : runeSz x0 = if 3 ≤ x0.length ∧ lo3 (x0.getD 0 0) ≤ x0.getD 1 0 ∧ x0.getD 1 0 ≤ hi3 (x0.getD 0 0) ∧ 128 ≤ x0.getD 2 0 ∧ x0.getD 2 0 ≤ 191 then 3 else 0 := by
        unfold runeSz; rw [if_neg (by omega), if_neg (by omega), if_neg (by omega), if_neg (by omega), if_pos r3]
      rw [show ((3 : Int) == 2) = false from rfl]
      simp only [BEq.rfl, cond_true, cond_false]
      by_cases c : ((x0.length : Nat) : Int) < 3
      · rw [decide_eq_true c]; exact stop (by rw [er, if_neg (by omega)])
      rw [decide_eq_false c, decide_eq_true (show (1 : Int) < ((x0.length : Nat) : Int) by omega), decide_eq_true (show (2 : Int) < ((x0.length : Nat) : Int) by omega), decide_eq_true (show (3 : Int) ≤ ((x0.length : Nat) : Int) by omega)]
      simp only [cond_true, cond_false]
      by_cases d1 : x0.getD 1 0 < lo3 (x0.getD 0 0)
      · rw [decide_eq_true d1]; exact stop (by rw [er, if_neg (by omega)])
      by_cases d2 : hi3 (x0.getD 0 0) < x0.getD 1 0
      · rw [decide_eq_false d1, decide_eq_true d2]; exact stop (by rw [er, if_neg (by omega)])
      by_cases d3 : x0.getD 2 0 < 128
      · rw [decide_eq_false d1, decide_eq_false d2, decide_eq_true d3]; exact stop (by rw [er, if_neg (by omega)])
      by_cases d4 : 191 < x0.getD 2 0
      · rw [decide_eq_false d1, decide_eq_false d2, decide_eq_false d3, decide_eq_true d4]; exact stop (by rw [er, if_neg (by omega)])
      rw [decide_eq_false d1, decide_eq_false d2, decide_eq_false d3, decide_eq_false d4]
      exact go 3 (by rw [er, if_pos (by omega)]) (by omega)
    · obtain ⟨f1, f2⟩ := first_4 (b := x0.getD 0 0) (by omega) (by omega)
      rw [f1, f2]
      have er : runeSz x0 = if 4 ≤ x0.length ∧ lo4 (x0.getD 0 0) ≤ x0.getD 1 0 ∧ x0.getD 1 0 ≤ hi4 (x0.getD 0 0) ∧ 128 ≤ x0.getD 2 0 ∧ x0.getD 2 0 ≤ 191 ∧ 128 ≤ x0.getD 3 0 ∧ x0.getD 3 0 ≤ 191 then 4 else 0 := by
        unfold runeSz; rw [if_neg (by omega), if_neg (by omega), if_neg (by omega), if_neg (by omega), if_neg r3, if_pos (by omega)]
      rw [show ((4 : Int) == 2) = false from rfl, show ((4 : Int) == 3) = false from rfl]
      simp only [BEq.rfl, cond_true, cond_false]
      by_cases c : ((x0.length : Nat) : Int) < 4
      · rw [decide_eq_true c]; exact stop (by rw [er, if_neg (by omega)])
      rw [decide_eq_false c, decide_eq_true (show (1 : Int) < ((x0.length : Nat) : Int) by omega), decide_eq_true (show (2 : Int) < ((x0.length : Nat) : Int) by omega), decide_eq_true (show (3 : Int) < ((x0.length : Nat) : Int) by omega), decide_eq_true (show (4 : Int) ≤ ((x0.length : Nat) : Int) by omega)]
      simp only [cond_true, cond_false]
      by_cases d1 : x0.getD 1 0 < lo4 (x0.getD 0 0)
      · rw [decide_eq_true d1]; exact stop (by rw [er, if_neg (by omega)])
      by_cases d2 : hi4 (x0.getD 0 0) < x0.getD 1 0
      · rw [decide_eq_false d1, decide_eq_true d2]; exact stop (by rw [er, if_neg (by omega)])
      by_cases d3 : x0.getD 2 0 < 128
      · rw [decide_eq_false d1, decide_eq_false d2, decide_eq_true d3]; exact stop (by rw [er, if_neg (by omega)])
      by_cases d4 : 191 < x0.getD 2 0
      · rw [decide_eq_false d1, decide_eq_false d2, decide_eq_false d3, decide_eq_true d4]; exact stop (by rw [er, if_neg (by omega)])
      by_cases d5 : x0.getD 3 0 < 128
      · rw [decide_eq_false d1, decide_eq_false d2, decide_eq_false d3, decide_eq_false d4, decide_eq_true d5]; exact stop (by rw [er, if_neg (by omega)])
      by_cases d6 : 191 < x0.getD 3 0
      · rw [decide_eq_false d1, decide_eq_false d2, decide_eq_false d3, decide_eq_false d4, decide_eq_false d5, decide_eq_true d6]; exact stop (by rw [er, if_neg (by omega)])
      rw [decide_eq_false d1, decide_eq_false d2, decide_eq_false d3, decide_eq_false d4, decide_eq_false d5, decide_eq_false d6]
      exact go 4 (by rw [er, if_pos (by omega)]) (by omega)
theorem loop2 (k0 : Bool → Option Ret) (k1 : Option Ret) : ∀ (m : Nat) (xs : List Int), fitB xs = true → xs.length < m → Q_utf8_Valid_2_0 m xs k0 k1 = bif valid xs then k1 else k0 false
  | 0, xs, _, h => absurd h (by omega)
  | m + 1, xs, hf, hl => by
    show P_utf8_Valid_2_0 xs _ k0 k1 = _
    refine step2 xs hf _ k0 k1 _ (fun ys h1 h2 h3 => ?_) (fun h => by rw [h]; rfl) (fun h => by rw [h]; rfl)
    have := loop2 k0 k1 m ys h1 (by omega)
    rw [h3] at this
    exact this
def S_utf8_Valid : Sm := S_fnR [.l bytesR] (fun d => fitB d.1) (fun d => (bl (valid d.1), []))
theorem v_utf8_Valid (p : List Int) (h : (fitB p) = true) (K : Ret → Option Ret) : T_utf8_Valid p K = K (bl (valid p), []) := by
  unfold T_utf8_Valid R_utf8_Valid_2_0
  rw [decide_eq_true (Int.le_refl _), List.take_length]
  simp only [Bool.true_and, cond_true, List.drop_zero]
  rw [loop2 _ _ _ p h (by omega)]
  cases valid p <;> rfl
theorem okS_utf8_Valid : OkFn prog I N.utf8_Valid true S_utf8_Valid := okN (ok_fn (memc okS_utf8_word_bytes mem0) (l := ls_utf8_Valid) (p := pl_utf8_Valid) (ls := [(10, [0,3], [0,2,3], W_utf8_Valid_10), (2, [0], [2], W_utf8_Valid_2)]) (lend := []) (focus := false) (fuel := 0) (give := []) (fn := F.utf8_Valid) (by kernel_rfl) (by kernel_rfl) (by kernel_rfl) (by kernel_rfl) (cs := [bodyOf F.utf8_Valid 2, bodyOf F.utf8_Valid 10]) (by kernel_rfl) (loopsc loopK_utf8_Valid_2 (loopsc loopK_utf8_Valid_10 loops0))) (S_fnR_of fun d K h => (e_utf8_Valid d.1 K).trans (v_utf8_Valid d.1 h K))
end Go.Ev.Seat
end
section
/- i_isChunk: its contract. -/
namespace Go.Ev.Seat
open Go.RowKit
set_option maxRecDepth 100000
set_option linter.unusedVariables false
set_option linter.unusedSimpArgs false
noncomputable abbrev ls_i_isChunk : List (Nat × Bool × Sm) := [(N.i_in, true, S_i_in), (N.utf8_Valid, true, S_utf8_Valid)]
noncomputable abbrev E_i_isChunk : Env := En ls_i_isChunk [] [] [] false 0 []
noncomputable def T_i_isChunk (d : T_Chunk) (K : Ret → Option Ret) : Option Ret := (bif ((decide ((1 : Int) ≤ (((List.length d) : Nat) : Int))) && (decide ((((List.length d) : Nat) : Int) ≤ (16 : Int)))) then (bif (fitB d) then K ((.s (.bool (valid d))), []) else none) else K ((.s (.bool false)), []))
theorem e_i_isChunk (d : T_Chunk) (K : Ret → Option Ret) : evF E_i_isChunk true F.i_isChunk [.a (chunkR.cells .no d)] K = T_i_isChunk d K := by kernel_rfl
def S_i_isChunk : Sm := S_fnR [.a chunkR] (fun d => fitB d.1) (fun d => (bl (chunkOkD d.1), []))
theorem v_i_isChunk (d : T_Chunk) (h : (fitB d) = true) (K : Ret → Option Ret) : T_i_isChunk d K = K (bl (chunkOkD d), []) := by
  unfold T_i_isChunk chunkOkD
  rw [h]
  by_cases h1 : ((d.length : Nat) : Int) ≤ 16
  · have e : textOk d = valid d := by
      rw [Bool.eq_iff_iff, textOk_iff]
      exact ⟨fun q => q.2, fun q => ⟨by omega, q⟩⟩
    rw [e]
    cases decide (1 ≤ ((d.length : Nat) : Int)) <;> cases decide (((d.length : Nat) : Int) ≤ 16) <;> rfl
  · rw [decide_eq_false h1]
    cases decide (1 ≤ ((d.length : Nat) : Int)) <;> rfl
theorem okS_i_isChunk : OkFn prog I N.i_isChunk true S_i_isChunk := okN (ok_fn (memc okS_i_in (memc okS_utf8_Valid mem0)) (l := ls_i_isChunk) (p := []) (ls := []) (lend := []) (focus := false) (fuel := 0) (give := []) (fn := F.i_isChunk) (by kernel_rfl) (by kernel_rfl) (by kernel_rfl) (by kernel_rfl) (cs := []) (by kernel_rfl) loops0) (S_fnR_of fun d K h => (e_i_isChunk d.1 K).trans (v_i_isChunk d.1 h K))
end Go.Ev.Seat
end
section
/- i_areChunks: its contract. -/
namespace Go.Ev.Seat
open Go.RowKit
set_option maxRecDepth 100000
set_option linter.unusedVariables false
set_option linter.unusedSimpArgs false
def z_i_areChunks_3_0 (x2 : Bool) : St := { tm := ([.x, .x, (.s (.bool x2))] ++ List.replicate 22 .x), ob := [], nx := 0, io := [] }
def z_i_areChunks_3_1 : St := { tm := ([] ++ List.replicate 25 .x), ob := [], nx := 0, io := [] }
def sh_i_areChunks_3_0 : Ss := { tm := (.cons (.x) (.cons (.x) (.cons (.x) (.cons (.int .i64) (.cons (.x) (.cons (.x) (.cons (.l .no pieceR) (.cons (.int .i64) (.cons (.int .i64) (xsh 16)))))))))), ob := .nil, nx := 0, io := .nil }
def d_i_areChunks_3_0 (x3 : Int) (x6 : List T_Piece) (x7 : Int) (x8 : Int) : sh_i_areChunks_3_0.T := (((), ((), ((), (x3, ((), ((), (x6, (x7, (x8, xd 16))))))))), (), ())
def s_i_areChunks_3_0 (x3 : Int) (x6 : List T_Piece) (x7 : Int) (x8 : Int) : St := { tm := ([.x, .x, .x, (.s (.int .i64 x3)), .x, .x, (.l .no pieceR x6), (.s (.int .i64 x7)), (.s (.int .i64 x8))] ++ List.replicate 16 .x), ob := [], nx := 0, io := [] }
theorem se_i_areChunks_3_0 (x3 : Int) (x6 : List T_Piece) (x7 : Int) (x8 : Int) : sh_i_areChunks_3_0.mk' (d_i_areChunks_3_0 x3 x6 x7 x8) = (s_i_areChunks_3_0 x3 x6 x7 x8) := by kernel_rfl
def w_i_areChunks_3_0 (d : sh_i_areChunks_3_0.T) (f : Int → (List T_Piece) → Int → Int → Option Ret) : Option Ret := match d with | ((_, (_, (_, (x3, (_, (_, (x6, (x7, (x8, _))))))))), _, _) => f x3 x6 x7 x8
noncomputable def P_i_areChunks_3_0 (x3 : Int) (x6 : List T_Piece) (x7 : Int) (x8 : Int) (nx0 : Int → (List T_Piece) → Int → Int → Option Ret) (k0 : Bool → Option Ret) (k1 : Option Ret) : Option Ret := (bif (decide (x8 < x7)) then (bif ((decide ((0 : Int) ≤ x8)) && (decide (x8 < (((List.length x6) : Nat) : Int)))) then (bif (fitB (List.getD x6 (Int.toNat x8) (pieceR.dflt))) then (bif (!(chunkOkD (List.getD x6 (Int.toNat x8) (pieceR.dflt)))) then (k0 false) else (bif (decide ((IntKind.wrap .i64 (x3 + (((List.length (List.getD x6 (Int.toNat x8) (pieceR.dflt))) : Nat) : Int))) > (400 : Int))) then (k0 false) else (nx0 (IntKind.wrap .i64 (x3 + (((List.length (List.getD x6 (Int.toNat x8) (pieceR.dflt))) : Nat) : Int))) x6 x7 (IntKind.wrap .i64 (x8 + (1 : Int)))))) else none) else none) else k1)
noncomputable def Q_i_areChunks_3_0 : Nat → Int → (List T_Piece) → Int → Int → (Bool → Option Ret) → (Option Ret) → Option Ret
  | 0, _, _, _, _, _, _ => none
  | m + 1, x3, x6, x7, x8, k0, k1 => P_i_areChunks_3_0 x3 x6 x7 x8 (fun x3 x6 x7 x8 => (Q_i_areChunks_3_0 m x3 x6 x7 x8 k0 k1)) k0 k1
noncomputable def R_i_areChunks_3_0 (x3 : Int) (x6 : List T_Piece) (x7 : Int) (x8 : Int) (k0 : Bool → Option Ret) (k1 : Option Ret) : Option Ret := Q_i_areChunks_3_0 (x3.toNat + List.length x6 + x7.toNat + x8.toNat + 2) x3 x6 x7 x8 k0 k1
noncomputable def W_i_areChunks_3 : LoopFn := (fun (σ : St) (K : Ex → St → Option Ret) => (match sh_i_areChunks_3_0.un σ with | some d => w_i_areChunks_3_0 d (fun x3 x6 x7 x8 => R_i_areChunks_3_0 x3 x6 x7 x8 (fun x2 => (K .ret (z_i_areChunks_3_0 x2))) (K (.ext 0) z_i_areChunks_3_1)) | none => none))
noncomputable abbrev ls_i_areChunks : List (Nat × Bool × Sm) := [(N.i_isChunk, true, S_i_isChunk)]
noncomputable abbrev E_i_areChunks : Env := En ls_i_areChunks [] [(3, [3,6,7,8], [2], W_i_areChunks_3)] [] false 0 []
noncomputable abbrev U_i_areChunks_3 := rounds (run E_i_areChunks (bodyOf F.i_areChunks 3)) [3,6,7,8] [2]
theorem st_i_areChunks_3_0 (m : Nat) (x3 : Int) (x6 : List T_Piece) (x7 : Int) (x8 : Int) (K : Ex → St → Option Ret) : U_i_areChunks_3 (m + 1) (s_i_areChunks_3_0 x3 x6 x7 x8) K = P_i_areChunks_3_0 x3 x6 x7 x8 (fun x3 x6 x7 x8 => (U_i_areChunks_3 m (s_i_areChunks_3_0 x3 x6 x7 x8) K)) (fun x2 => (K .ret (z_i_areChunks_3_0 x2))) (K (.ext 0) z_i_areChunks_3_1) := by kernel_rfl
theorem q_i_areChunks_3 (K : Ex → St → Option Ret) : ∀ m : Nat, (∀ (x3 : Int) (x6 : List T_Piece) (x7 : Int) (x8 : Int), U_i_areChunks_3 m (s_i_areChunks_3_0 x3 x6 x7 x8) K = Q_i_areChunks_3_0 m x3 x6 x7 x8 (fun x2 => (K .ret (z_i_areChunks_3_0 x2))) (K (.ext 0) z_i_areChunks_3_1))
  | 0 => (fun _ _ _ _ => rfl)
  | m + 1 => (fun x3 x6 x7 x8 => (by rw [st_i_areChunks_3_0, show (fun x3 x6 x7 x8 => (U_i_areChunks_3 m (s_i_areChunks_3_0 x3 x6 x7 x8) K)) = (fun x3 x6 x7 x8 => (Q_i_areChunks_3_0 m x3 x6 x7 x8 (fun x2 => (K .ret (z_i_areChunks_3_0 x2))) (K (.ext 0) z_i_areChunks_3_1))) from funext fun x3 => funext fun x6 => funext fun x7 => funext fun x8 => (q_i_areChunks_3 K m) x3 x6 x7 x8]; rfl))
theorem loopK_i_areChunks_3 : LoopOk E_i_areChunks (bodyOf F.i_areChunks 3) := by
  refine loopW_ok (n := 3) (F := W_i_areChunks_3) (by kernel_rfl) rfl (li := [3,6,7,8]) (lo := [2]) rfl (fun σ K r hr => ?_)
  unfold W_i_areChunks_3 at hr
  split at hr
  · rename_i d hd
    rw [Ss.un_mk hd]
    exact ⟨_, ((congrArg (fun z => U_i_areChunks_3 _ z K) (se_i_areChunks_3_0 _ _ _ _)).trans ((q_i_areChunks_3 K _) _ _ _ _)).trans hr⟩
  · cases hr
noncomputable def T_i_areChunks (l : List T_Chunk) (K : Ret → Option Ret) : Option Ret := (R_i_areChunks_3_0 (0 : Int) l (((List.length l) : Nat) : Int) (0 : Int) (fun y0 => K ((.s (.bool y0)), [])) (K ((.s (.bool true)), [])))
theorem e_i_areChunks (l : List T_Chunk) (K : Ret → Option Ret) : evF E_i_areChunks true F.i_areChunks [.l .no chunkR l] K = T_i_areChunks l K := by kernel_rfl
def S_i_areChunks : Sm := S_fnR [.l chunkR] (fun d => fitC (.sl chunkR) d.1) (fun d => (bl (chunksOkD d.1), []))
theorem v_i_areChunks (l : List T_Chunk) (h : (fitC (.sl chunkR) l) = true) (K : Ret → Option Ret) : T_i_areChunks l K = K (bl (chunksOkD l), []) := by
  have hl := fitC_len h
  unfold T_i_areChunks chunksOkD
  have q : ∀ (m i n : Nat), n ≤ 400 → i ≤ l.length → l.length - i < m → Q_i_areChunks_3_0 m ((n : Nat) : Int) l ((l.length : Nat) : Int) ((i : Nat) : Int) (fun y0 => K ((.s (.bool y0)), [])) (K ((.s (.bool true)), [])) = K (bl (chunksOkL (l.drop i) n), []) := by
    intro m
    induction m with
    | zero => intro i n _ _ hm; omega
    | succ m ih =>
      intro i n hn hi hm
      show P_i_areChunks_3_0 ((n : Nat) : Int) l ((l.length : Nat) : Int) ((i : Nat) : Int) _ _ _ = _
      unfold P_i_areChunks_3_0
      by_cases hlt : i < l.length
      · have hg : l.getD i (pieceR.dflt) = l[i] := getD_lt _ hlt
        have hf : fitB l[i] = true := fitB_fit (fitC_mem (r := chunkR) h (List.getElem_mem hlt))
        have hd : l.drop i = l[i] :: l.drop (i + 1) := (List.getElem_cons_drop hlt).symm
        rw [decide_eq_true (show ((i : Nat) : Int) < ((l.length : Nat) : Int) by omega), decide_eq_true (show (0 : Int) ≤ ((i : Nat) : Int) by omega), Int.toNat_natCast, wrap_nat (by omega), hg, hf, hd]
        cases he : chunkOkD l[i] with
        | false => simp only [chunksOkL, he]; rfl
        | true =>
          have hk := chunkOkD_len he
          have e1 : ((n : Nat) : Int) + ((l[i].length : Nat) : Int) = ((n + l[i].length : Nat) : Int) := by omega
          rw [wrap_in (n := ((n : Nat) : Int) + ((l[i].length : Nat) : Int)) (by omega) (by omega), e1]
          simp only [chunksOkL, he]
          by_cases h4 : ((n + l[i].length : Nat) : Int) > 400
          · rw [decide_eq_true h4]; rfl
          · rw [decide_eq_false h4]
            exact ih (i + 1) (n + l[i].length) (by omega) (by omega) (by omega)
      · obtain rfl : i = l.length := by omega
        rw [decide_eq_false (show ¬ ((l.length : Nat) : Int) < ((l.length : Nat) : Int) by omega), List.drop_length]; rfl
  refine Eq.trans (q _ 0 0 (by omega) (by omega) (by omega)) ?_
  rw [List.drop_zero]
theorem okS_i_areChunks : OkFn prog I N.i_areChunks true S_i_areChunks := okN (ok_fn (memc okS_i_isChunk mem0) (l := ls_i_areChunks) (p := []) (ls := [(3, [3,6,7,8], [2], W_i_areChunks_3)]) (lend := []) (focus := false) (fuel := 0) (give := []) (fn := F.i_areChunks) (by kernel_rfl) (by kernel_rfl) (by kernel_rfl) (by kernel_rfl) (cs := [bodyOf F.i_areChunks 3]) (by kernel_rfl) (loopsc loopK_i_areChunks_3 loops0)) (S_fnR_of fun d K h => (e_i_areChunks d.1 K).trans (v_i_areChunks d.1 h K))
end Go.Ev.Seat
end
section
/- i_isRope: its contract. -/
namespace Go.Ev.Seat
open Go.RowKit
set_option maxRecDepth 100000
set_option linter.unusedVariables false
set_option linter.unusedSimpArgs false
noncomputable abbrev ls_i_isRope : List (Nat × Bool × Sm) := [(N.i_areChunks, true, S_i_areChunks)]
noncomputable abbrev E_i_isRope : Env := En ls_i_isRope [] [] [] false 0 []
noncomputable def T_i_isRope (r : T_Rope) (K : Ret → Option Ret) : Option Ret := (bif (fitC (Cc.sl chunkR) r) then K ((.s (.bool (chunksOkD r))), []) else none)
theorem e_i_isRope (r : T_Rope) (K : Ret → Option Ret) : evF E_i_isRope true F.i_isRope [.a (ropeR.cells .no r)] K = T_i_isRope r K := by kernel_rfl
def S_i_isRope : Sm := S_fnR [.a ropeR] (fun d => fitC (.sl chunkR) d.1) (fun d => (bl (chunksOkD d.1), []))
theorem v_i_isRope (r : T_Rope) (h : (fitC (.sl chunkR) r) = true) (K : Ret → Option Ret) : T_i_isRope r K = K (bl (chunksOkD r), []) := by
  unfold T_i_isRope
  rw [h]; rfl
theorem okS_i_isRope : OkFn prog I N.i_isRope true S_i_isRope := okN (ok_fn (memc okS_i_areChunks mem0) (l := ls_i_isRope) (p := []) (ls := []) (lend := []) (focus := false) (fuel := 0) (give := []) (fn := F.i_isRope) (by kernel_rfl) (by kernel_rfl) (by kernel_rfl) (by kernel_rfl) (cs := []) (by kernel_rfl) loops0) (S_fnR_of fun d K h => (e_i_isRope d.1 K).trans (v_i_isRope d.1 h K))
end Go.Ev.Seat
end
section
/- i_chunksText: its contract. -/
namespace Go.Ev.Seat
open Go.RowKit
set_option maxRecDepth 100000
set_option linter.unusedVariables false
set_option linter.unusedSimpArgs false
def z_i_chunksText_3_0 (o0 : List Int) : St := { tm := ([.x, .x, .x, (.w 0)] ++ List.replicate 15 .x), ob := [(0, (.arr true true bytesR o0))], nx := 1, io := [] }
def sh_i_chunksText_3_0 : Ss := { tm := (.cons (.x) (.cons (.x) (.cons (.x) (.cons (.w 0) (.cons (.x) (.cons (.x) (.cons (.x) (.cons (.l .no pieceR) (.cons (.int .i64) (.cons (.int .i64) (xsh 9))))))))))), ob := (.arr true true bytesR .nil), nx := 1, io := .nil }
def d_i_chunksText_3_0 (x7 : List T_Piece) (x8 : Int) (x9 : Int) (o0 : List Int) : sh_i_chunksText_3_0.T := (((), ((), ((), ((), ((), ((), ((), (x7, (x8, (x9, xd 9)))))))))), (o0, ()), ())
def s_i_chunksText_3_0 (x7 : List T_Piece) (x8 : Int) (x9 : Int) (o0 : List Int) : St := { tm := ([.x, .x, .x, (.w 0), .x, .x, .x, (.l .no pieceR x7), (.s (.int .i64 x8)), (.s (.int .i64 x9))] ++ List.replicate 9 .x), ob := [(0, (.arr true true bytesR o0))], nx := 1, io := [] }
theorem se_i_chunksText_3_0 (x7 : List T_Piece) (x8 : Int) (x9 : Int) (o0 : List Int) : sh_i_chunksText_3_0.mk' (d_i_chunksText_3_0 x7 x8 x9 o0) = (s_i_chunksText_3_0 x7 x8 x9 o0) := by kernel_rfl
def w_i_chunksText_3_0 (d : sh_i_chunksText_3_0.T) (f : (List T_Piece) → Int → Int → (List Int) → Option Ret) : Option Ret := match d with | ((_, (_, (_, (_, (_, (_, (_, (x7, (x8, (x9, _)))))))))), (o0, _), _) => f x7 x8 x9 o0
noncomputable def P_i_chunksText_3_0 (x7 : List T_Piece) (x8 : Int) (x9 : Int) (o0 : List Int) (nx0 : (List T_Piece) → Int → Int → (List Int) → Option Ret) (k0 : (List Int) → Option Ret) : Option Ret := (bif (decide (x9 < x8)) then (bif ((decide ((0 : Int) ≤ x9)) && (decide (x9 < (((List.length x7) : Nat) : Int)))) then (bif (Nat.ble (((List.length o0) + (List.length (List.getD x7 (Int.toNat x9) (pieceR.dflt)))) * 1) 140737488355328) then (nx0 x7 x8 (IntKind.wrap .i64 (x9 + (1 : Int))) (o0 ++ (List.getD x7 (Int.toNat x9) (pieceR.dflt)))) else none) else none) else (k0 o0))
noncomputable def Q_i_chunksText_3_0 : Nat → (List T_Piece) → Int → Int → (List Int) → ((List Int) → Option Ret) → Option Ret
  | 0, _, _, _, _, _ => none
  | m + 1, x7, x8, x9, o0, k0 => P_i_chunksText_3_0 x7 x8 x9 o0 (fun x7 x8 x9 o0 => (Q_i_chunksText_3_0 m x7 x8 x9 o0 k0)) k0
noncomputable def R_i_chunksText_3_0 (x7 : List T_Piece) (x8 : Int) (x9 : Int) (o0 : List Int) (k0 : (List Int) → Option Ret) : Option Ret := Q_i_chunksText_3_0 (List.length x7 + x8.toNat + x9.toNat + List.length o0 + 2) x7 x8 x9 o0 k0
noncomputable def W_i_chunksText_3 : LoopFn := (fun (σ : St) (K : Ex → St → Option Ret) => (match sh_i_chunksText_3_0.un σ with | some d => w_i_chunksText_3_0 d (fun x7 x8 x9 o0 => R_i_chunksText_3_0 x7 x8 x9 o0 (fun o0 => (K (.ext 0) (z_i_chunksText_3_0 o0)))) | none => none))
noncomputable abbrev E_i_chunksText : Env := En [] [] [(3, [3,7,8,9], [2,3], W_i_chunksText_3)] [] false 0 []
noncomputable abbrev U_i_chunksText_3 := rounds (run E_i_chunksText (bodyOf F.i_chunksText 3)) [3,7,8,9] [2,3]
theorem st_i_chunksText_3_0 (m : Nat) (x7 : List T_Piece) (x8 : Int) (x9 : Int) (o0 : List Int) (K : Ex → St → Option Ret) : U_i_chunksText_3 (m + 1) (s_i_chunksText_3_0 x7 x8 x9 o0) K = P_i_chunksText_3_0 x7 x8 x9 o0 (fun x7 x8 x9 o0 => (U_i_chunksText_3 m (s_i_chunksText_3_0 x7 x8 x9 o0) K)) (fun o0 => (K (.ext 0) (z_i_chunksText_3_0 o0))) := by kernel_rfl
theorem q_i_chunksText_3 (K : Ex → St → Option Ret) : ∀ m : Nat, (∀ (x7 : List T_Piece) (x8 : Int) (x9 : Int) (o0 : List Int), U_i_chunksText_3 m (s_i_chunksText_3_0 x7 x8 x9 o0) K = Q_i_chunksText_3_0 m x7 x8 x9 o0 (fun o0 => (K (.ext 0) (z_i_chunksText_3_0 o0))))
  | 0 => (fun _ _ _ _ => rfl)
  | m + 1 => (fun x7 x8 x9 o0 => (by rw [st_i_chunksText_3_0, show (fun x7 x8 x9 o0 => (U_i_chunksText_3 m (s_i_chunksText_3_0 x7 x8 x9 o0) K)) = (fun x7 x8 x9 o0 => (Q_i_chunksText_3_0 m x7 x8 x9 o0 (fun o0 => (K (.ext 0) (z_i_chunksText_3_0 o0))))) from funext fun x7 => funext fun x8 => funext fun x9 => funext fun o0 => (q_i_chunksText_3 K m) x7 x8 x9 o0]; rfl))
theorem loopK_i_chunksText_3 : LoopOk E_i_chunksText (bodyOf F.i_chunksText 3) := by
  refine loopW_ok (n := 3) (F := W_i_chunksText_3) (by kernel_rfl) rfl (li := [3,7,8,9]) (lo := [2,3]) rfl (fun σ K r hr => ?_)
  unfold W_i_chunksText_3 at hr
  split at hr
  · rename_i d hd
    rw [Ss.un_mk hd]
    exact ⟨_, ((congrArg (fun z => U_i_chunksText_3 _ z K) (se_i_chunksText_3_0 _ _ _ _)).trans ((q_i_chunksText_3 K _) _ _ _ _)).trans hr⟩
  · cases hr
noncomputable def T_i_chunksText (l : List T_Chunk) (K : Ret → Option Ret) : Option Ret := (R_i_chunksText_3_0 l (((List.length l) : Nat) : Int) (0 : Int) ([] : List Int) (fun y0 => K ((.l .deep bytesR y0), [])))
theorem e_i_chunksText (l : List T_Chunk) (K : Ret → Option Ret) : evF E_i_chunksText true F.i_chunksText [.l .no chunkR l] K = T_i_chunksText l K := by kernel_rfl
def S_i_chunksText : Sm := S_fnR [.l chunkR] (fun d => fitC (.sl chunkR) d.1 && chunksOkD d.1) (fun d => (.l .deep bytesR d.1.flatten, []))
theorem v_i_chunksText (l : List T_Chunk) (h : (fitC (.sl chunkR) l && chunksOkD l) = true) (K : Ret → Option Ret) : T_i_chunksText l K = K (.l .deep bytesR l.flatten, []) := by
  obtain ⟨h, hk⟩ := (Bool.and_eq_true _ _).mp h
  have hl := fitC_len h
  have hs := (chunksOkD_iff.1 hk).2
  unfold T_i_chunksText
  have q : ∀ (m i : Nat), i ≤ l.length → l.length - i < m → Q_i_chunksText_3_0 m l ((l.length : Nat) : Int) ((i : Nat) : Int) (l.take i).flatten (fun y0 => K ((.l .deep bytesR y0), [])) = K (.l .deep bytesR l.flatten, []) := by
    intro m
    induction m with
    | zero => intro i _ hm; omega
    | succ m ih =>
      intro i hi hm
      show P_i_chunksText_3_0 l ((l.length : Nat) : Int) ((i : Nat) : Int) _ _ _ = _
      unfold P_i_chunksText_3_0
      by_cases hlt : i < l.length
      · have h2 : (l.take i).flatten.length ≤ 400 := by
          rw [sumW_flat]
          exact Nat.le_trans sumW_take_le hs
        have h3 : (l.getD i []).length ≤ 400 := by
          rw [getD_lt [] hlt]
          have := chunkOkD_len ((chunksOkD_iff.1 hk).1 l[i] (List.getElem_mem hlt)); omega
        have hf2 : (l.take (i + 1)).flatten = (l.take i).flatten ++ l.getD i [] := flatten_take hlt
        rw [decide_eq_true (show ((i : Nat) : Int) < ((l.length : Nat) : Int) by omega), decide_eq_true (show (0 : Int) ≤ ((i : Nat) : Int) by omega), Int.toNat_natCast, wrap_nat (by omega), show l.getD i pieceR.dflt = l.getD i [] from rfl, Nat.ble_eq_true_of_le (by omega), ← hf2]
        exact ih (i + 1) (by omega) (by omega)
      · obtain rfl : i = l.length := by omega
        rw [decide_eq_false (show ¬ ((l.length : Nat) : Int) < ((l.length : Nat) : Int) by omega), List.take_length]; rfl
  exact q _ 0 (by omega) (by omega)
theorem okS_i_chunksText : OkFn prog I N.i_chunksText true S_i_chunksText := okN (ok_fn mem0 (l := []) (p := []) (ls := [(3, [3,7,8,9], [2,3], W_i_chunksText_3)]) (lend := []) (focus := false) (fuel := 0) (give := []) (fn := F.i_chunksText) (by kernel_rfl) (by kernel_rfl) (by kernel_rfl) (by kernel_rfl) (cs := [bodyOf F.i_chunksText 3]) (by kernel_rfl) (loopsc loopK_i_chunksText_3 loops0)) (S_fnR_of fun d K h => (e_i_chunksText d.1 K).trans (v_i_chunksText d.1 h K))
end Go.Ev.Seat
end
section
/- i_Rope_text: its contract. -/
namespace Go.Ev.Seat
open Go.RowKit
set_option maxRecDepth 100000
set_option linter.unusedVariables false
set_option linter.unusedSimpArgs false
noncomputable abbrev ls_i_Rope_text : List (Nat × Bool × Sm) := [(N.i_chunksText, true, S_i_chunksText)]
noncomputable abbrev E_i_Rope_text : Env := En ls_i_Rope_text [] [] [] false 0 []
noncomputable def T_i_Rope_text (r : T_Rope) (K : Ret → Option Ret) : Option Ret := (bif ((fitC (Cc.sl chunkR) r) && (chunksOkD r)) then K ((.l .deep bytesR (List.flatten r)), []) else none)
theorem e_i_Rope_text (r : T_Rope) (K : Ret → Option Ret) : evF E_i_Rope_text true F.i_Rope_text [.a (ropeR.cells .no r)] K = T_i_Rope_text r K := by kernel_rfl
def S_i_Rope_text : Sm := S_fnR [.a ropeR] (fun d => fitC (.sl chunkR) d.1 && chunksOkD d.1) (fun d => (.l .deep bytesR (chunksTextD d.1), []))
theorem v_i_Rope_text (r : T_Rope) (h : (fitC (.sl chunkR) r && chunksOkD r) = true) (K : Ret → Option Ret) : T_i_Rope_text r K = K (.l .deep bytesR (chunksTextD r), []) := by
  obtain ⟨_, h2⟩ := (Bool.and_eq_true _ _).mp h
  unfold T_i_Rope_text chunksTextD
  rw [h, h2]; rfl
theorem okS_i_Rope_text : OkFn prog I N.i_Rope_text true S_i_Rope_text := okN (ok_fn (memc okS_i_chunksText mem0) (l := ls_i_Rope_text) (p := []) (ls := []) (lend := []) (focus := false) (fuel := 0) (give := []) (fn := F.i_Rope_text) (by kernel_rfl) (by kernel_rfl) (by kernel_rfl) (by kernel_rfl) (cs := []) (by kernel_rfl) loops0) (S_fnR_of fun d K h => (e_i_Rope_text d.1 K).trans (v_i_Rope_text d.1 h K))
end Go.Ev.Seat
end
section
/- utf8_RuneStart: its contract. -/
namespace Go.Ev.Seat
open Go.RowKit
set_option maxRecDepth 100000
set_option linter.unusedVariables false
set_option linter.unusedSimpArgs false
noncomputable abbrev E_utf8_RuneStart : Env := En [] [] [] [] false 0 []
noncomputable def T_utf8_RuneStart (b : Int) (K : Ret → Option Ret) : Option Ret := K ((.s (.bool ((band .u8 b (192 : Int)) != (128 : Int)))), [])
theorem e_utf8_RuneStart (b : Int) (K : Ret → Option Ret) : evF E_utf8_RuneStart true F.utf8_RuneStart [.s (.int .u8 b)] K = T_utf8_RuneStart b K := by kernel_rfl
def S_utf8_RuneStart : Sm := S_fnR [.sc1 (.int .u8)] (fun d => true) (fun d => (bl (band .u8 d.1 192 != 128), []))
theorem v_utf8_RuneStart (b : Int) (K : Ret → Option Ret) : T_utf8_RuneStart b K = K (bl (band .u8 b 192 != 128), []) := rfl
theorem okS_utf8_RuneStart : OkFn prog I N.utf8_RuneStart true S_utf8_RuneStart := okN (ok_fn mem0 (l := []) (p := []) (ls := []) (lend := []) (focus := false) (fuel := 0) (give := []) (fn := F.utf8_RuneStart) (by kernel_rfl) (by kernel_rfl) (by kernel_rfl) (by kernel_rfl) (cs := []) (by kernel_rfl) loops0) (S_fnR_of fun d K h => (e_utf8_RuneStart d.1 K).trans (v_utf8_RuneStart d.1 K))
end Go.Ev.Seat
end
section
/- i_isCut: its contract. -/
namespace Go.Ev.Seat
open Go.RowKit
set_option maxRecDepth 100000
set_option linter.unusedVariables false
set_option linter.unusedSimpArgs false
noncomputable abbrev ls_i_isCut : List (Nat × Bool × Sm) := [(N.i_in, true, S_i_in), (N.utf8_RuneStart, true, S_utf8_RuneStart)]
noncomputable abbrev E_i_isCut : Env := En ls_i_isCut [] [] [] false 0 []
noncomputable def T_i_isCut (t : List Int) (k : Int) (K : Ret → Option Ret) : Option Ret := (bif (k == (((List.length t) : Nat) : Int)) then K ((.s (.bool true)), []) else (bif ((decide ((0 : Int) ≤ k)) && (decide (k ≤ (IntKind.wrap .i64 ((((List.length t) : Nat) : Int) - (1 : Int)))))) then (bif ((decide ((0 : Int) ≤ k)) && (decide (k < (((List.length t) : Nat) : Int)))) then K ((.s (.bool ((band .u8 (List.getD t (Int.toNat k) (0 : Int)) (192 : Int)) != (128 : Int)))), []) else none) else K ((.s (.bool false)), [])))
theorem e_i_isCut (t : List Int) (k : Int) (K : Ret → Option Ret) : evF E_i_isCut true F.i_isCut [.l .no bytesR t, .s (.int .i64 k)] K = T_i_isCut t k K := by kernel_rfl
def S_i_isCut : Sm := S_fnR [.l bytesR, .i] (fun d => fitB d.1) (fun d => (bl (isCutD d.1 d.2.1), []))
theorem v_i_isCut (t : List Int) (k : Int) (h : (fitB t) = true) (K : Ret → Option Ret) : T_i_isCut t k K = K (bl (isCutD t k), []) := by
  unfold T_i_isCut isCutD
  have hl := fitB_len h
  by_cases e : k = ((t.length : Nat) : Int)
  · rw [beq_iff_eq.2 e]; rfl
  · rw [beq_eq_false_iff_ne.2 e, wrap_in (by omega) (by omega)]
    simp only [cond_false, Bool.false_or]
    by_cases h1 : 0 ≤ k
    · by_cases h2 : k < ((t.length : Nat) : Int)
      · rw [decide_eq_true h1, decide_eq_true h2, decide_eq_true (show k ≤ ((t.length : Nat) : Int) - 1 by omega)]
        have hb := fitB_get h k.toNat
        rw [cont_at hb.1 hb.2]; rfl
      · rw [decide_eq_true h1, decide_eq_false h2, decide_eq_false (show ¬ k ≤ ((t.length : Nat) : Int) - 1 by omega)]; rfl
    · rw [decide_eq_false h1]; rfl
theorem okS_i_isCut : OkFn prog I N.i_isCut true S_i_isCut := okN (ok_fn (memc okS_i_in (memc okS_utf8_RuneStart mem0)) (l := ls_i_isCut) (p := []) (ls := []) (lend := []) (focus := false) (fuel := 0) (give := []) (fn := F.i_isCut) (by kernel_rfl) (by kernel_rfl) (by kernel_rfl) (by kernel_rfl) (cs := []) (by kernel_rfl) loops0) (S_fnR_of fun d K h => (e_i_isCut d.1 d.2.1 K).trans (v_i_isCut d.1 d.2.1 h K))
end Go.Ev.Seat
end
section
/- bytes_Count: its contract. -/
set_option linter.unusedVariables false
namespace Go.Ev
open Go.RowKit Go.Shelf Go.Proofs
variable {P : Program} {I : Nat → World → Prop}
set_option maxHeartbeats 2000000 in
set_option maxRecDepth 1000000 in
theorem count_nil {ρ : Ren} (L : SlLaysB.n13 P ρ) (c b2 o2 d : Nat) (cv : Int) (w : World) (hc2 : w.cell? ⟨b2, o2, none⟩ = some (.int .u8 cv)) :
    Calls P (ρ.f 13) #[.slice none 0 c, .slice (some ⟨b2, o2, none⟩) 1 d] w fun e w' => e = .returned (.int .i64 0) ∧ w' = w := by
  have mixed := L.mixed
  have t0 := L.t0; have a0 := L.a0; have z0 := L.z0; have v0 := L.v0; have t3 := L.t3; have a3 := L.a3; have z3 := L.z3; have v3 := L.v3; have t4 := L.t4; have a4 := L.a4; have z4 := L.z4; have v4 := L.v4; have t5 := L.t5; have a5 := L.a5; have z5 := L.z5; have v5 := L.v5; have t22 := L.t22; have a22 := L.a22; have z22 := L.z22; have v22 := L.v22
  go_enter L.f13, SlBodyB.n13_ntmps ρ
  go_wp2
  rw [run_callFunc_extern L.f25 (by kernel_rfl) (by kernel_rfl) (by kernel_rfl) (e := Extern.BytealgCount.count) (by kernel_rfl), Lib.run_countNil w 0 c cv]
  simp only [Result.andThen]
  rw [Oper.upon_value]
  go_wp2
  go_ret
  exact ⟨rfl, rfl⟩

def G_bc : Sm := fun vs K => match vs with
  | [.l .no (.one (.int .u8)) xs, .l .no (.one (.int .u8)) ys] => bif fitB xs && Nat.beq ys.length 1 then K (.s (.int .i64 ((cntB xs ys : Nat) : Int)), []) else none
  | _ => none
theorem cells_of {w : World} {b : Nat} {xs : List Int} {o : Nat} {F : List Nat} (h : RowsR (RwR w true (.one (.int .u8))) w 1 b xs o F) : ∀ i, i < xs.length → w.cell? ⟨b, o + i, none⟩ = some (.int .u8 (xs.getD i 0)) := fun i hi => by
  obtain ⟨vs, F', _, hn, hc, hR⟩ := h.get (i := i) (x := xs.getD i 0) (by rw [List.getD_eq_getElem?_getD, List.getElem?_eq_getElem hi]; rfl)
  obtain ⟨v, rfl, hv⟩ := hR
  have hv' : v = .int .u8 (xs.getD i 0) := hv.1
  have := hc 0 v rfl
  rw [Nat.mul_one, Nat.add_zero] at this
  rw [this, hv']
theorem bcount_ok {ρ : Ren} (L : SlLaysB.n13 P ρ) (hent : ∀ (args : Array Value) (w : World), (callFunc (ρ.f 13) args).run P w = .ok (.enter (ρ.f 13) args) w) : OkFn P I (ρ.f 13) true G_bc := by
  refine ⟨hent, fun ws K q hq B0 w0 w N vs O M H hI hbel hB hargs hnd hO hM hH hN => ?_⟩
  unfold G_bc at hq
  split at hq
  · rename_i xs ys
    cases hc : (fitB xs && Nat.beq ys.length 1) with
    | false => rw [hc] at hq; cases hq
    | true =>
      rw [hc] at hq
      have hq' : K (.s (.int .i64 ((cntB xs ys : Nat) : Int)), []) = some q := hq
      rw [Bool.and_eq_true] at hc
      have hy := Nat.eq_of_beq_eq_true hc.2
      obtain ⟨v1, vs1, O1, O2, M1, M2, H1, H2, rfl, rfl, rfl, rfl, a1, b1⟩ := hargs
      obtain ⟨v2, vs2, O3, O4, M3, M4, H3, H4, rfl, rfl, rfl, rfl, a2, b2⟩ := b1
      obtain ⟨rfl, rfl, rfl, rfl⟩ := b2
      obtain ⟨⟨F1, s1, _⟩, rfl, rfl⟩ := a1
      obtain ⟨⟨F2, s2, _⟩, rfl, rfl⟩ := a2
      have s2' : SlT (RwR w true (.one (.int .u8))) w true 1 ys v2 F2 := s2
      have s1' : SlT (RwR w true (.one (.int .u8))) w true 1 xs v1 F1 := s1
      obtain ⟨b2, o2, cap2, rfl, hcv⟩ : ∃ b o cap, v2 = .slice (some ⟨b, o, none⟩) 1 cap ∧ w.cell? ⟨b, o, none⟩ = some (.int .u8 (ys.getD 0 0)) := by
        rcases s2' with ⟨rfl, _⟩ | ⟨b, o, cap, F', e1, e2, e3, e4, e5, e6⟩
        · exact absurd hy (by simp)
        · rw [hy] at e1
          exact ⟨b, o, cap, e1, cells_of e6 0 (by omega)⟩
      rcases s1' with ⟨rfl, _, a, cap, rfl, _⟩ | ⟨b, o, cap, F', e1, e2, e3, e4, e5, e6⟩
      · cases a with
        | none => exact Calls.mono (count_nil L cap b2 o2 cap2 _ w hcv) (by
          rintro e w' ⟨rfl, rfl⟩
          exact ⟨_, hq', ⟨⟨[], [], [], [], [], [], ⟨⟨rfl, rfl⟩, rfl, rfl⟩, ⟨rfl, rfl, rfl, rfl⟩, List.nodup_nil, by simp, by simp, by simp⟩, hbel, Nat.le_refl _, fun _ _ _ => rfl⟩⟩)
        | some a => exact Calls.mono (Any.bytes_Count_one_at L a 0 cap b2 o2 cap2 [] _ w rfl (fun i hi => absurd hi (Nat.not_lt_zero i)) hcv) (by
          rintro e w' ⟨rfl, rfl⟩
          exact ⟨_, hq', ⟨⟨[], [], [], [], [], [], ⟨⟨rfl, rfl⟩, rfl, rfl⟩, ⟨rfl, rfl, rfl, rfl⟩, List.nodup_nil, by simp, by simp, by simp⟩, hbel, Nat.le_refl _, fun _ _ _ => rfl⟩⟩)
      · subst e1
        exact Calls.mono (Any.bytes_Count_one L b o xs.length cap b2 o2 cap2 xs _ w rfl (cells_of e6) hcv) (by
          rintro e w' ⟨rfl, rfl⟩
          exact ⟨_, hq', ⟨⟨[], [], [], [], [], [], ⟨⟨rfl, rfl⟩, rfl, rfl⟩, ⟨rfl, rfl, rfl, rfl⟩, List.nodup_nil, by simp, by simp, by simp⟩, hbel, Nat.le_refl _, fun _ _ _ => rfl⟩⟩)
  · cases hq
end Go.Ev
namespace Go.Proofs
open Go.Shelf
def Tryd.bct_ren : Go.Shelf.Ren := ⟨fun | 13 => 124 | 24 => 77 | 25 => 136 | 12 => 131 | 31 => 117 | 19 => 139 | 20 => 140 | 21 => 141 | 22 => 142 | 23 => 143 | 29 => 145 | 30 => 146 | n => n, fun | 22 => 22 | 3 => 3 | 4 => 4 | 0 => 0 | 5 => 5 | 9 => 9 | 33 => 110 | 40 => 123 | 39 => 103 | n => n, fun | 0 => 2 | n => n⟩
theorem Tryd.bct : Go.Proofs.SlLaysB.n13 Tryd.prog Tryd.bct_ren := {
  mixed := by kernel_rfl
  f13 := Tryd.func124.trans (congrArg some (by kernel_rfl))
  f25 := Tryd.func136.trans (congrArg some (by kernel_rfl))
  t0 := Tryd.underlying0
  a0 := Tryd.isAgg0
  z0 := Tryd.sizeOf0
  v0 := Tryd.zeroValue0
  t3 := Tryd.underlying3
  a3 := Tryd.isAgg3
  z3 := Tryd.sizeOf3
  v3 := Tryd.zeroValue3
  t4 := Tryd.underlying4
  a4 := Tryd.isAgg4
  z4 := Tryd.sizeOf4
  v4 := Tryd.zeroValue4
  t5 := Tryd.underlying5
  a5 := Tryd.isAgg5
  z5 := Tryd.sizeOf5
  v5 := Tryd.zeroValue5
  t22 := Tryd.underlying22
  a22 := Tryd.isAgg22
  z22 := Tryd.sizeOf22
  v22 := Tryd.zeroValue22 }
end Go.Proofs
namespace Go.Ev.Seat
open Go.RowKit
set_option maxRecDepth 100000
def S_bytes_Count : Sm := S_fnR [.l bytesR, .l bytesR] (fun d => fitB d.1 && Nat.beq d.2.1.length 1) (fun d => (.s (.int .i64 ((cntB d.1 d.2.1 : Nat) : Int)), []))
theorem okS_bytes_Count : OkFn prog I N.bytes_Count true S_bytes_Count := okN (bcount_ok Go.Proofs.Tryd.bct (Go.Proofs.enters_of (fn := F.bytes_Count) (c := F.bytes_Count.body.getD .skip) (by kernel_rfl) (by kernel_rfl) (by kernel_rfl))) (S_fnR_of fun d K h => by
  show (bif fitB d.1 && Nat.beq d.2.1.length 1 then K (.s (.int .i64 ((cntB d.1 d.2.1 : Nat) : Int)), []) else none) = _
  rw [h]; rfl)
end Go.Ev.Seat
end
section
/- bytealg_LastIndexByte: its contract. -/
namespace Go.Ev.Seat
open Go.RowKit
set_option maxRecDepth 100000
set_option linter.unusedVariables false
set_option linter.unusedSimpArgs false
def z_bytealg_LastIndexByte_2_0 (x4 : Int) : St := { tm := ([.x, .x, .x, .x, (.s (.int .i64 x4))] ++ List.replicate 15 .x), ob := [], nx := 0, io := [] }
def z_bytealg_LastIndexByte_2_1 : St := { tm := ([] ++ List.replicate 20 .x), ob := [], nx := 0, io := [] }
def sh_bytealg_LastIndexByte_2_0 : Ss := { tm := (.cons (.l .no bytesR) (.cons (.int .u8) (.cons (.x) (.cons (.x) (.cons (.x) (.cons (.int .i64) (xsh 14))))))), ob := .nil, nx := 0, io := .nil }
def d_bytealg_LastIndexByte_2_0 (x0 : List Int) (x1 : Int) (x5 : Int) : sh_bytealg_LastIndexByte_2_0.T := ((x0, (x1, ((), ((), ((), (x5, xd 14)))))), (), ())
def s_bytealg_LastIndexByte_2_0 (x0 : List Int) (x1 : Int) (x5 : Int) : St := { tm := ([(.l .no bytesR x0), (.s (.int .u8 x1)), .x, .x, .x, (.s (.int .i64 x5))] ++ List.replicate 14 .x), ob := [], nx := 0, io := [] }
theorem se_bytealg_LastIndexByte_2_0 (x0 : List Int) (x1 : Int) (x5 : Int) : sh_bytealg_LastIndexByte_2_0.mk' (d_bytealg_LastIndexByte_2_0 x0 x1 x5) = (s_bytealg_LastIndexByte_2_0 x0 x1 x5) := by kernel_rfl
def w_bytealg_LastIndexByte_2_0 (d : sh_bytealg_LastIndexByte_2_0.T) (f : (List Int) → Int → Int → Option Ret) : Option Ret := match d with | ((x0, (x1, (_, (_, (_, (x5, _)))))), _, _) => f x0 x1 x5
noncomputable def P_bytealg_LastIndexByte_2_0 (x0 : List Int) (x1 : Int) (x5 : Int) (nx0 : (List Int) → Int → Int → Option Ret) (k0 : Int → Option Ret) (k1 : Option Ret) : Option Ret := (bif (decide (x5 ≥ (0 : Int))) then (bif ((decide ((0 : Int) ≤ x5)) && (decide (x5 < (((List.length x0) : Nat) : Int)))) then (bif ((List.getD x0 (Int.toNat x5) (0 : Int)) == x1) then (k0 x5) else (nx0 x0 x1 (IntKind.wrap .i64 (x5 - (1 : Int))))) else none) else k1)
noncomputable def Q_bytealg_LastIndexByte_2_0 : Nat → (List Int) → Int → Int → (Int → Option Ret) → (Option Ret) → Option Ret
  | 0, _, _, _, _, _ => none
  | m + 1, x0, x1, x5, k0, k1 => P_bytealg_LastIndexByte_2_0 x0 x1 x5 (fun x0 x1 x5 => (Q_bytealg_LastIndexByte_2_0 m x0 x1 x5 k0 k1)) k0 k1
noncomputable def R_bytealg_LastIndexByte_2_0 (x0 : List Int) (x1 : Int) (x5 : Int) (k0 : Int → Option Ret) (k1 : Option Ret) : Option Ret := Q_bytealg_LastIndexByte_2_0 (List.length x0 + x1.toNat + x5.toNat + 2) x0 x1 x5 k0 k1
noncomputable def W_bytealg_LastIndexByte_2 : LoopFn := (fun (σ : St) (K : Ex → St → Option Ret) => (match sh_bytealg_LastIndexByte_2_0.un σ with | some d => w_bytealg_LastIndexByte_2_0 d (fun x0 x1 x5 => R_bytealg_LastIndexByte_2_0 x0 x1 x5 (fun x4 => (K .ret (z_bytealg_LastIndexByte_2_0 x4))) (K (.ext 0) z_bytealg_LastIndexByte_2_1)) | none => none))
noncomputable abbrev E_bytealg_LastIndexByte : Env := En [] [] [(2, [0,1,5], [4], W_bytealg_LastIndexByte_2)] [] false 0 []
noncomputable abbrev U_bytealg_LastIndexByte_2 := rounds (run E_bytealg_LastIndexByte (bodyOf F.bytealg_LastIndexByte 2)) [0,1,5] [4]
theorem st_bytealg_LastIndexByte_2_0 (m : Nat) (x0 : List Int) (x1 : Int) (x5 : Int) (K : Ex → St → Option Ret) : U_bytealg_LastIndexByte_2 (m + 1) (s_bytealg_LastIndexByte_2_0 x0 x1 x5) K = P_bytealg_LastIndexByte_2_0 x0 x1 x5 (fun x0 x1 x5 => (U_bytealg_LastIndexByte_2 m (s_bytealg_LastIndexByte_2_0 x0 x1 x5) K)) (fun x4 => (K .ret (z_bytealg_LastIndexByte_2_0 x4))) (K (.ext 0) z_bytealg_LastIndexByte_2_1) := by kernel_rfl
theorem q_bytealg_LastIndexByte_2 (K : Ex → St → Option Ret) : ∀ m : Nat, (∀ (x0 : List Int) (x1 : Int) (x5 : Int), U_bytealg_LastIndexByte_2 m (s_bytealg_LastIndexByte_2_0 x0 x1 x5) K = Q_bytealg_LastIndexByte_2_0 m x0 x1 x5 (fun x4 => (K .ret (z_bytealg_LastIndexByte_2_0 x4))) (K (.ext 0) z_bytealg_LastIndexByte_2_1))
  | 0 => (fun _ _ _ => rfl)
  | m + 1 => (fun x0 x1 x5 => (by rw [st_bytealg_LastIndexByte_2_0, show (fun x0 x1 x5 => (U_bytealg_LastIndexByte_2 m (s_bytealg_LastIndexByte_2_0 x0 x1 x5) K)) = (fun x0 x1 x5 => (Q_bytealg_LastIndexByte_2_0 m x0 x1 x5 (fun x4 => (K .ret (z_bytealg_LastIndexByte_2_0 x4))) (K (.ext 0) z_bytealg_LastIndexByte_2_1))) from funext fun x0 => funext fun x1 => funext fun x5 => (q_bytealg_LastIndexByte_2 K m) x0 x1 x5]; rfl))
theorem loopK_bytealg_LastIndexByte_2 : LoopOk E_bytealg_LastIndexByte (bodyOf F.bytealg_LastIndexByte 2) := by
  refine loopW_ok (n := 2) (F := W_bytealg_LastIndexByte_2) (by kernel_rfl) rfl (li := [0,1,5]) (lo := [4]) rfl (fun σ K r hr => ?_)
  unfold W_bytealg_LastIndexByte_2 at hr
  split at hr
  · rename_i d hd
    rw [Ss.un_mk hd]
    exact ⟨_, ((congrArg (fun z => U_bytealg_LastIndexByte_2 _ z K) (se_bytealg_LastIndexByte_2_0 _ _ _)).trans ((q_bytealg_LastIndexByte_2 K _) _ _ _)).trans hr⟩
  · cases hr
noncomputable def T_bytealg_LastIndexByte (s : List Int) (c : Int) (K : Ret → Option Ret) : Option Ret := (R_bytealg_LastIndexByte_2_0 s c (IntKind.wrap .i64 ((((List.length s) : Nat) : Int) - (1 : Int))) (fun y0 => K ((.s (.int .i64 y0)), [])) (K ((.s (.int .i64 (-(1 : Int)))), [])))
theorem e_bytealg_LastIndexByte (s : List Int) (c : Int) (K : Ret → Option Ret) : evF E_bytealg_LastIndexByte true F.bytealg_LastIndexByte [.l .no bytesR s, .s (.int .u8 c)] K = T_bytealg_LastIndexByte s c K := by kernel_rfl
def S_bytealg_LastIndexByte : Sm := S_fnR [.l bytesR, .sc1 (.int .u8)] (fun d => fitB d.1) (fun d => (sc (((nlG d.1 d.2.1 d.1.length : Nat) : Int) - 1), []))
theorem v_bytealg_LastIndexByte (s : List Int) (c : Int) (h : (fitB s) = true) (K : Ret → Option Ret) : T_bytealg_LastIndexByte s c K = K (sc (((nlG s c s.length : Nat) : Int) - 1), []) := by
  have hl := fitB_len h
  unfold T_bytealg_LastIndexByte R_bytealg_LastIndexByte_2_0
  rw [wrap_in (by omega) (by omega)]
  have q : ∀ (m i : Nat), i ≤ s.length → i < m → Q_bytealg_LastIndexByte_2_0 m s c (((i : Nat) : Int) - 1) (fun y0 => K ((.s (.int .i64 y0)), [])) (K ((.s (.int .i64 (-(1 : Int)))), [])) = K (sc (((nlG s c i : Nat) : Int) - 1), []) := by
    intro m
    induction m with
    | zero => intro i _ hm; omega
    | succ m ih =>
      intro i hi hm
      show P_bytealg_LastIndexByte_2_0 s c _ _ _ _ = _
      unfold P_bytealg_LastIndexByte_2_0
      cases i with
      | zero => rfl
      | succ i =>
        rw [show ((i + 1 : Nat) : Int) - 1 = ((i : Nat) : Int) by omega, decide_eq_true (show ((i : Nat) : Int) ≥ 0 by omega), decide_eq_true (show ((i : Nat) : Int) < ((s.length : Nat) : Int) by omega), Int.toNat_natCast]
        unfold nlG
        cases e : s.getD i 0 == c with
        | true =>
          show K (.s (.int .i64 ((i : Nat) : Int)), []) = _
          rw [cond_true, show (((i + 1 : Nat) : Int) - 1) = ((i : Nat) : Int) by omega]; rfl
        | false =>
          rw [wrap_in (by omega) (by omega)]
          exact ih i (by omega) (by omega)
  exact q _ s.length (Nat.le_refl _) (by omega)
theorem okS_bytealg_LastIndexByte : OkFn prog I N.bytealg_LastIndexByte true S_bytealg_LastIndexByte := okN (ok_fn mem0 (l := []) (p := []) (ls := [(2, [0,1,5], [4], W_bytealg_LastIndexByte_2)]) (lend := []) (focus := false) (fuel := 0) (give := []) (fn := F.bytealg_LastIndexByte) (by kernel_rfl) (by kernel_rfl) (by kernel_rfl) (by kernel_rfl) (cs := [bodyOf F.bytealg_LastIndexByte 2]) (by kernel_rfl) (loopsc loopK_bytealg_LastIndexByte_2 loops0)) (S_fnR_of fun d K h => (e_bytealg_LastIndexByte d.1 d.2.1 K).trans (v_bytealg_LastIndexByte d.1 d.2.1 h K))
end Go.Ev.Seat
end
section
/- bytes_LastIndexByte: its contract. -/
namespace Go.Ev.Seat
open Go.RowKit
set_option maxRecDepth 100000
set_option linter.unusedVariables false
set_option linter.unusedSimpArgs false
noncomputable abbrev ls_bytes_LastIndexByte : List (Nat × Bool × Sm) := [(N.bytealg_LastIndexByte, true, S_bytealg_LastIndexByte)]
noncomputable abbrev E_bytes_LastIndexByte : Env := En ls_bytes_LastIndexByte [] [] [] false 0 []
noncomputable def T_bytes_LastIndexByte (s : List Int) (c : Int) (K : Ret → Option Ret) : Option Ret := (bif (fitB s) then K ((.s (.int .i64 ((((nlG s c (List.length s)) : Nat) : Int) - (1 : Int)))), []) else none)
theorem e_bytes_LastIndexByte (s : List Int) (c : Int) (K : Ret → Option Ret) : evF E_bytes_LastIndexByte true F.bytes_LastIndexByte [.l .no bytesR s, .s (.int .u8 c)] K = T_bytes_LastIndexByte s c K := by kernel_rfl
def S_bytes_LastIndexByte : Sm := S_fnR [.l bytesR, .sc1 (.int .u8)] (fun d => fitB d.1) (fun d => (sc (((nlG d.1 d.2.1 d.1.length : Nat) : Int) - 1), []))
theorem v_bytes_LastIndexByte (s : List Int) (c : Int) (h : (fitB s) = true) (K : Ret → Option Ret) : T_bytes_LastIndexByte s c K = K (sc (((nlG s c s.length : Nat) : Int) - 1), []) := by
  unfold T_bytes_LastIndexByte
  rw [h]; rfl
theorem okS_bytes_LastIndexByte : OkFn prog I N.bytes_LastIndexByte true S_bytes_LastIndexByte := okN (ok_fn (memc okS_bytealg_LastIndexByte mem0) (l := ls_bytes_LastIndexByte) (p := []) (ls := []) (lend := []) (focus := false) (fuel := 0) (give := []) (fn := F.bytes_LastIndexByte) (by kernel_rfl) (by kernel_rfl) (by kernel_rfl) (by kernel_rfl) (cs := []) (by kernel_rfl) loops0) (S_fnR_of fun d K h => (e_bytes_LastIndexByte d.1 d.2.1 K).trans (v_bytes_LastIndexByte d.1 d.2.1 h K))
end Go.Ev.Seat
end
section
/- utf8_RuneCountInString: its contract. -/
namespace Go.Ev
open Go.RowKit Go.Shelf Go.Proofs
def G_rcs : Sm := fun vs K => match vs with
  | [.s (.string b)] => bif Nat.ble b.size 1099511627776 then K (.s (.int .i64 ((Lib.runeCount b : Nat) : Int)), []) else none
  | _ => none
variable {P : Program} {I : Nat → World → Prop}
theorem rcs_ok {ρ : Ren} (L : Lays7.n48 P ρ) (hent : ∀ (args : Array Value) (w : World), (callFunc (ρ.f 48) args).run P w = .ok (.enter (ρ.f 48) args) w) : OkFn P I (ρ.f 48) true G_rcs := by
  refine ⟨hent, fun ws K q hq B0 w0 w N vs O M H hI hbel hB hargs hnd hO hM hH hN => ?_⟩
  unfold G_rcs at hq
  split at hq
  · rename_i b
    cases hc : Nat.ble b.size 1099511627776 with
    | false => rw [hc] at hq; cases hq
    | true =>
      rw [hc] at hq
      have hq' : K (.s (.int .i64 ((Lib.runeCount b : Nat) : Int)), []) = some q := hq
      obtain ⟨v1, vs1, O1, O2, M1, M2, H1, H2, rfl, rfl, rfl, rfl, a1, b1⟩ := hargs
      obtain ⟨rfl, rfl, rfl, rfl⟩ := b1
      have e1 : v1 = .string b := a1.1.1
      subst e1
      refine Calls.mono (Any7.utf8_RuneCountInString L b w (by have := Nat.le_of_ble_eq_true hc; omega)) ?_
      rintro e w' ⟨rfl, pos, rfl⟩
      have hsz : (w.iter b pos).heap.size = w.heap.size + 1 := alloc_size w _
      refine ⟨_, hq', ⟨⟨[], [], [], [], [], [], ⟨⟨rfl, rfl⟩, rfl, rfl⟩, ⟨rfl, rfl, rfl, rfl⟩, List.nodup_nil, by simp, by simp, by simp⟩, hbel.alloc hB _, by rw [hsz]; omega, fun x hx _ => alloc_old w _ x hx⟩⟩
  · cases hq
end Go.Ev
namespace Go.Proofs
open Go.Shelf
def Tryd.rcs_ren : Go.Shelf.Ren := ⟨fun | 48 => 117 | n => n, fun | 9 => 9 | 3 => 3 | 0 => 0 | 4 => 4 | n => n, fun | n => n⟩
theorem Tryd.rcs : Go.Proofs.Lays7.n48 Tryd.prog Tryd.rcs_ren := {
  mixed := by kernel_rfl
  f48 := Tryd.func117.trans (congrArg some (by kernel_rfl))
  t0 := Tryd.underlying0
  a0 := Tryd.isAgg0
  z0 := Tryd.sizeOf0
  v0 := Tryd.zeroValue0
  i0 := by kernel_rfl
  t3 := Tryd.underlying3
  a3 := Tryd.isAgg3
  z3 := Tryd.sizeOf3
  v3 := Tryd.zeroValue3
  i3 := by kernel_rfl
  t4 := Tryd.underlying4
  a4 := Tryd.isAgg4
  z4 := Tryd.sizeOf4
  v4 := Tryd.zeroValue4
  i4 := by kernel_rfl
  t9 := Tryd.underlying9
  a9 := Tryd.isAgg9
  z9 := Tryd.sizeOf9
  v9 := Tryd.zeroValue9
  i9 := by kernel_rfl }
end Go.Proofs
namespace Go.Ev.Seat
open Go.RowKit
set_option maxRecDepth 100000
def S_utf8_RuneCountInString : Sm := S_fnR [.sc1 .str] (fun d => Nat.ble d.1.size 1099511627776) (fun d => (.s (.int .i64 ((Lib.runeCount d.1 : Nat) : Int)), []))
theorem okS_utf8_RuneCountInString : OkFn prog I N.utf8_RuneCountInString true S_utf8_RuneCountInString := okN (rcs_ok Go.Proofs.Tryd.rcs (ok_fn (l := []) (p := []) (ls := []) (lend := []) (focus := false) (fuel := 0) (give := []) (nils := []) (fresh := true) mem0 (g := N.utf8_RuneCountInString) (fn := F.utf8_RuneCountInString) (by kernel_rfl) (by kernel_rfl) (by kernel_rfl) (by kernel_rfl) (cs := [bodyOf F.utf8_RuneCountInString 2]) (by kernel_rfl) (loopsc (fun n F' _ hF => nomatch hF) loops0)).1) (S_fnR_of fun d K h => by
  show (bif Nat.ble d.1.size 1099511627776 then K (.s (.int .i64 ((Lib.runeCount d.1 : Nat) : Int)), []) else none) = _
  rw [h]; rfl)
end Go.Ev.Seat
end
