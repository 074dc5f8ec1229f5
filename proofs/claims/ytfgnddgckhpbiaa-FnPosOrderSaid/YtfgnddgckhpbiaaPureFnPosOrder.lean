/- For every code, positions keep their order under the drawn edit and the program's PosMove equals the reference's; no condition. -/
import Derived.Test.YtfgnddgckhpbiaaPFnPosOrderx4
namespace Go.Proofs.Ytfgnddgckhpbiaa.Pure
open Go.RowKit Go.Proofs.Ytfgnddgckhpbiaa.PFnPosOrder Go.Proofs.YtfgnddgckhpbiaaW.PrintWords Go.Proofs.YtfgnddgckhpbiaaW.PrintLast Go.Proofs.YtfgnddgckhpbiaaW.PrintMore

theorem w64 {n : Int} (h : -9223372036854775808 ≤ n) (h' : n < 9223372036854775808) : wrap64 n = n := by
  unfold wrap64; omega

def Bytes (l : List Int) : Prop := ∀ x ∈ l, 0 ≤ x ∧ x ≤ 255
theorem rd_byte {l : List Int} (h : Bytes l) (i : Int) : 0 ≤ rd l i ∧ rd l i ≤ 255 := by
  unfold rd
  rw [List.getD_eq_getElem?_getD]
  cases e : l[i.toNat]? with
  | none => simp
  | some v => simpa using h v (List.mem_of_getElem? e)

def RS (n a s : Int) : Prop := 0 ≤ a ∧ a ≤ n ∧ 0 ≤ s ∧ s < 70000
theorem tmod_lt {x m : Int} (hx : 0 ≤ x) (hm : 0 < m) : 0 ≤ Int.tmod x m ∧ Int.tmod x m < m :=
  ⟨Int.tmod_nonneg _ hx, Int.tmod_lt_of_pos _ hm⟩
theorem tdiv_le {x : Int} (hx : 0 ≤ x) : 0 ≤ Int.tdiv x 7 ∧ Int.tdiv x 7 ≤ x := by
  rw [Int.tdiv_eq_ediv_of_nonneg hx]; omega

theorem pick_ok {l : List Int} (hl : Bytes l) (hn : l.length ≤ 140737488351232) {n a s m : Int} (h : RS n a s) (hb : n < 1000000) (hm : 1 ≤ m) :
    ∃ v a' s', spec_l01Cur_pick.f l a s m = some (v, a', s') ∧ 0 ≤ v ∧ v < m ∧ RS (n + 1) a' s' := by
  obtain ⟨h0, h1, h2, h3⟩ := h
  unfold spec_l01Cur_pick.f
  by_cases c : m < 2
  · rw [if_pos c]; exact ⟨_, _, _, rfl, by omega, by omega, by omega, by omega, by omega, by omega⟩
  rw [if_neg c]
  have ha : wrap64 (a + 1) = a + 1 := w64 (by omega) (by omega)
  by_cases c1 : a < (l.length : Int)
  · rw [if_pos c1, if_pos h0, if_neg (by omega)]
    have hr := rd_byte hl a
    rw [w64 (n := rd l a) (by omega) (by omega), ha]
    have := tmod_lt hr.1 (show 0 < m by omega)
    exact ⟨_, _, _, rfl, this.1, this.2, by omega, by omega, by omega, by omega⟩
  · rw [if_neg c1, w64 (n := s * 1103) (by omega) (by omega), w64 (n := s * 1103 + 12345) (by omega) (by omega), ha]
    have hs := tmod_lt (x := s * 1103 + 12345) (m := 65521) (by omega) (by omega)
    by_cases c2 : (l.length : Int) > 0
    · have ht := tmod_lt h0 c2
      rw [if_pos c2, if_neg (by omega), if_pos ht.1, if_pos ht.2, if_neg (by omega)]
      have hr := rd_byte hl (Int.tmod a l.length)
      have hd := tdiv_le hs.1
      rw [w64 (n := rd l _) (by omega) (by omega), w64 (n := Int.tdiv _ 7) (by omega) (by omega), w64 (n := Int.tdiv _ 7 + _) (by omega) (by omega)]
      have := tmod_lt (x := Int.tdiv (Int.tmod (s * 1103 + 12345) 65521) 7 + rd l (Int.tmod a l.length)) (by omega) (show 0 < m by omega)
      exact ⟨_, _, _, rfl, this.1, this.2, by omega, by omega, by omega, by omega⟩
    · rw [if_neg c2, if_neg (by omega)]
      exact ⟨_, _, _, rfl, by rw [Int.zero_emod]; omega, by rw [Int.zero_emod]; omega, by omega, by omega, by omega, by omega⟩

theorem rune_ok {l : List Int} (hl : Bytes l) (hn : l.length ≤ 140737488351232) {n a s : Int} (h : RS n a s) (hb : n < 900000) :
    ∃ v a' s', spec_l01Cur_rune.f l a s = some (v, a', s') ∧ RS (n + 3) a' s' := by
  unfold spec_l01Cur_rune.f
  obtain ⟨v1, a1, s1, e1, g1, g1', r1⟩ := pick_ok hl hn h (by omega) (show (1 : Int) ≤ 3 by omega)
  obtain ⟨v2, a2, s2, e2, g2, g2', r2⟩ := pick_ok hl hn r1 (by omega) (show (1 : Int) ≤ 3 by omega)
  obtain ⟨v3, a3, s3, e3, g3, g3', r3⟩ := pick_ok hl hn r2 (by omega) (show (1 : Int) ≤ 14 by omega)
  rw [e1]; simp only [Option.bind_some]; rw [e2]; simp only [Option.bind_some]; rw [e3]; simp only [Option.bind_some]
  rw [if_pos g3, if_pos (by simpa using g3')]
  exact ⟨_, _, _, rfl, by rw [show n + 3 = n + 1 + 1 + 1 by omega]; exact r3⟩

theorem runeBytes_ok (k : Nat) (x : Int) : ∃ r, spec_RuneBytes.f (k + 1) x = some r ∧ r.length ≤ 4 := by
  unfold spec_RuneBytes.f
  have hj : ∀ b, ∃ r, spec_RuneBytes.j0 (k + 1) x b = some r ∧ r.length ≤ 4 := by
    intro b
    simp only [spec_RuneBytes.j0]
    repeat' split
    all_goals exact ⟨_, rfl, by simp⟩
  repeat' split
  all_goals exact hj _

theorem text_loop {l : List Int} (hl : Bytes l) (hn : l.length ≤ 140737488351232) (d : Nat) : ∀ (k : Nat) (m : Int) (out : List Int) (x n a s : Int),
    x ≤ d → d < 1000 → d + 1 < k → out.length + 4 * d < 100000 → RS n a s → n + 3 * d < 100000 → 0 ≤ n →
    ∃ r a' s', spec_l01Cur_text.l0 k m out x l a s = some (r, a', s') ∧ RS (n + 3 * d) a' s' ∧ r.length ≤ out.length + 4 * d := by
  induction d with
  | zero =>
    intro k m out x n a s hx _ hk ho hr hn2 h0
    obtain ⟨k, rfl⟩ : ∃ q, k = q + 1 := ⟨k - 1, by omega⟩
    simp only [spec_l01Cur_text.l0]
    rw [if_neg (by omega)]
    split
    · rw [if_pos (by omega)]; exact ⟨_, _, _, rfl, by simpa using hr, by simp⟩
    · exact ⟨_, _, _, rfl, by simpa using hr, by simp⟩
  | succ d ih =>
    intro k m out x n a s hx hd hk ho hr hn2 h0
    obtain ⟨k, rfl⟩ : ∃ q, k = q + 2 := ⟨k - 2, by omega⟩
    simp only [spec_l01Cur_text.l0]
    by_cases c : x > 0
    · rw [if_pos c]
      obtain ⟨v1, a1, s1, e1, r1⟩ := rune_ok hl hn hr (by omega)
      obtain ⟨q, eq, hq⟩ := runeBytes_ok k v1
      simp only [e1, Option.bind_some, eq]
      rw [if_pos (by omega), w64 (n := x - 1) (by omega) (by omega)]
      obtain ⟨r, a', s', e, g, gl⟩ := ih (k + 1) m (out ++ q) (x - 1) (n + 3) a1 s1 (by omega) (by omega) (by omega) (by simp; omega) r1 (by omega) (by omega)
      refine ⟨r, a', s', e, ?_, by simp at gl; omega⟩
      obtain ⟨g0, g1, g2, g3⟩ := g
      exact ⟨g0, by push_cast at *; omega, g2, g3⟩
    · rw [if_neg c]
      obtain ⟨g0, g1, g2, g3⟩ := hr
      split
      · rw [if_pos (by omega)]; exact ⟨_, _, _, rfl, ⟨g0, by push_cast; omega, g2, g3⟩, by simp⟩
      · exact ⟨_, _, _, rfl, ⟨g0, by push_cast; omega, g2, g3⟩, by omega⟩

theorem text_ok {l : List Int} (hl : Bytes l) (hn : l.length ≤ 140737488351232) {n a s : Int} (h : RS n a s) (hb : n < 1000) (k : Nat) (hk : 10 ≤ k) :
    ∃ r a' s', spec_l01Cur_text.f k l a s 5 = some (r, a', s') ∧ RS (n + 16) a' s' ∧ r.length ≤ 20 := by
  have h0 : 0 ≤ n := by obtain ⟨a, b, _⟩ := h; omega
  unfold spec_l01Cur_text.f spec_l01Cur_size.f
  have hmn : 1 ≤ mn 5 (wrap64 (1 + wrap64 ((l.length : Int) / 8))) + 1 ∧ mn 5 (wrap64 (1 + wrap64 ((l.length : Int) / 8))) + 1 ≤ 6 := by
    rw [w64 (n := (l.length : Int) / 8) (by omega) (by omega), w64 (n := 1 + (l.length : Int) / 8) (by omega) (by omega)]
    unfold mn; split <;> omega
  rw [w64 (n := mn _ _ + 1) (by omega) (by omega)]
  obtain ⟨v1, a1, s1, e1, g1, g1', r1⟩ := pick_ok hl hn h (by omega) hmn.1
  rw [e1]; simp only [Option.bind_some]
  obtain ⟨r, a', s', e, g, gl⟩ := text_loop hl hn 5 k 5 [] v1 (n + 1) a1 s1 (by omega) (by omega) (by omega) (by simp) r1 (by omega) (by omega)
  refine ⟨r, a', s', e, ?_, by simpa using gl⟩
  have : n + 1 + 3 * ((5 : Nat) : Int) = n + 16 := by omega
  rw [this] at g; exact g

theorem raw_ok {l : List Int} (hl : Bytes l) (hn : l.length ≤ 140737488351232) {n a s : Int} (h : RS n a s) (hb : n < 900000) :
    ∃ v a' s', spec_l01Cur_raw.f l a s = some (v, a', s') ∧ RS (n + 2) a' s' := by
  unfold spec_l01Cur_raw.f
  obtain ⟨v1, a1, s1, e1, g1, g1', r1⟩ := pick_ok hl hn h (by omega) (show (1 : Int) ≤ 8 by omega)
  rw [e1]; simp only [Option.bind_some]
  have e2 : n + 2 = n + 1 + 1 := by omega
  split
  · obtain ⟨v2, a2, s2, e, _, _, r2⟩ := pick_ok hl hn r1 (by omega) (show (1 : Int) ≤ 256 by omega)
    rw [e]; simp only [Option.bind_some]
    exact ⟨_, _, _, rfl, by rw [e2]; exact r2⟩
  · split
    · obtain ⟨v2, a2, s2, e, g, g', r2⟩ := pick_ok hl hn r1 (by omega) (show (1 : Int) ≤ 8 by omega)
      rw [e]; simp only [Option.bind_some]
      rw [if_pos g, if_pos (by simpa using g')]
      exact ⟨_, _, _, rfl, by rw [e2]; exact r2⟩
    · obtain ⟨v2, a2, s2, e, _, _, r2⟩ := pick_ok hl hn r1 (by omega) (show (1 : Int) ≤ 14 by omega)
      rw [e]; simp only [Option.bind_some]
      exact ⟨_, _, _, rfl, by rw [e2]; exact r2⟩

theorem RS.up {n m a s : Int} (h : RS n a s) (hm : n ≤ m) : RS m a s := by
  obtain ⟨g0, g1, g2, g3⟩ := h; exact ⟨g0, by omega, g2, g3⟩

theorem bind_of {α β : Type} {o : Option α} {v : α} {g : α → Option β} (h : o = some v) : o.bind g = g v := by rw [h]; rfl

theorem small_ok {l : List Int} (hl : Bytes l) (hn : l.length ≤ 140737488351232) {n a s : Int} (h : RS n a s) (hb : n < 100) (k : Nat) (hk : 10 ≤ k) :
    ∃ x y z a' s', spec_l01Cur_small.f k l a s = some (x, y, z, a', s') ∧ RS (n + 30) a' s' := by
  unfold spec_l01Cur_small.f
  generalize hN : (281474976710656 : Nat) = N
  obtain ⟨v1, a1, s1, e1, g1, g1', r1⟩ := pick_ok hl hn h (by omega) (show (1 : Int) ≤ 20 by omega)
  obtain ⟨v2, a2, s2, e2, g2, g2', r2⟩ := pick_ok hl hn r1 (by omega) (show (1 : Int) ≤ 6 by omega)
  obtain ⟨t, a3, s3, e3, r3, gt⟩ := text_ok hl hn r2 (by omega) k hk
  obtain ⟨v4, a4, s4, e4, g4, g4', r4⟩ := pick_ok hl hn r3 (by omega) (show (1 : Int) ≤ 14 by omega)
  rw [bind_of e1, bind_of e2, bind_of e3, bind_of e4]
  split
  · obtain ⟨v5, a5, s5, e5, r5⟩ := raw_ok hl hn r4 (by omega)
    obtain ⟨v6, a6, s6, e6, g6, g6', r6⟩ := pick_ok hl hn r5 (by omega) (show (1 : Int) ≤ 3 by omega)
    rw [bind_of e5, bind_of (rfl : some _ = some _), bind_of e6]
    rw [if_pos g6, if_pos (by simpa using g6')]
    exact ⟨_, _, _, _, _, rfl, r6.up (by omega)⟩
  · split
    · obtain ⟨v5, a5, s5, e5, r5⟩ := raw_ok hl hn r4 (by omega)
      obtain ⟨v6, a6, s6, e6, g6, g6', r6⟩ := pick_ok hl hn r5 (by omega) (show (1 : Int) ≤ 3 by omega)
      rw [bind_of e5, bind_of (rfl : some _ = some _), bind_of e6]
      rw [if_pos g6, if_pos (by simpa using g6')]
      exact ⟨_, _, _, _, _, rfl, r6.up (by omega)⟩
    · split
      · obtain ⟨v5, a5, s5, e5, g5, g5', r5⟩ := pick_ok hl hn r4 (by omega) (show (1 : Int) ≤ 2 by omega)
        rw [bind_of e5]
        rw [w64 (n := 400 + v5) (by omega) (by omega), if_pos (by omega), if_pos (by omega)]
        exact ⟨_, _, _, _, _, rfl, r5.up (by omega)⟩
      · exact ⟨_, _, _, _, _, rfl, r4.up (by omega)⟩

theorem spot_ok {l : List Int} (hl : Bytes l) (hn : l.length ≤ 140737488351232) {n a s : Int} (h : RS n a s) (hb : n < 1000) :
    ∃ v a' s', spec_l01Cur_spot.f l a s = some (v, a', s') ∧ RS (n + 6) a' s' := by
  unfold spec_l01Cur_spot.f
  obtain ⟨v1, a1, s1, e1, g1, g1', r1⟩ := pick_ok hl hn h (by omega) (show (1 : Int) ≤ 26 by omega)
  obtain ⟨v2, a2, s2, e2, g2, g2', r2⟩ := pick_ok hl hn r1 (by omega) (show (1 : Int) ≤ 26 by omega)
  obtain ⟨v3, a3, s3, e3, g3, g3', r3⟩ := pick_ok hl hn r2 (by omega) (show (1 : Int) ≤ 26 by omega)
  obtain ⟨v4, a4, s4, e4, r4⟩ := raw_ok hl hn r3 (by omega)
  obtain ⟨v5, a5, s5, e5, g5, g5', r5⟩ := pick_ok hl hn r4 (by omega) (show (1 : Int) ≤ 6 by omega)
  rw [e1]; simp only [Option.bind_some]; rw [e2]; simp only [Option.bind_some]; rw [e3]; simp only [Option.bind_some]; rw [e4]; simp only [Option.bind_some]; rw [e5]; simp only [Option.bind_some]
  rw [if_pos g5, if_pos (by simpa using g5')]
  exact ⟨_, _, _, rfl, r5.up (by omega)⟩

theorem draw_ok {l : List Int} (hl : Bytes l) (hn : l.length ≤ 140737488351232) (k : Nat) (hk : 10 ≤ k) :
    ∃ p b x y z, spec_DrawPosMove.f k l = some (p, b, x, y, z) := by
  unfold spec_DrawPosMove.f spec_l01Open.f
  have h0 : RS 0 0 (97 + ((l.length : Int) % 1000)) := ⟨by omega, by omega, by omega, by omega⟩
  simp only [Option.bind_some]
  obtain ⟨x, y, z, a1, s1, e1, r1⟩ := small_ok hl hn h0 (by omega) k hk
  obtain ⟨v2, a2, s2, e2, r2⟩ := spot_ok hl hn r1 (by omega)
  obtain ⟨v3, a3, s3, e3, g3, g3', r3⟩ := pick_ok hl hn r2 (by omega) (show (1 : Int) ≤ 3 by omega)
  obtain ⟨v4, a4, s4, e4, g4, g4', r4⟩ := pick_ok hl hn r3 (by omega) (show (1 : Int) ≤ 2 by omega)
  rw [e1]; simp only [Option.bind_some]; rw [e2]; simp only [Option.bind_some]; rw [e3]; simp only [Option.bind_some]
  rw [if_pos g3, if_pos (by simpa using g3')]
  simp only [spec_l01Cur_once.f, e4, Option.bind_some]
  exact ⟨_, _, _, _, _, rfl⟩

theorem lpick_ok {l : List Int} (hl : Bytes l) (hn : l.length ≤ 140737488351232) (k : Nat) (hk : 10 ≤ k) :
    ∃ q, laws_pick.f k l 5 60 = some q ∧ 0 ≤ q ∧ q < 60 := by
  obtain ⟨k, rfl⟩ : ∃ q, k = q + 6 := ⟨k - 6, by omega⟩
  unfold laws_pick.f
  by_cases c : (l.length : Int) = 0
  · rw [if_pos c]; simp only [laws_pick.j0, if_true]; exact ⟨_, rfl, by omega, by omega⟩
  rw [if_neg c]
  have hs : ∀ (x : Int), 0 ≤ x → x < 3 → ∃ j, Int.tmod (wrap64 (5 + x)) l.length = j ∧ 0 ≤ j ∧ j < (l.length : Int) := by
    intro x h0 h1
    rw [w64 (by omega) (by omega)]
    have := tmod_lt (x := 5 + x) (m := (l.length : Int)) (by omega) (by omega)
    exact ⟨_, rfl, this⟩
  obtain ⟨j0, e0, a0, b0⟩ := hs 0 (by omega) (by omega)
  obtain ⟨j1, e1, a1, b1⟩ := hs 1 (by omega) (by omega)
  obtain ⟨j2, e2, a2, b2⟩ := hs 2 (by omega) (by omega)
  have r0 := rd_byte hl j0
  have r1 := rd_byte hl j1
  have r2 := rd_byte hl j2
  simp only [laws_pick.j0, laws_pick.l0, if_neg c, show decide ((60 : Int) < 2) = false from rfl, Bool.false_eq_true, if_false]
  rw [if_pos (by omega), e0, if_pos a0, if_pos b0, w64 (n := rd l j0) (by omega) (by omega)]
  rw [show wrap64 ((0 : Int) + 1) = 1 from (by unfold wrap64; omega), if_pos (by omega), e1, if_pos a1, if_pos b1, w64 (n := rd l j1) (by omega) (by omega)]
  rw [show wrap64 ((1 : Int) + 1) = 2 from (by unfold wrap64; omega), if_pos (by omega), e2, if_pos a2, if_pos b2, w64 (n := rd l j2) (by omega) (by omega)]
  rw [show wrap64 ((2 : Int) + 1) = 3 from (by unfold wrap64; omega), if_neg (by omega), if_neg (by omega)]
  rw [show wrap64 (31 * (0 : Int)) = 0 from (by unfold wrap64; omega), w64 (n := 0 + rd l j0) (by omega) (by omega), w64 (n := 31 * (0 + rd l j0)) (by omega) (by omega),
    w64 (n := 31 * (0 + rd l j0) + rd l j1) (by omega) (by omega), w64 (n := 31 * (31 * (0 + rd l j0) + rd l j1)) (by omega) (by omega),
    w64 (n := 31 * (31 * (0 + rd l j0) + rd l j1) + rd l j2) (by omega) (by omega), w64 (n := 31 * (31 * (0 + rd l j0) + rd l j1) + rd l j2 + 5) (by omega) (by omega)]
  have := tmod_lt (x := 31 * (31 * (0 + rd l j0) + rd l j1) + rd l j2 + 5) (m := 60) (by omega) (by omega)
  exact ⟨_, rfl, this.1, this.2⟩

/-- The place behind an edit. -/
def mv (p : Int) (right : Bool) (at_ cut n : Int) : Int :=
  if 0 ≤ p ∧ p ≤ 800 ∧ 0 ≤ at_ ∧ at_ ≤ 400 ∧ 0 ≤ cut ∧ cut ≤ 400 ∧ n ≤ 400 then
    if p < at_ then p else if p = at_ ∨ p < at_ + cut then (if right = true then at_ + n else at_) else p - cut + n
  else -1

theorem in_ok (a b c : Int) : impl_in.f a b c = some (decide (b ≤ a ∧ a ≤ c)) := by
  unfold impl_in.f; split <;> simp_all <;> omega
theorem isSmall_ok (a c : Int) (l : List Int) : impl_Edit_isSmall.f a c l = some (decide (0 ≤ a ∧ a ≤ 400 ∧ 0 ≤ c ∧ c ≤ 400 ∧ (l.length : Int) ≤ 400)) := by
  unfold impl_Edit_isSmall.f
  simp only [in_ok, Option.bind_some]
  by_cases h : 0 ≤ a ∧ a ≤ 400
  · by_cases h' : 0 ≤ c ∧ c ≤ 400
    · simp [h, h']
    · simp [h, h']; intro a b; omega
  · simp [h]; intro a b; omega
theorem pos_ok (k : Nat) (a c : Int) (l : List Int) (p : Int) (r : Bool) (h : 0 ≤ p ∧ p ≤ 800 ∧ 0 ≤ a ∧ a ≤ 400 ∧ 0 ≤ c ∧ c ≤ 400 ∧ (l.length : Int) ≤ 400) :
    impl_Edit_pos.f (k + 1) a c l p r = some (mv p r a c l.length) := by
  unfold impl_Edit_pos.f mv
  rw [if_pos h]
  have e1 : wrap64 (a + c) = a + c := w64 (by omega) (by omega)
  have e2 : wrap64 (a + (l.length : Int)) = a + l.length := w64 (by omega) (by omega)
  have e3 : wrap64 (p - c) = p - c := w64 (by omega) (by omega)
  have e4 : wrap64 (p - c + (l.length : Int)) = p - c + l.length := w64 (by omega) (by omega)
  simp only [impl_Edit_pos.j0, e1, e2, e3, e4, decide_eq_true_eq]
  by_cases h1 : p < a
  · rw [if_pos h1, if_pos h1]
  · rw [if_neg h1, if_neg h1]
    by_cases h2 : p = a
    · rw [if_pos h2, if_pos (Or.inl h2)]; cases r <;> rfl
    · rw [if_neg h2]
      by_cases h3 : p < a + c
      · rw [if_pos h3, if_pos (Or.inr h3)]; cases r <;> rfl
      · rw [if_neg h3, if_neg (by omega)]
theorem move_ok (k : Nat) (p : Int) (r : Bool) (a c : Int) (l : List Int) : impl_PosMove.f (k + 1) p r a c l = some (mv p r a c l.length) := by
  unfold impl_PosMove.f impl_isPos.f
  simp only [in_ok, Option.bind_some, isSmall_ok, decide_eq_true_eq]
  by_cases h : 0 ≤ p ∧ p ≤ 800
  · rw [if_pos h]
    by_cases h' : 0 ≤ a ∧ a ≤ 400 ∧ 0 ≤ c ∧ c ≤ 400 ∧ (l.length : Int) ≤ 400
    · rw [if_pos h', pos_ok k a c l p r ⟨h.1, h.2, h'⟩]; rfl
    · rw [if_neg h']; unfold mv; rw [if_neg (by omega)]
  · rw [if_neg h]; unfold mv; rw [if_neg (by omega)]
theorem smove_ok (k : Nat) (p : Int) (r : Bool) (a c : Int) (l : List Int) : spec_PosMove.f (k + 2) p r a c l = some (mv p r a c l.length) := by
  have e5 : spec_l06Place.f p = some (decide (0 ≤ p ∧ p ≤ 800)) := by unfold spec_l06Place.f; split <;> simp_all <;> omega
  have e6 : ∀ x, spec_l02Small.f x = some (decide (0 ≤ x ∧ x ≤ 400)) := by intro x; unfold spec_l02Small.f; split <;> simp_all <;> omega
  have e7 : spec_l05Small.f a c l = some (decide (0 ≤ a ∧ a ≤ 400 ∧ 0 ≤ c ∧ c ≤ 400 ∧ (l.length : Int) ≤ 400)) := by
    unfold spec_l05Small.f
    simp only [e6, Option.bind_some, decide_eq_true_eq]
    by_cases h : 0 ≤ a ∧ a ≤ 400
    · by_cases h' : 0 ≤ c ∧ c ≤ 400
      · simp [h, h']
      · simp [h, h']; intro a b; omega
    · simp [h]; intro a b; omega
  unfold spec_PosMove.f
  simp only [e5, Option.bind_some, e7, decide_eq_true_eq]
  by_cases h : 0 ≤ p ∧ p ≤ 800
  · rw [if_pos h]
    by_cases h' : 0 ≤ a ∧ a ≤ 400 ∧ 0 ≤ c ∧ c ≤ 400 ∧ (l.length : Int) ≤ 400
    · have e1 : wrap64 (a + c) = a + c := w64 (by omega) (by omega)
      have e2 : wrap64 (a + (l.length : Int)) = a + l.length := w64 (by omega) (by omega)
      have e3 : wrap64 (p - c) = p - c := w64 (by omega) (by omega)
      have e4 : wrap64 (p - c + (l.length : Int)) = p - c + l.length := w64 (by omega) (by omega)
      simp only [spec_PosMove.j0, spec_PosMove.j1, h', and_self, decide_true, Bool.not_true, Bool.false_eq_true, if_false, e1, e2, e3, e4, decide_eq_true_eq, if_true]
      unfold mv; rw [if_pos (show 0 ≤ p ∧ p ≤ 800 ∧ 0 ≤ a ∧ a ≤ 400 ∧ 0 ≤ c ∧ c ≤ 400 ∧ (l.length : Int) ≤ 400 from ⟨h.1, h.2, h'⟩)]
      by_cases h1 : p < a
      · rw [if_pos h1, if_pos h1]
      · rw [if_neg h1, if_neg h1]
        by_cases h2 : p = a
        · rw [if_pos h2, if_pos (Or.inl h2)]; cases r <;> rfl
        · rw [if_neg h2]
          by_cases h3 : p < a + c
          · rw [if_pos h3, if_pos (Or.inr h3)]; cases r <;> rfl
          · rw [if_neg h3, if_neg (by omega)]
    · simp only [spec_PosMove.j0, h', decide_false, Bool.not_false, if_true]; unfold mv; rw [if_neg (by omega)]
  · rw [if_neg h]; simp only [spec_PosMove.j0, if_true]; unfold mv; rw [if_neg (by omega)]

theorem mv_law (p q : Int) (r : Bool) (a c n : Int) (hn : 0 ≤ n) (hq : 0 ≤ q ∧ q < 60) (h : ¬ mv p r a c n < 0) :
    (0 ≤ p ∧ p ≤ 800 ∧ 0 ≤ a ∧ a ≤ 400 ∧ 0 ≤ c ∧ c ≤ 400 ∧ n ≤ 400) ∧ (p ≤ q → mv p r a c n ≤ mv q r a c n) ∧ (q ≤ p → mv q r a c n ≤ mv p r a c n) ∧ mv p false a c n ≤ mv p true a c n ∧ (p < a + c ∨ mv p r a c n = p - c + n ∨ p = a) := by
  have g : 0 ≤ p ∧ p ≤ 800 ∧ 0 ≤ a ∧ a ≤ 400 ∧ 0 ≤ c ∧ c ≤ 400 ∧ n ≤ 400 := by
    unfold mv at h
    by_cases g : 0 ≤ p ∧ p ≤ 800 ∧ 0 ≤ a ∧ a ≤ 400 ∧ 0 ≤ c ∧ c ≤ 400 ∧ n ≤ 400
    · exact g
    · rw [if_neg g] at h; omega
  have g' : 0 ≤ q ∧ q ≤ 800 ∧ 0 ≤ a ∧ a ≤ 400 ∧ 0 ≤ c ∧ c ≤ 400 ∧ n ≤ 400 := by omega
  refine ⟨g, ?_⟩
  unfold mv
  rw [if_pos g, if_pos g', if_pos g, if_pos g]
  simp only [if_true, Bool.false_eq_true, if_false]
  clear h
  by_cases h1 : p < a <;> by_cases h2 : q < a <;> by_cases h3 : p = a ∨ p < a + c <;> by_cases h4 : q = a ∨ q < a + c <;> cases r <;> simp only [h1, h2, h3, h4, if_true, if_false, Bool.false_eq_true] <;> (refine ⟨fun _ => ?_, fun _ => ?_, ?_, ?_⟩ <;> first | omega | simp)

theorem FnPosOrder : laws_FnPosOrder.Pure := by
  intro l _ hn hb
  have hl : Bytes l := by
    intro x hx
    have := hb x hx
    simp only [Lit.wf, IntKind.min, IntKind.max, IntKind.signed, IntKind.bits, Bool.and_eq_true, decide_eq_true_eq, Bool.false_eq_true, if_false] at this
    omega
  refine ⟨20, ?_⟩
  unfold laws_FnPosOrder.f laws_big.f
  simp only [Option.bind_some]
  split
  · rfl
  obtain ⟨p, b, x, y, z, e⟩ := draw_ok hl (by omega) 20 (by omega)
  obtain ⟨q, eq, hq⟩ := lpick_ok hl (by omega) 20 (by omega)
  simp only [e, eq, Option.bind_some, move_ok, smove_ok, if_true, laws_FnPosOrder.j0, decide_eq_true_eq]
  split
  · simp
  rename_i hneg
  obtain ⟨g, l1, l2, l3, l4⟩ := mv_law p q b x y z.length (by omega) hq hneg
  have e1 : wrap64 (x + y) = x + y := w64 (by omega) (by omega)
  have e3 : wrap64 (p - y) = p - y := w64 (by omega) (by omega)
  have e4 : wrap64 (p - y + (z.length : Int)) = p - y + z.length := w64 (by omega) (by omega)
  simp only [e1, e3, e4, l3, if_true]
  repeat' split
  all_goals first | rfl | omega | skip
  all_goals (simp; omega)

end Go.Proofs.Ytfgnddgckhpbiaa.Pure
