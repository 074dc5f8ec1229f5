/- Lists of edits on a stack: all small, copied, the top. -/
import Derived.Test.YtfgnddgckhpbiaaEvMoves
import Derived.Test.YtfgnddgckhpbiaaEvWeak
namespace Go.Ev
theorem loop_all {α ρ : Type} {R : Nat → Int → ρ} {p : α → Bool} {kt kf : ρ} {xs : List α} {z : α}
    (hs : ∀ m (i : Nat), i < xs.length → R (m + 1) i = bif p (xs.getD i z) then R m ((i + 1 : Nat) : Int) else kf)
    (he : ∀ m, R (m + 1) (xs.length : Nat) = kt) : R (xs.length + 1) 0 = bif xs.all p then kt else kf := by
  have key : ∀ (j i : Nat), i + j = xs.length → R (j + 1) i = bif (xs.drop i).all p then kt else kf := by
    intro j
    induction j with
    | zero =>
      intro i hi
      have : i = xs.length := by omega
      subst this
      rw [he 0, List.drop_length]; rfl
    | succ j ih =>
      intro i hi
      have hlt : i < xs.length := by omega
      have hx : xs.getD i z = xs[i] := by rw [List.getD_eq_getElem?_getD, List.getElem?_eq_getElem hlt]; rfl
      rw [hs _ i hlt, List.drop_eq_getElem_cons hlt, hx, List.all_cons]
      cases p xs[i] with
      | true => rw [cond_true, ih (i + 1) (by omega)]; rfl
      | false => rfl
  have := key xs.length 0 (by omega)
  simpa using this
theorem loop_find {α ρ : Type} {R : Nat → Int → ρ} {p : α → Bool} {kt : ρ} {kf : Int → ρ} {xs : List α} {z : α}
    (hs : ∀ m (i : Nat), i < xs.length → R (m + 1) i = bif p (xs.getD i z) then kf i else R m ((i + 1 : Nat) : Int))
    (he : ∀ m, R (m + 1) (xs.length : Nat) = kt) : R (xs.length + 1) 0 = (match xs.findIdx? p with
      | some i => kf i
      | none => kt) := by
  have key : ∀ (j i : Nat), i + j = xs.length → R (j + 1) i = (match (xs.drop i).findIdx? p with
      | some k => kf ((k + i : Nat) : Int)
      | none => kt) := by
    intro j
    induction j with
    | zero =>
      intro i hi
      have : i = xs.length := by omega
      subst this
      rw [he 0, List.drop_length]; rfl
    | succ j ih =>
      intro i hi
      have hlt : i < xs.length := by omega
      have hx : xs.getD i z = xs[i] := by rw [List.getD_eq_getElem?_getD, List.getElem?_eq_getElem hlt]; rfl
      rw [hs _ i hlt, List.drop_eq_getElem_cons hlt, hx, List.findIdx?_cons]
      cases h : p xs[i] with
      | true => simp
      | false =>
        rw [cond_false, ih (i + 1) (by omega)]
        simp only [Bool.false_eq_true, if_false]
        cases (xs.drop (i + 1)).findIdx? p with
        | none => rfl
        | some k => show kf ((k + (i + 1) : Nat) : Int) = kf ((k + 1 + i : Nat) : Int); congr 2; omega
  have := key xs.length 0 (by omega)
  simpa using this
end Go.Ev
namespace Go.Ev.Seat
open Go.RowKit
set_option maxRecDepth 100000
set_option linter.unusedVariables false
variable {I : Nat → World → Prop}
def okL (l : List T_Edit) : Bool := decide (((l.length : Nat) : Int) ≤ 6) && l.all smallE
def S_okL : Sm := S_fn [.l editR] (fun d => preL d.1) (fun d => bl (okL d.1))
def stackOk (s : T_Stack) : Bool := okL s.1 && okL s.2
def S_stackOk : Sm := S_fn [.a stackR] (fun d => preL d.1.1 && preL d.1.2) (fun d => bl (stackOk d.1))
-- l08All
def sh_all : Ss := { tm := (.cons (.l .no editR) (.cons (.x) (.cons (.x) (.cons (.int .i64) (xsh 15))))), ob := .nil, nx := 0, io := .nil }
def d_all (x0 : List T_Edit) (x3 : Int) : sh_all.T := ((x0, ((), ((), (x3, xd 15)))), (), ())
def y_all : St := { tm := ([.x, .x, (.s (.bool false))] ++ List.replicate 16 .x), ob := [], nx := 0, io := [] }
def z_all : St := { tm := ([] ++ List.replicate 19 .x), ob := [], nx := 0, io := [] }
def R_all (d : sh_all.T) (K : Ex → St → Option Ret) : Option Ret := match d with
  | ((x0, (_, (_, (x3, _)))), _, _) => bif (x3 == 0) && preL x0 then (bif List.all x0 smallE then K (.ext 0) z_all else K .ret y_all) else none
noncomputable abbrev ls_all : List (Nat × Bool × Sm) := [(N.s_l05Small, true, S_smallE)]
noncomputable abbrev lo_all : List (Nat × List Nat × List Nat × LoopFn) := [(4, [0,3], [2], loopF sh_all R_all)]
noncomputable abbrev L_all (n : Nat) (x0 : List T_Edit) (x3 : Int) (K : Ex → St → Option Ret) : Option Ret := rounds (run (En ls_all [] lo_all) (bodyOf F.s_l08All 4)) [0,3] [2] n (sh_all.mk' (d_all x0 x3)) K
theorem step_all (n : Nat) (x0 : List T_Edit) (x3 : Int) (K : Ex → St → Option Ret) : L_all (n + 1) x0 x3 K =
 (bif decide (x3 < (((List.length x0) : Nat) : Int)) then
 (bif (decide ((0 : Int) ≤ x3) && decide (x3 < (((List.length x0) : Nat) : Int))) then
  (bif (!(smallE (List.getD x0 (Int.toNat x3) (editR.dflt)))) then K .ret y_all
   else L_all n x0 (IntKind.wrap .i64 (x3 + (1 : Int))) K)
  else none)
 else K (.ext 0) z_all) := by kernel_rfl
theorem go_all (x0 : List T_Edit) (K : Ex → St → Option Ret) (h : preL x0 = true) : L_all (x0.length + 1) x0 0 K = bif List.all x0 smallE then K (.ext 0) z_all else K .ret y_all :=
  loop_all (R := fun n i => L_all n x0 i K) (z := editR.dflt) (fun m i hi => by
    have h3 : x0.length ≤ 4611686018427387904 := Nat.le_of_ble_eq_true h
    refine (step_all m x0 i K).trans ?_
    rw [decide_eq_true (show ((i : Nat) : Int) < ((x0.length : Nat) : Int) by omega), decide_eq_true (show (0 : Int) ≤ ((i : Nat) : Int) by omega), wrap_nat (show i ≤ 4611686018427387904 by omega), Int.toNat_natCast]
    cases smallE (x0.getD i editR.dflt) <;> rfl) (fun m => by
    refine (step_all m x0 _ K).trans ?_
    rw [decide_eq_false (show ¬ ((x0.length : Nat) : Int) < ((x0.length : Nat) : Int) by omega)]; rfl)
theorem loopK_all : LoopOk (En ls_all [] lo_all) (bodyOf F.s_l08All 4) := by
  refine loopF_ok (n := 4) (sh := sh_all) (R := R_all) (by kernel_rfl) rfl rfl (fun d K r hr => ?_)
  obtain ⟨⟨x0, u1, u2, x3, u4⟩, u5, u6⟩ := d
  unfold R_all at hr
  simp only at hr
  cases hc : ((x3 == 0) && preL x0) with
  | false => rw [hc] at hr; cases hr
  | true =>
    rw [hc] at hr
    simp only [Bool.and_eq_true, beq_iff_eq] at hc
    obtain ⟨rfl, h3⟩ := hc
    exact ⟨x0.length + 1, (go_all x0 K h3).trans hr⟩
theorem ev_all (l : List T_Edit) (K : Ret → Option Ret) (h : preL l = true) : evF (En ls_all [] lo_all) true F.s_l08All [.l .no editR l] K = K (bl (okL l), []) := by
  have eTr : evF (En ls_all [] lo_all) true F.s_l08All [.l .no editR l] K = (bif decide (((List.length l : Nat) : Int) > 6) then K (bl false, []) else (bif ((0 : Int) == 0) && preL l then (bif List.all l smallE then K (bl true, []) else K (bl false, [])) else none)) := by kernel_rfl
  refine eTr.trans ?_
  rw [h]
  unfold okL
  by_cases h6 : ((List.length l : Nat) : Int) > 6
  · rw [decide_eq_true h6, decide_eq_false (show ¬ ((List.length l : Nat) : Int) ≤ 6 by omega)]; rfl
  · rw [decide_eq_false h6, decide_eq_true (show ((List.length l : Nat) : Int) ≤ 6 by omega)]
    show (bif List.all l smallE then K (bl true, []) else K (bl false, [])) = K (bl (true && List.all l smallE), [])
    cases List.all l smallE <;> rfl
theorem okS_all : OkFn prog I N.s_l08All true S_okL := okW (ok_fn (memc okS_l05Small mem0) (l := ls_all) (p := []) (ls := lo_all) (lend := []) (focus := false) (fuel := 0) (fn := F.s_l08All) (by kernel_rfl) (by kernel_rfl) (by kernel_rfl) (by kernel_rfl) (cs := [bodyOf F.s_l08All 4]) (by kernel_rfl) (loopsc loopK_all loops0)) (S_fn_of fun d K h => ev_all d.1 K h)
-- IndexFunc with the closure
def idxD (l : List T_Edit) : Int := match l.findIdx? (fun e => !smallE e) with
  | some i => (i : Nat)
  | none => -1
theorem idxD_all (l : List T_Edit) : decide (idxD l ≥ 0) = !(l.all smallE) := by
  unfold idxD
  cases h : l.findIdx? (fun e => !smallE e) with
  | none =>
    have : l.all smallE = true := by
      rw [List.findIdx?_eq_none_iff] at h
      rw [List.all_eq_true]
      intro x hx
      have := h x hx
      simpa using this
    rw [this]; rfl
  | some i =>
    have : l.all smallE = false := by
      rw [List.findIdx?_eq_some_iff_getElem] at h
      obtain ⟨h1, h2, _⟩ := h
      rw [List.all_eq_false]
      exact ⟨l[i], List.getElem_mem h1, by simpa using h2⟩
    rw [this]
    exact decide_eq_true (show ((i : Nat) : Int) ≥ 0 by omega)
def S_big : Sm := S_fn [.a editR] (fun _ => true) (fun d => bl (!smallE d.1))
noncomputable abbrev ls_big : List (Nat × Bool × Sm) := [(N.i_Edit_isSmall, true, S_smallE)]
noncomputable abbrev pl_big : List (Nat × Plan × List Nat) := []
theorem ev_big (a : T_Edit) (K : Ret → Option Ret) : evF (En ls_big pl_big) true F.i_areStacked_1 [.a (editR.cells .no a)] K = K (bl (!smallE a), []) := by
  have eTr : evF (En ls_big pl_big) true F.i_areStacked_1 [.a (editR.cells .no a)] K =
 K (bl (!smallE a), []) := by kernel_rfl
  refine eTr.trans ?_
  rfl
theorem okS_big : OkFn prog I N.i_areStacked_1 true S_big := okW (ok_fn (memc okS_isSmall mem0) (l := ls_big) (p := pl_big) (ls := []) (lend := []) (focus := false) (fuel := 0) (fn := F.i_areStacked_1) (by kernel_rfl) (by kernel_rfl) (by kernel_rfl) (by kernel_rfl) (cs := []) (by kernel_rfl) loops0) (S_fn_of fun d K h => ev_big d.1 K)
def S_idxF : Sm := fun vs K => match vs with
  | [v, .f g []] => bif Nat.beq g N.i_areStacked_1 then (match (Cc.sl editR).dec v with
    | some (l : List T_Edit) => bif preL l then K (sc (idxD l), []) else none
    | none => none) else none
  | _ => none
def S_contF : Sm := fun vs K => match vs with
  | [v, .f g []] => bif Nat.beq g N.i_areStacked_1 then (match (Cc.sl editR).dec v with
    | some (l : List T_Edit) => bif preL l then K (bl (!(l.all smallE)), []) else none
    | none => none) else none
  | _ => none
def sh_idx : Ss := { tm := (.cons (.l .no editR) (.cons (.f N.i_areStacked_1 .nil) (.cons (.x) (.cons (.x) (.cons (.x) (.cons (.x) (.cons (.x) (.cons (.int .i64) (.cons (.int .i64) (xsh 10)))))))))), ob := .nil, nx := 0, io := .nil }
def d_idx (x0 : List T_Edit) (x7 : Int) (x8 : Int) : sh_idx.T := ((x0, ((), ((), ((), ((), ((), ((), (x7, (x8, xd 10))))))))), (), ())
def y_idx (i : Int) : St := { tm := ([.x, .x, .x, .x, (.s (.int .i64 i))] ++ List.replicate 14 .x), ob := [], nx := 0, io := [] }
def R_idx (d : sh_idx.T) (K : Ex → St → Option Ret) : Option Ret := match d with
  | ((x0, (_, (_, (_, (_, (_, (_, (x7, (x8, _))))))))), _, _) => bif (x8 == 0) && (x7 == ((List.length x0 : Nat) : Int)) && preL x0 then (match List.findIdx? (fun e => !smallE e) x0 with
    | some i => K .ret (y_idx ((i : Nat) : Int))
    | none => K (.ext 0) z_all) else none
noncomputable abbrev ls_idx : List (Nat × Bool × Sm) := [(N.i_areStacked_1, true, S_big)]
noncomputable abbrev lo_idx : List (Nat × List Nat × List Nat × LoopFn) := [(2, [0,1,7,8], [4], loopF sh_idx R_idx)]
noncomputable abbrev L_idx (n : Nat) (x0 : List T_Edit) (x7 x8 : Int) (K : Ex → St → Option Ret) : Option Ret := rounds (run (En ls_idx [] lo_idx) (bodyOf F.slices_IndexFunc_Edit 2)) [0,1,7,8] [4] n (sh_idx.mk' (d_idx x0 x7 x8)) K
theorem step_idx (n : Nat) (x0 : List T_Edit) (x7 : Int) (x8 : Int) (K : Ex → St → Option Ret) : L_idx (n + 1) x0 x7 x8 K =
 (bif decide (x8 < x7) then
 (bif (decide ((0 : Int) ≤ x8) && decide (x8 < (((List.length x0) : Nat) : Int))) then
  (bif (!(smallE (List.getD x0 (Int.toNat x8) (editR.dflt)))) then
   K .ret (y_idx x8)
   else L_idx n x0 x7 (IntKind.wrap .i64 (x8 + (1 : Int))) K)
  else none)
 else K (.ext 0) z_all) := by kernel_rfl
theorem go_idx (x0 : List T_Edit) (K : Ex → St → Option Ret) (h : preL x0 = true) : L_idx (x0.length + 1) x0 ((x0.length : Nat) : Int) 0 K = (match x0.findIdx? (fun e => !smallE e) with
    | some i => K .ret (y_idx ((i : Nat) : Int))
    | none => K (.ext 0) z_all) :=
  loop_find (R := fun n i => L_idx n x0 ((x0.length : Nat) : Int) i K) (kf := fun i => K .ret (y_idx i)) (z := editR.dflt) (fun m i hi => by
    have h3 : x0.length ≤ 4611686018427387904 := Nat.le_of_ble_eq_true h
    refine (step_idx m x0 _ i K).trans ?_
    rw [decide_eq_true (show ((i : Nat) : Int) < ((x0.length : Nat) : Int) by omega), decide_eq_true (show (0 : Int) ≤ ((i : Nat) : Int) by omega), wrap_nat (show i ≤ 4611686018427387904 by omega), Int.toNat_natCast]
    rfl) (fun m => by
    refine (step_idx m x0 _ _ K).trans ?_
    rw [decide_eq_false (show ¬ ((x0.length : Nat) : Int) < ((x0.length : Nat) : Int) by omega)]; rfl)
theorem loopK_idx : LoopOk (En ls_idx [] lo_idx) (bodyOf F.slices_IndexFunc_Edit 2) := by
  refine loopF_ok (n := 2) (sh := sh_idx) (R := R_idx) (by kernel_rfl) rfl rfl (fun d K r hr => ?_)
  obtain ⟨⟨x0, u1, u2, u3, u4, u5, u6, x7, x8, u7⟩, u8, u9⟩ := d
  unfold R_idx at hr
  simp only at hr
  cases hc : ((x8 == 0) && (x7 == ((List.length x0 : Nat) : Int)) && preL x0) with
  | false => rw [hc] at hr; cases hr
  | true =>
    rw [hc] at hr
    simp only [Bool.and_eq_true, beq_iff_eq] at hc
    obtain ⟨⟨rfl, rfl⟩, h3⟩ := hc
    exact ⟨x0.length + 1, (go_idx x0 K h3).trans hr⟩
theorem ev_idx (l : List T_Edit) (K : Ret → Option Ret) (h : preL l = true) : evF (En ls_idx [] lo_idx) true F.slices_IndexFunc_Edit [.l .no editR l, .f N.i_areStacked_1 []] K = K (sc (idxD l), []) := by
  have eTr : evF (En ls_idx [] lo_idx) true F.slices_IndexFunc_Edit [.l .no editR l, .f N.i_areStacked_1 []] K = (bif ((0 : Int) == 0) && (((List.length l : Nat) : Int) == ((List.length l : Nat) : Int)) && preL l then (match List.findIdx? (fun e => !smallE e) l with
    | some i => K (sc ((i : Nat) : Int), [])
    | none => K (sc (-1), [])) else none) := by kernel_rfl
  refine eTr.trans ?_
  rw [h, beq_self_eq_true, beq_self_eq_true]
  unfold idxD
  cases l.findIdx? (fun e => !smallE e) <;> rfl
theorem okS_idx : OkFn prog I N.slices_IndexFunc_Edit true S_idxF := okW (ok_fn (memc okS_big mem0) (l := ls_idx) (p := []) (ls := lo_idx) (lend := []) (focus := false) (fuel := 0) (fn := F.slices_IndexFunc_Edit) (by kernel_rfl) (by kernel_rfl) (by kernel_rfl) (by kernel_rfl) (cs := [bodyOf F.slices_IndexFunc_Edit 2]) (by kernel_rfl) (loopsc loopK_idx loops0)) (fun ws K q hr => by
  unfold S_idxF at hr
  split at hr
  · rename_i v g
    cases hg : Nat.beq g N.i_areStacked_1 with
    | false => rw [hg] at hr; cases hr
    | true =>
      rw [hg] at hr
      have := Nat.eq_of_beq_eq_true hg
      subst this
      simp only [cond_true] at hr
      split at hr
      · rename_i l hl
        rw [Cc.dec_ok _ hl]
        cases hp : preL l with
        | false => rw [hp] at hr; cases hr
        | true => rw [hp] at hr; exact (ev_idx l K hp).trans hr
      · cases hr
  · cases hr)
noncomputable abbrev ls_cont : List (Nat × Bool × Sm) := [(N.slices_IndexFunc_Edit, true, S_idxF)]
theorem ev_cont (l : List T_Edit) (K : Ret → Option Ret) (h : preL l = true) : evF (En ls_cont) true F.slices_ContainsFunc_Edit [.l .no editR l, .f N.i_areStacked_1 []] K = K (bl (!(l.all smallE)), []) := by
  have eTr : evF (En ls_cont) true F.slices_ContainsFunc_Edit [.l .no editR l, .f N.i_areStacked_1 []] K = (bif preL l then K (bl (decide (idxD l ≥ 0)), []) else none) := by kernel_rfl
  refine eTr.trans ?_
  rw [h, idxD_all]; rfl
theorem okS_cont : OkFn prog I N.slices_ContainsFunc_Edit true S_contF := okW (ok_fn (memc okS_idx mem0) (l := ls_cont) (p := []) (ls := []) (lend := []) (focus := false) (fuel := 0) (fn := F.slices_ContainsFunc_Edit) (by kernel_rfl) (by kernel_rfl) (by kernel_rfl) (by kernel_rfl) (cs := []) (by kernel_rfl) loops0) (fun ws K q hr => by
  unfold S_contF at hr
  split at hr
  · rename_i v g
    cases hg : Nat.beq g N.i_areStacked_1 with
    | false => rw [hg] at hr; cases hr
    | true =>
      rw [hg] at hr
      have := Nat.eq_of_beq_eq_true hg
      subst this
      simp only [cond_true] at hr
      split at hr
      · rename_i l hl
        rw [Cc.dec_ok _ hl]
        cases hp : preL l with
        | false => rw [hp] at hr; cases hr
        | true => rw [hp] at hr; exact (ev_cont l K hp).trans hr
      · cases hr
  · cases hr)
noncomputable abbrev ls_areStacked : List (Nat × Bool × Sm) := [(N.slices_ContainsFunc_Edit, true, S_contF)]
noncomputable abbrev pl_areStacked : List (Nat × Plan × List Nat) := []
theorem ev_areStacked (l : List T_Edit) (K : Ret → Option Ret) (h0 : preL l = true) : evF (En ls_areStacked pl_areStacked) true F.i_areStacked [.l .no editR l] K = K (bl (okL l), []) := by
  have eTr : evF (En ls_areStacked pl_areStacked) true F.i_areStacked [.l .no editR l] K =
 (bif decide (((List.length l : Nat) : Int) ≤ 6) then (bif preL l then K (bl (!(!(List.all l smallE))), []) else none) else K (bl false, [])) := by kernel_rfl
  refine eTr.trans ?_
  rw [h0]
  unfold okL
  rw [Bool.not_not]
  cases decide (((List.length l : Nat) : Int) ≤ 6) <;> rfl
theorem okS_areStacked : OkFn prog I N.i_areStacked true S_okL := okW (ok_fn (memc okS_cont mem0) (l := ls_areStacked) (p := pl_areStacked) (ls := []) (lend := []) (focus := false) (fuel := 0) (fn := F.i_areStacked) (by kernel_rfl) (by kernel_rfl) (by kernel_rfl) (by kernel_rfl) (cs := []) (by kernel_rfl) loops0) (S_fn_of fun d K h => ev_areStacked d.1 K h)
noncomputable abbrev ls_sStackOk : List (Nat × Bool × Sm) := [(N.s_l08All, true, S_okL)]
noncomputable abbrev pl_sStackOk : List (Nat × Plan × List Nat) := []
theorem ev_sStackOk (s : T_Stack) (K : Ret → Option Ret) (h0 : (preL s.1 && preL s.2) = true) : evF (En ls_sStackOk pl_sStackOk) true F.s_StackOk [.a (stackR.cells .no s)] K = K (bl (stackOk s), []) := by
  have eTr : evF (En ls_sStackOk pl_sStackOk) true F.s_StackOk [.a (stackR.cells .no s)] K =
 (bif preL s.1 then (bif okL s.1 then (bif preL s.2 then K (bl (okL s.2), []) else none) else K (bl false, [])) else none) := by kernel_rfl
  refine eTr.trans ?_
  simp only [Bool.and_eq_true] at h0
  rw [h0.1, h0.2]
  unfold stackOk
  cases okL s.1 <;> rfl
theorem okS_sStackOk : OkFn prog I N.s_StackOk true S_stackOk := okW (ok_fn (memc okS_all mem0) (l := ls_sStackOk) (p := pl_sStackOk) (ls := []) (lend := []) (focus := false) (fuel := 0) (fn := F.s_StackOk) (by kernel_rfl) (by kernel_rfl) (by kernel_rfl) (by kernel_rfl) (cs := []) (by kernel_rfl) loops0) (S_fn_of fun d K h => ev_sStackOk d.1 K h)
noncomputable abbrev ls_isStack : List (Nat × Bool × Sm) := [(N.i_areStacked, true, S_okL)]
noncomputable abbrev pl_isStack : List (Nat × Plan × List Nat) := []
theorem ev_isStack (s : T_Stack) (K : Ret → Option Ret) (h0 : (preL s.1 && preL s.2) = true) : evF (En ls_isStack pl_isStack) true F.i_isStack [.a (stackR.cells .no s)] K = K (bl (stackOk s), []) := by
  have eTr : evF (En ls_isStack pl_isStack) true F.i_isStack [.a (stackR.cells .no s)] K =
 (bif preL s.1 then (bif okL s.1 then (bif preL s.2 then K (bl (okL s.2), []) else none) else K (bl false, [])) else none) := by kernel_rfl
  refine eTr.trans ?_
  simp only [Bool.and_eq_true] at h0
  rw [h0.1, h0.2]
  unfold stackOk
  cases okL s.1 <;> rfl
theorem okS_isStack : OkFn prog I N.i_isStack true S_stackOk := okW (ok_fn (memc okS_areStacked mem0) (l := ls_isStack) (p := pl_isStack) (ls := []) (lend := []) (focus := false) (fuel := 0) (fn := F.i_isStack) (by kernel_rfl) (by kernel_rfl) (by kernel_rfl) (by kernel_rfl) (cs := []) (by kernel_rfl) loops0) (S_fn_of fun d K h => ev_isStack d.1 K h)
end Go.Ev.Seat
