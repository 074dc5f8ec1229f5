/- Positions, spans and edits moved. -/
import Derived.Test.YtfgnddgckhpbiaaEvJoin
namespace Go.Ev.Seat
open Go.RowKit
set_option maxRecDepth 100000
set_option linter.unusedVariables false
variable {I : Nat → World → Prop}
def placeB (p : Int) : Bool := decide (0 ≤ p) && decide (p ≤ 800)
def S_place : Sm := S_fn [.i] (fun _ => true) (fun d => bl (placeB d.1))
def posD (e : T_Edit) (p : Int) (r : Bool) : Int := bif decide (p < e.1) then p else bif p == e.1 then (bif r then e.1 + ((List.length e.2.2 : Nat) : Int) else e.1) else bif decide (p < e.1 + e.2.1) then (bif r then e.1 + ((List.length e.2.2 : Nat) : Int) else e.1) else p - e.2.1 + ((List.length e.2.2 : Nat) : Int)
def S_sPos : Sm := S_fn [.i, .b, .a editR] (fun _ => true) (fun d => sc (bif placeB d.1 && smallE d.2.2.1 then posD d.2.2.1 d.1 d.2.1 else -1))
def S_iPos : Sm := S_fn [.a editR, .i, .b] (fun d => placeB d.2.1 && smallE d.1) (fun d => sc (posD d.1 d.2.1 d.2.2.1))
def spanD (e : T_Edit) (i j : Int) : Int × Int := (posD e i true, bif i == j then posD e i true else max (posD e i true) (posD e j false))
def S_sSpan : Sm := S_fn [.i, .i, .a editR] (fun d => placeB d.1 && placeB d.2.1 && smallE d.2.2.1 && decide (d.1 ≤ d.2.1)) (fun d => .t [sc (spanD d.2.2.1 d.1 d.2.1).1, sc (spanD d.2.2.1 d.1 d.2.1).2])
def S_iSpan : Sm := S_fn [.a editR, .i, .i] (fun d => placeB d.2.1 && placeB d.2.2.1 && smallE d.1 && decide (d.2.1 ≤ d.2.2.1)) (fun d => .t [sc (spanD d.1 d.2.1 d.2.2.1).1, sc (spanD d.1 d.2.1 d.2.2.1).2])
def movedD (a b : T_Edit) : T_Edit := (posD b a.1 true, (spanD b a.1 (a.1 + a.2.1)).2 - posD b a.1 true, a.2.2)
def moveD (a b : T_Edit) : T_Edit × Bool := bif smallE a && smallE b then (movedD a b, true) else badE
theorem place_iff {p : Int} (h : placeB p = true) : 0 ≤ p ∧ p ≤ 800 := by
  simpa only [placeB, Bool.and_eq_true, decide_eq_true_eq] using h
theorem place_of {p : Int} (h0 : 0 ≤ p) (h1 : p ≤ 800) : placeB p = true := by
  unfold placeB; rw [decide_eq_true h0, decide_eq_true h1]; rfl
theorem pos_range {e : T_Edit} {p : Int} {r : Bool} (hp : placeB p = true) (he : smallE e = true) : 0 ≤ posD e p r ∧ posD e p r ≤ 1200 := by
  obtain ⟨p1, p2⟩ := place_iff hp
  obtain ⟨e1, e2, e3, e4, e5⟩ := small_iff he
  unfold posD
  by_cases h1 : p < e.1
  · rw [decide_eq_true h1]; show 0 ≤ p ∧ p ≤ 1200; omega
  · rw [decide_eq_false h1]
    by_cases h2 : p = e.1
    · rw [show (p == e.1) = true by simp [h2]]
      cases r
      · exact ⟨e1, by show e.1 ≤ 1200; omega⟩
      · show 0 ≤ e.1 + ((List.length e.2.2 : Nat) : Int) ∧ e.1 + ((List.length e.2.2 : Nat) : Int) ≤ 1200; omega
    · rw [show (p == e.1) = false by simp [h2]]
      by_cases h3 : p < e.1 + e.2.1
      · rw [decide_eq_true h3]
        cases r
        · exact ⟨e1, by show e.1 ≤ 1200; omega⟩
        · show 0 ≤ e.1 + ((List.length e.2.2 : Nat) : Int) ∧ e.1 + ((List.length e.2.2 : Nat) : Int) ≤ 1200; omega
      · rw [decide_eq_false h3]
        show 0 ≤ p - e.2.1 + ((List.length e.2.2 : Nat) : Int) ∧ p - e.2.1 + ((List.length e.2.2 : Nat) : Int) ≤ 1200; omega
noncomputable abbrev ls_l06Place : List (Nat × Bool × Sm) := []
noncomputable abbrev pl_l06Place : List (Nat × Plan × List Nat) := []
theorem ev_l06Place (a : Int) (K : Ret → Option Ret) : evF (En ls_l06Place pl_l06Place) true F.s_l06Place [.s (.int .i64 a)] K = K (bl (placeB a), []) := by
  have eTr : evF (En ls_l06Place pl_l06Place) true F.s_l06Place [.s (.int .i64 a)] K =
 (bif decide (a ≥ (0 : Int)) then K (bl (decide (a ≤ (800 : Int))), []) else K (bl false, [])) := by kernel_rfl
  refine eTr.trans ?_
  unfold placeB
  by_cases h : 0 ≤ a
  · rw [decide_eq_true (show a ≥ 0 from h)]; rfl
  · rw [decide_eq_false (show ¬ a ≥ 0 from h)]; rfl
theorem okS_l06Place : OkFn prog I N.s_l06Place true S_place := okW (ok_fn mem0 (l := ls_l06Place) (p := pl_l06Place) (ls := []) (lend := []) (focus := false) (fuel := 0) (fn := F.s_l06Place) (by kernel_rfl) (by kernel_rfl) (by kernel_rfl) (by kernel_rfl) (cs := []) (by kernel_rfl) loops0) (S_fn_of fun d K h => ev_l06Place d.1 K)
noncomputable abbrev ls_isPos : List (Nat × Bool × Sm) := [(N.i_in, true, S_in)]
noncomputable abbrev pl_isPos : List (Nat × Plan × List Nat) := []
theorem ev_isPos (a : Int) (K : Ret → Option Ret) : evF (En ls_isPos pl_isPos) true F.i_isPos [.s (.int .i64 a)] K = K (bl (placeB a), []) := by
  have eTr : evF (En ls_isPos pl_isPos) true F.i_isPos [.s (.int .i64 a)] K =
 K (bl (decide ((0 : Int) ≤ a) && decide (a ≤ (800 : Int))), []) := by kernel_rfl
  refine eTr.trans ?_
  rfl
theorem okS_isPos : OkFn prog I N.i_isPos true S_place := okW (ok_fn (memc okS_in mem0) (l := ls_isPos) (p := pl_isPos) (ls := []) (lend := []) (focus := false) (fuel := 0) (fn := F.i_isPos) (by kernel_rfl) (by kernel_rfl) (by kernel_rfl) (by kernel_rfl) (cs := []) (by kernel_rfl) loops0) (S_fn_of fun d K h => ev_isPos d.1 K)
noncomputable abbrev ls_sPos : List (Nat × Bool × Sm) := [(N.s_l06Place, true, S_place), (N.s_l05Small, true, S_smallE)]
noncomputable abbrev pl_sPos : List (Nat × Plan × List Nat) := []
theorem ev_sPos (p : Int) (r : Bool) (e : T_Edit) (K : Ret → Option Ret) : evF (En ls_sPos pl_sPos) true F.s_PosMove [.s (.int .i64 p), .s (.bool r), .a (editR.cells .no e)] K = K (sc (bif placeB p && smallE e then posD e p r else -1), []) := by
  have eTr : evF (En ls_sPos pl_sPos) true F.s_PosMove [.s (.int .i64 p), .s (.bool r), .a (editR.cells .no e)] K =
 (bif (!(placeB p)) then K (sc (-1), []) else (bif (!(smallE e)) then K (sc (-1), []) else (bif decide (p < e.1) then
   K (sc p, [])
   else (bif (p == e.1) then
    (bif r then
     K (sc (IntKind.wrap .i64 (e.1 + (((List.length e.2.2) : Nat) : Int))), [])
     else K (sc e.1, []))
    else (bif decide (p < (IntKind.wrap .i64 (e.1 + e.2.1))) then
     (bif r then
      K (sc (IntKind.wrap .i64 (e.1 + (((List.length e.2.2) : Nat) : Int))), [])
      else K (sc e.1, []))
     else K (sc (IntKind.wrap .i64 ((IntKind.wrap .i64 (p - e.2.1)) + (((List.length e.2.2) : Nat) : Int))), [])))))) := by kernel_rfl
  refine eTr.trans ?_
  cases hp : placeB p with
  | false => rfl
  | true =>
  cases he : smallE e with
  | false => rfl
  | true =>
  obtain ⟨e1, e2, e3, e4, e5⟩ := small_iff he
  obtain ⟨p1, p2⟩ := place_iff hp
  rw [wrap_in (n := e.1 + ((List.length e.2.2 : Nat) : Int)) (by omega) (by omega), wrap_in (n := e.1 + e.2.1) (by omega) (by omega), wrap_in (n := p - e.2.1) (by omega) (by omega), wrap_in (n := p - e.2.1 + ((List.length e.2.2 : Nat) : Int)) (by omega) (by omega)]
  unfold posD
  cases decide (p < e.1) <;> cases (p == e.1) <;> cases decide (p < e.1 + e.2.1) <;> cases r <;> rfl
theorem okS_sPos : OkFn prog I N.s_PosMove true S_sPos := okW (ok_fn (memc okS_l06Place (memc okS_l05Small mem0)) (l := ls_sPos) (p := pl_sPos) (ls := []) (lend := []) (focus := false) (fuel := 0) (fn := F.s_PosMove) (by kernel_rfl) (by kernel_rfl) (by kernel_rfl) (by kernel_rfl) (cs := []) (by kernel_rfl) loops0) (S_fn_of fun d K h => ev_sPos d.1 d.2.1 d.2.2.1 K)
noncomputable abbrev ls_iPos : List (Nat × Bool × Sm) := []
noncomputable abbrev pl_iPos : List (Nat × Plan × List Nat) := []
theorem ev_iPos (e : T_Edit) (p : Int) (r : Bool) (K : Ret → Option Ret) (h0 : (placeB p && smallE e) = true) : evF (En ls_iPos pl_iPos) true F.i_Edit_pos [.a (editR.cells .no e), .s (.int .i64 p), .s (.bool r)] K = K (sc (posD e p r), []) := by
  have eTr : evF (En ls_iPos pl_iPos) true F.i_Edit_pos [.a (editR.cells .no e), .s (.int .i64 p), .s (.bool r)] K =
 (bif decide (p < e.1) then
   K (sc p, [])
   else (bif (p == e.1) then
    (bif r then
     K (sc (IntKind.wrap .i64 (e.1 + (((List.length e.2.2) : Nat) : Int))), [])
     else K (sc e.1, []))
    else (bif decide (p < (IntKind.wrap .i64 (e.1 + e.2.1))) then
     (bif r then
      K (sc (IntKind.wrap .i64 (e.1 + (((List.length e.2.2) : Nat) : Int))), [])
      else K (sc e.1, []))
     else K (sc (IntKind.wrap .i64 ((IntKind.wrap .i64 (p - e.2.1)) + (((List.length e.2.2) : Nat) : Int))), [])))) := by kernel_rfl
  refine eTr.trans ?_
  have hp : placeB p = true := (Bool.and_eq_true _ _ ▸ h0).1
  have he : smallE e = true := (Bool.and_eq_true _ _ ▸ h0).2
  obtain ⟨e1, e2, e3, e4, e5⟩ := small_iff he
  obtain ⟨p1, p2⟩ := place_iff hp
  rw [wrap_in (n := e.1 + ((List.length e.2.2 : Nat) : Int)) (by omega) (by omega), wrap_in (n := e.1 + e.2.1) (by omega) (by omega), wrap_in (n := p - e.2.1) (by omega) (by omega), wrap_in (n := p - e.2.1 + ((List.length e.2.2 : Nat) : Int)) (by omega) (by omega)]
  unfold posD
  cases decide (p < e.1) <;> cases (p == e.1) <;> cases decide (p < e.1 + e.2.1) <;> cases r <;> rfl
theorem okS_iPos : OkFn prog I N.i_Edit_pos true S_iPos := okW (ok_fn mem0 (l := ls_iPos) (p := pl_iPos) (ls := []) (lend := []) (focus := false) (fuel := 0) (fn := F.i_Edit_pos) (by kernel_rfl) (by kernel_rfl) (by kernel_rfl) (by kernel_rfl) (cs := []) (by kernel_rfl) loops0) (S_fn_of fun d K h => ev_iPos d.1 d.2.1 d.2.2.1 K h)
noncomputable abbrev ls_sSpan : List (Nat × Bool × Sm) := [(N.s_PosMove, true, S_sPos)]
noncomputable abbrev pl_sSpan : List (Nat × Plan × List Nat) := []
theorem ev_sSpan (i j : Int) (e : T_Edit) (K : Ret → Option Ret) (h0 : (placeB i && placeB j && smallE e && decide (i ≤ j)) = true) : evF (En ls_sSpan pl_sSpan) true F.s_SpanMove [.s (.int .i64 i), .s (.int .i64 j), .a (editR.cells .no e)] K = K (.t [sc (spanD e i j).1, sc (spanD e i j).2], []) := by
  have eTr : evF (En ls_sSpan pl_sSpan) true F.s_SpanMove [.s (.int .i64 i), .s (.int .i64 j), .a (editR.cells .no e)] K =
 (bif decide ((bif ((placeB i) && (smallE e)) then (posD e i true) else (-(1 : Int))) < (0 : Int)) then
 K ((.t [sc (-1), sc (-1)]), [])
 else (bif decide ((bif ((placeB j) && (smallE e)) then (posD e j false) else (-(1 : Int))) < (0 : Int)) then
  K ((.t [sc (-1), sc (-1)]), [])
  else (bif decide (j < i) then
   K ((.t [sc (-1), sc (-1)]), [])
   else (bif (i == j) then
    K ((.t [sc (bif ((placeB i) && (smallE e)) then (posD e i true) else (-(1 : Int))), sc (bif ((placeB i) && (smallE e)) then (posD e i true) else (-(1 : Int)))]), [])
    else K ((.t [sc (bif ((placeB i) && (smallE e)) then (posD e i true) else (-(1 : Int))), sc (if (bif ((placeB j) && (smallE e)) then (posD e j false) else (-(1 : Int))) > (bif ((placeB i) && (smallE e)) then (posD e i true) else (-(1 : Int))) then (bif ((placeB j) && (smallE e)) then (posD e j false) else (-(1 : Int))) else (bif ((placeB i) && (smallE e)) then (posD e i true) else (-(1 : Int))))]), []))))) := by kernel_rfl
  refine eTr.trans ?_
  simp only [Bool.and_eq_true, decide_eq_true_eq] at h0
  obtain ⟨⟨⟨hi, hj⟩, he⟩, hij⟩ := h0
  have ra := pos_range (r := true) hi he
  have rb := pos_range (r := false) hj he
  rw [hi, hj, he]
  simp only [Bool.true_and, cond_true]
  rw [decide_eq_false (show ¬ posD e i true < 0 by omega), decide_eq_false (show ¬ posD e j false < 0 by omega), decide_eq_false (show ¬ j < i by omega)]
  have hm : (if posD e j false > posD e i true then posD e j false else posD e i true) = max (posD e i true) (posD e j false) := by split <;> omega
  rw [hm]
  unfold spanD
  cases (i == j) <;> rfl
theorem okS_sSpan : OkFn prog I N.s_SpanMove true S_sSpan := okW (ok_fn (memc okS_sPos mem0) (l := ls_sSpan) (p := pl_sSpan) (ls := []) (lend := []) (focus := false) (fuel := 0) (fn := F.s_SpanMove) (by kernel_rfl) (by kernel_rfl) (by kernel_rfl) (by kernel_rfl) (cs := []) (by kernel_rfl) loops0) (S_fn_of fun d K h => ev_sSpan d.1 d.2.1 d.2.2.1 K h)
noncomputable abbrev ls_iSpan : List (Nat × Bool × Sm) := [(N.i_Edit_pos, true, S_iPos)]
noncomputable abbrev pl_iSpan : List (Nat × Plan × List Nat) := [(1, takeB [0, 1, 3, 4] (.fork (.one 2 (.fork (.one 5 (takes [6, 7]))))), [])]
theorem ev_iSpan (e : T_Edit) (i j : Int) (K : Ret → Option Ret) (h0 : (placeB i && placeB j && smallE e && decide (i ≤ j)) = true) : evF (En ls_iSpan pl_iSpan) true F.i_Edit_span [.a (editR.cells .no e), .s (.int .i64 i), .s (.int .i64 j)] K = K (.t [sc (spanD e i j).1, sc (spanD e i j).2], []) := by
  have eTr : evF (En ls_iSpan pl_iSpan) true F.i_Edit_span [.a (editR.cells .no e), .s (.int .i64 i), .s (.int .i64 j)] K =
 (bif ((placeB i) && (smallE e)) then
 (bif ((placeB j) && (smallE e)) then
  (bif decide ((posD e j false) < (posD e i true)) then
   K ((.t [sc (posD e i true), sc (posD e i true)]), [])
   else (bif (i == j) then
    K ((.t [sc (posD e i true), sc (posD e i true)]), [])
    else K ((.t [sc (posD e i true), sc (posD e j false)]), [])))
  else none)
 else none) := by kernel_rfl
  refine eTr.trans ?_
  simp only [Bool.and_eq_true, decide_eq_true_eq] at h0
  obtain ⟨⟨⟨hi, hj⟩, he⟩, hij⟩ := h0
  rw [hi, hj, he]
  unfold spanD
  by_cases hb : posD e j false < posD e i true
  · rw [decide_eq_true hb, show max (posD e i true) (posD e j false) = posD e i true by omega]
    cases (i == j) <;> rfl
  · rw [decide_eq_false hb, show max (posD e i true) (posD e j false) = posD e j false by omega]
    cases (i == j) <;> rfl
theorem okS_iSpan : OkFn prog I N.i_Edit_span true S_iSpan := okW (ok_fn (memc okS_iPos mem0) (l := ls_iSpan) (p := pl_iSpan) (ls := []) (lend := []) (focus := false) (fuel := 0) (fn := F.i_Edit_span) (by kernel_rfl) (by kernel_rfl) (by kernel_rfl) (by kernel_rfl) (cs := []) (by kernel_rfl) loops0) (S_fn_of fun d K h => ev_iSpan d.1 d.2.1 d.2.2.1 K h)
theorem span_range {a b : T_Edit} (ha : smallE a = true) (hb : smallE b = true) : IntKind.i64.wrap (a.1 + a.2.1) = a.1 + a.2.1 ∧ (placeB a.1 && placeB (a.1 + a.2.1) && smallE b && decide (a.1 ≤ a.1 + a.2.1)) = true ∧ IntKind.i64.wrap ((spanD b a.1 (a.1 + a.2.1)).2 - posD b a.1 true) = (spanD b a.1 (a.1 + a.2.1)).2 - posD b a.1 true := by
  obtain ⟨a1, a2, a3, a4, a5⟩ := small_iff ha
  have pa := place_of (p := a.1) a1 (by omega)
  have pb := place_of (p := a.1 + a.2.1) (by omega) (by omega)
  have ra := pos_range (r := true) pa hb
  have rb := pos_range (r := false) pb hb
  refine ⟨wrap_in (by omega) (by omega), by rw [pa, pb, hb, decide_eq_true (show a.1 ≤ a.1 + a.2.1 by omega)]; rfl, ?_⟩
  have : 0 ≤ (spanD b a.1 (a.1 + a.2.1)).2 ∧ (spanD b a.1 (a.1 + a.2.1)).2 ≤ 1200 := by
    show 0 ≤ (bif a.1 == a.1 + a.2.1 then posD b a.1 true else max (posD b a.1 true) (posD b (a.1 + a.2.1) false)) ∧ (bif a.1 == a.1 + a.2.1 then posD b a.1 true else max (posD b a.1 true) (posD b (a.1 + a.2.1) false)) ≤ 1200
    cases (a.1 == a.1 + a.2.1)
    · show 0 ≤ max (posD b a.1 true) (posD b (a.1 + a.2.1) false) ∧ max (posD b a.1 true) (posD b (a.1 + a.2.1) false) ≤ 1200; omega
    · exact ra
  exact wrap_in (by omega) (by omega)
def S_move : Sm := S_fn [.a editR, .a editR] (fun _ => true) (fun d => eb editR (moveD d.1 d.2.1))
def S_moved : Sm := S_fn [.a editR, .a editR] (fun d => smallE d.1 && smallE d.2.1) (fun d => .a (editR.cells .no (movedD d.1 d.2.1)))
def S_copied : Sm := S_fn [.a editR] (fun d => editR.lim d.1) (fun d => .a (editR.cells .deep d.1))
noncomputable abbrev ls_sMove : List (Nat × Bool × Sm) := [(N.s_l05Small, true, S_smallE), (N.s_SpanMove, true, S_sSpan)]
noncomputable abbrev pl_sMove : List (Nat × Plan × List Nat) := []
theorem ev_sMove (a b : T_Edit) (K : Ret → Option Ret) : evF (En ls_sMove pl_sMove) true F.s_EditMove [.a (editR.cells .no a), .a (editR.cells .no b)] K = K (eb editR (moveD a b), []) := by
  have eTr : evF (En ls_sMove pl_sMove) true F.s_EditMove [.a (editR.cells .no a), .a (editR.cells .no b)] K =
 (bif (!(smallE a)) then
 K (eb editR badE, [])
 else (bif (!(smallE b)) then
  K (eb editR badE, [])
  else (bif ((((placeB a.1) && (placeB (IntKind.wrap .i64 (a.1 + a.2.1)))) && (smallE b)) && decide (a.1 ≤ (IntKind.wrap .i64 (a.1 + a.2.1)))) then
   (bif (Nat.ble (((List.length ([] : List Int)) + (List.length a.2.2)) * 1) 140737488355328) then
    K (eb editR ((posD b a.1 true, (IntKind.wrap .i64 ((spanD b a.1 (IntKind.wrap .i64 (a.1 + a.2.1))).2 - (posD b a.1 true))), [] ++ a.2.2), true), [])
    else none)
   else none))) := by kernel_rfl
  refine eTr.trans ?_
  cases ha : smallE a with
  | false => unfold moveD; rw [ha]; rfl
  | true =>
  cases hb : smallE b with
  | false => unfold moveD; rw [ha, hb]; rfl
  | true =>
  obtain ⟨w1, w2, w3⟩ := span_range ha hb
  obtain ⟨a1, a2, a3, a4, a5⟩ := small_iff ha
  rw [w1, w3]
  rw [hb] at w2
  rw [w2, Nat.ble_eq_true_of_le (show (([] : List Int).length + List.length a.2.2) * 1 ≤ 140737488355328 by simp only [List.length_nil]; omega)]
  unfold moveD
  rw [ha, hb]; rfl
theorem okS_sMove : OkFn prog I N.s_EditMove true S_move := okW (ok_fn (memc okS_l05Small (memc okS_sSpan mem0)) (l := ls_sMove) (p := pl_sMove) (ls := []) (lend := []) (focus := false) (fuel := 0) (fn := F.s_EditMove) (by kernel_rfl) (by kernel_rfl) (by kernel_rfl) (by kernel_rfl) (cs := []) (by kernel_rfl) loops0) (S_fn_of fun d K h => ev_sMove d.1 d.2.1 K)
noncomputable abbrev ls_iMoved : List (Nat × Bool × Sm) := [(N.i_Edit_span, true, S_iSpan)]
noncomputable abbrev pl_iMoved : List (Nat × Plan × List Nat) := []
theorem ev_iMoved (a b : T_Edit) (K : Ret → Option Ret) (h0 : (smallE a && smallE b) = true) : evF (En ls_iMoved pl_iMoved) false F.i_Edit_moved [.a (editR.cells .no a), .a (editR.cells .no b)] K = K (.a (editR.cells .no (movedD a b)), []) := by
  have eTr : evF (En ls_iMoved pl_iMoved) false F.i_Edit_moved [.a (editR.cells .no a), .a (editR.cells .no b)] K =
 (bif ((((placeB a.1) && (placeB (IntKind.wrap .i64 (a.1 + a.2.1)))) && (smallE b)) && decide (a.1 ≤ (IntKind.wrap .i64 (a.1 + a.2.1)))) then
 K (.a (editR.cells .no (posD b a.1 true, (IntKind.wrap .i64 ((spanD b a.1 (IntKind.wrap .i64 (a.1 + a.2.1))).2 - (posD b a.1 true))), a.2.2)), [])
 else none) := by kernel_rfl
  refine eTr.trans ?_
  simp only [Bool.and_eq_true] at h0
  obtain ⟨w1, w2, w3⟩ := span_range h0.1 h0.2
  rw [w1, w3, w2]; rfl
theorem okS_iMoved : OkFn prog I N.i_Edit_moved false S_moved := okW (ok_fn (memc okS_iSpan mem0) (l := ls_iMoved) (p := pl_iMoved) (ls := []) (lend := []) (focus := false) (fuel := 0) (fn := F.i_Edit_moved) (by kernel_rfl) (by kernel_rfl) (by kernel_rfl) (by kernel_rfl) (cs := []) (by kernel_rfl) loops0) (S_fn_of fun d K h => ev_iMoved d.1 d.2.1 K h)
noncomputable abbrev ls_iCopied : List (Nat × Bool × Sm) := [(N.slices_Clone_bytes_byte, true, S_toL bytesR)]
noncomputable abbrev pl_iCopied : List (Nat × Plan × List Nat) := []
theorem ev_iCopied (a : T_Edit) (K : Ret → Option Ret) (h0 : editR.lim a = true) : evF (En ls_iCopied pl_iCopied) true F.i_Edit_copied [.a (editR.cells .no a)] K = K (.a (editR.cells .deep a), []) := by
  have eTr : evF (En ls_iCopied pl_iCopied) true F.i_Edit_copied [.a (editR.cells .no a)] K =
 (bif (Cc.lim (Cc.sl bytesR) a.2.2) then K (.a (editR.cells .deep a), []) else none) := by kernel_rfl
  refine eTr.trans ?_
  have h1 : (true && (true && (Cc.sl bytesR).lim a.2.2)) = true := h0
  simp only [Bool.true_and] at h1
  rw [h1]; rfl
theorem okS_iCopied : OkFn prog I N.i_Edit_copied true S_copied := okW (ok_fn (memc okS_Clone mem0) (l := ls_iCopied) (p := pl_iCopied) (ls := []) (lend := []) (focus := false) (fuel := 0) (fn := F.i_Edit_copied) (by kernel_rfl) (by kernel_rfl) (by kernel_rfl) (by kernel_rfl) (cs := []) (by kernel_rfl) loops0) (S_fn_of fun d K h => ev_iCopied d.1 K h)
end Go.Ev.Seat
