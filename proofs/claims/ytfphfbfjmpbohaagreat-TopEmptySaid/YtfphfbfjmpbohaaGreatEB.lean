/-
  The rows of keys, walked: cmp.Compare, cmp.Or, deps.row, ways.row.
-/
import Derived.Test.YtfphfbfjmpbohaaGreatEA
namespace Go.Proofs.YtfphfbfjmpbohaaGreat
open Go Go.D
set_option maxRecDepth 100000
set_option maxHeartbeats 4000000

abbrev OraF := FuncId → Option (List DV → H → Option (DV × H))

theorem isNaN {ora : OraF} (o1 : ora F_cmp_isNaN_int = none) (x : Int) (h : H) (Q : DV → H → Prop) (hQ : Q (.bool false) h) : wpCall (cfgO ora) F_cmp_isNaN_int [.int .i64 x] h Q := by
  refine en_cmp_isNaN_int o1 ?_
  repeat (first | refine put_tmp rfl ?_ | refine put0 rfl ?_ | refine put1 rfl ?_ | refine put2 rfl ?_ | refine put3 rfl ?_ | refine put4 rfl ?_ | refine put5 rfl ?_ | refine put6 rfl ?_ | refine put7 rfl ?_ | refine put8 rfl ?_ | refine put9 rfl ?_ | refine put10 rfl ?_ | refine put11 rfl ?_ | refine put12 rfl ?_ | refine put13 rfl ?_ | refine put14 rfl ?_ | refine put15 rfl ?_ | refine put16 rfl ?_ | refine put_none ?_ | refine wpOps_op rfl rfl ?_ | refine wpOps_load rfl rfl rfl rfl (by assumption) ?_ | refine wpOps_nil ?_ | refine run_it ?_ | refine seq_normal ?_ | refine wpCode_seq ?_ | refine wpCode_region ?_ | refine wpCode_draw ?_ | refine draw_it rfl ?_ | refine wpCode_block ?_ | refine wpCode_skip ?_ | refine wpCode_ret ?_ | refine wpCode_exit ?_ | refine seq_ret ?_ | refine seq_exit ?_ | refine block_normal ?_ | refine block_ret ?_ | refine block_exit ?_ | refine block_over rfl ?_ | refine loop_exit ?_ | refine loop_ret ?_ | refine ro_back ?_)
  refine end_ret rfl ?_
  simpa [one] using hQ

def cmpI (x y : Int) : Int := if x < y then -1 else if x > y then 1 else 0

theorem compare {ora : OraF} (o1 : ora F_cmp_isNaN_int = none) (o2 : ora F_cmp_Compare_int = none) (x y : Int) (h : H) (Q : DV → H → Prop) (hQ : Q (.int .i64 (cmpI x y)) h) : wpCall (cfgO ora) F_cmp_Compare_int [.int .i64 x, .int .i64 y] h Q := by
  refine en_cmp_Compare_int o2 ?_
  repeat (first | refine put_tmp rfl ?_ | refine put0 rfl ?_ | refine put1 rfl ?_ | refine put2 rfl ?_ | refine put3 rfl ?_ | refine put4 rfl ?_ | refine put5 rfl ?_ | refine put6 rfl ?_ | refine put7 rfl ?_ | refine put8 rfl ?_ | refine put9 rfl ?_ | refine put10 rfl ?_ | refine put11 rfl ?_ | refine put12 rfl ?_ | refine put13 rfl ?_ | refine put14 rfl ?_ | refine put15 rfl ?_ | refine put16 rfl ?_ | refine put_none ?_ | refine wpOps_op rfl rfl ?_ | refine wpOps_load rfl rfl rfl rfl (by assumption) ?_ | refine wpOps_nil ?_ | refine run_it ?_ | refine seq_normal ?_ | refine wpCode_seq ?_ | refine wpCode_region ?_ | refine wpCode_draw ?_ | refine draw_it rfl ?_ | refine wpCode_block ?_ | refine wpCode_skip ?_ | refine wpCode_ret ?_ | refine wpCode_exit ?_ | refine seq_ret ?_ | refine seq_exit ?_ | refine block_normal ?_ | refine block_ret ?_ | refine block_exit ?_ | refine block_over rfl ?_ | refine loop_exit ?_ | refine loop_ret ?_ | refine ro_back ?_)
  refine wpOps_call rfl (fun _ => rfl) ?_
  refine isNaN o1 _ _ _ ?_
  repeat (first | refine put_tmp rfl ?_ | refine put0 rfl ?_ | refine put1 rfl ?_ | refine put2 rfl ?_ | refine put3 rfl ?_ | refine put4 rfl ?_ | refine put5 rfl ?_ | refine put6 rfl ?_ | refine put7 rfl ?_ | refine put8 rfl ?_ | refine put9 rfl ?_ | refine put10 rfl ?_ | refine put11 rfl ?_ | refine put12 rfl ?_ | refine put13 rfl ?_ | refine put14 rfl ?_ | refine put15 rfl ?_ | refine put16 rfl ?_ | refine put_none ?_ | refine wpOps_op rfl rfl ?_ | refine wpOps_load rfl rfl rfl rfl (by assumption) ?_ | refine wpOps_nil ?_ | refine run_it ?_ | refine seq_normal ?_ | refine wpCode_seq ?_ | refine wpCode_region ?_ | refine wpCode_draw ?_ | refine draw_it rfl ?_ | refine wpCode_block ?_ | refine wpCode_skip ?_ | refine wpCode_ret ?_ | refine wpCode_exit ?_ | refine seq_ret ?_ | refine seq_exit ?_ | refine block_normal ?_ | refine block_ret ?_ | refine block_exit ?_ | refine block_over rfl ?_ | refine loop_exit ?_ | refine loop_ret ?_ | refine ro_back ?_)
  refine wpOps_call rfl (fun _ => rfl) ?_
  refine isNaN o1 _ _ _ ?_
  repeat (first | refine put_tmp rfl ?_ | refine put0 rfl ?_ | refine put1 rfl ?_ | refine put2 rfl ?_ | refine put3 rfl ?_ | refine put4 rfl ?_ | refine put5 rfl ?_ | refine put6 rfl ?_ | refine put7 rfl ?_ | refine put8 rfl ?_ | refine put9 rfl ?_ | refine put10 rfl ?_ | refine put11 rfl ?_ | refine put12 rfl ?_ | refine put13 rfl ?_ | refine put14 rfl ?_ | refine put15 rfl ?_ | refine put16 rfl ?_ | refine put_none ?_ | refine wpOps_op rfl rfl ?_ | refine wpOps_load rfl rfl rfl rfl (by assumption) ?_ | refine wpOps_nil ?_ | refine run_it ?_ | refine seq_normal ?_ | refine wpCode_seq ?_ | refine wpCode_region ?_ | refine wpCode_draw ?_ | refine draw_it rfl ?_ | refine wpCode_block ?_ | refine wpCode_skip ?_ | refine wpCode_ret ?_ | refine wpCode_exit ?_ | refine seq_ret ?_ | refine seq_exit ?_ | refine block_normal ?_ | refine block_ret ?_ | refine block_exit ?_ | refine block_over rfl ?_ | refine loop_exit ?_ | refine loop_ret ?_ | refine ro_back ?_)
  refine wpCode_cond rfl (fun h => by cases h) fun _ => ?_
  repeat (first | refine put_tmp rfl ?_ | refine put0 rfl ?_ | refine put1 rfl ?_ | refine put2 rfl ?_ | refine put3 rfl ?_ | refine put4 rfl ?_ | refine put5 rfl ?_ | refine put6 rfl ?_ | refine put7 rfl ?_ | refine put8 rfl ?_ | refine put9 rfl ?_ | refine put10 rfl ?_ | refine put11 rfl ?_ | refine put12 rfl ?_ | refine put13 rfl ?_ | refine put14 rfl ?_ | refine put15 rfl ?_ | refine put16 rfl ?_ | refine put_none ?_ | refine wpOps_op rfl rfl ?_ | refine wpOps_load rfl rfl rfl rfl (by assumption) ?_ | refine wpOps_nil ?_ | refine run_it ?_ | refine seq_normal ?_ | refine wpCode_seq ?_ | refine wpCode_region ?_ | refine wpCode_draw ?_ | refine draw_it rfl ?_ | refine wpCode_block ?_ | refine wpCode_skip ?_ | refine wpCode_ret ?_ | refine wpCode_exit ?_ | refine seq_ret ?_ | refine seq_exit ?_ | refine block_normal ?_ | refine block_ret ?_ | refine block_exit ?_ | refine block_over rfl ?_ | refine loop_exit ?_ | refine loop_ret ?_ | refine ro_back ?_)
  refine wpCode_cond rfl (fun h => by cases h) fun _ => ?_
  repeat (first | refine put_tmp rfl ?_ | refine put0 rfl ?_ | refine put1 rfl ?_ | refine put2 rfl ?_ | refine put3 rfl ?_ | refine put4 rfl ?_ | refine put5 rfl ?_ | refine put6 rfl ?_ | refine put7 rfl ?_ | refine put8 rfl ?_ | refine put9 rfl ?_ | refine put10 rfl ?_ | refine put11 rfl ?_ | refine put12 rfl ?_ | refine put13 rfl ?_ | refine put14 rfl ?_ | refine put15 rfl ?_ | refine put16 rfl ?_ | refine put_none ?_ | refine wpOps_op rfl rfl ?_ | refine wpOps_load rfl rfl rfl rfl (by assumption) ?_ | refine wpOps_nil ?_ | refine run_it ?_ | refine seq_normal ?_ | refine wpCode_seq ?_ | refine wpCode_region ?_ | refine wpCode_draw ?_ | refine draw_it rfl ?_ | refine wpCode_block ?_ | refine wpCode_skip ?_ | refine wpCode_ret ?_ | refine wpCode_exit ?_ | refine seq_ret ?_ | refine seq_exit ?_ | refine block_normal ?_ | refine block_ret ?_ | refine block_exit ?_ | refine block_over rfl ?_ | refine loop_exit ?_ | refine loop_ret ?_ | refine ro_back ?_)
  refine wpCode_cond rfl (fun hc => ?_) fun hc => ?_
  · repeat (first | refine put_tmp rfl ?_ | refine put0 rfl ?_ | refine put1 rfl ?_ | refine put2 rfl ?_ | refine put3 rfl ?_ | refine put4 rfl ?_ | refine put5 rfl ?_ | refine put6 rfl ?_ | refine put7 rfl ?_ | refine put8 rfl ?_ | refine put9 rfl ?_ | refine put10 rfl ?_ | refine put11 rfl ?_ | refine put12 rfl ?_ | refine put13 rfl ?_ | refine put14 rfl ?_ | refine put15 rfl ?_ | refine put16 rfl ?_ | refine put_none ?_ | refine wpOps_op rfl rfl ?_ | refine wpOps_load rfl rfl rfl rfl (by assumption) ?_ | refine wpOps_nil ?_ | refine run_it ?_ | refine seq_normal ?_ | refine wpCode_seq ?_ | refine wpCode_region ?_ | refine wpCode_draw ?_ | refine draw_it rfl ?_ | refine wpCode_block ?_ | refine wpCode_skip ?_ | refine wpCode_ret ?_ | refine wpCode_exit ?_ | refine seq_ret ?_ | refine seq_exit ?_ | refine block_normal ?_ | refine block_ret ?_ | refine block_exit ?_ | refine block_over rfl ?_ | refine loop_exit ?_ | refine loop_ret ?_ | refine ro_back ?_)
    refine end_ret rfl ?_
    have : x < y := by simpa using hc
    simpa [one, cmpI, this] using hQ
  repeat (first | refine put_tmp rfl ?_ | refine put0 rfl ?_ | refine put1 rfl ?_ | refine put2 rfl ?_ | refine put3 rfl ?_ | refine put4 rfl ?_ | refine put5 rfl ?_ | refine put6 rfl ?_ | refine put7 rfl ?_ | refine put8 rfl ?_ | refine put9 rfl ?_ | refine put10 rfl ?_ | refine put11 rfl ?_ | refine put12 rfl ?_ | refine put13 rfl ?_ | refine put14 rfl ?_ | refine put15 rfl ?_ | refine put16 rfl ?_ | refine put_none ?_ | refine wpOps_op rfl rfl ?_ | refine wpOps_load rfl rfl rfl rfl (by assumption) ?_ | refine wpOps_nil ?_ | refine run_it ?_ | refine seq_normal ?_ | refine wpCode_seq ?_ | refine wpCode_region ?_ | refine wpCode_draw ?_ | refine draw_it rfl ?_ | refine wpCode_block ?_ | refine wpCode_skip ?_ | refine wpCode_ret ?_ | refine wpCode_exit ?_ | refine seq_ret ?_ | refine seq_exit ?_ | refine block_normal ?_ | refine block_ret ?_ | refine block_exit ?_ | refine block_over rfl ?_ | refine loop_exit ?_ | refine loop_ret ?_ | refine ro_back ?_)
  refine wpCode_cond rfl (fun hc2 => ?_) fun hc2 => ?_
  · repeat (first | refine put_tmp rfl ?_ | refine put0 rfl ?_ | refine put1 rfl ?_ | refine put2 rfl ?_ | refine put3 rfl ?_ | refine put4 rfl ?_ | refine put5 rfl ?_ | refine put6 rfl ?_ | refine put7 rfl ?_ | refine put8 rfl ?_ | refine put9 rfl ?_ | refine put10 rfl ?_ | refine put11 rfl ?_ | refine put12 rfl ?_ | refine put13 rfl ?_ | refine put14 rfl ?_ | refine put15 rfl ?_ | refine put16 rfl ?_ | refine put_none ?_ | refine wpOps_op rfl rfl ?_ | refine wpOps_load rfl rfl rfl rfl (by assumption) ?_ | refine wpOps_nil ?_ | refine run_it ?_ | refine seq_normal ?_ | refine wpCode_seq ?_ | refine wpCode_region ?_ | refine wpCode_draw ?_ | refine draw_it rfl ?_ | refine wpCode_block ?_ | refine wpCode_skip ?_ | refine wpCode_ret ?_ | refine wpCode_exit ?_ | refine seq_ret ?_ | refine seq_exit ?_ | refine block_normal ?_ | refine block_ret ?_ | refine block_exit ?_ | refine block_over rfl ?_ | refine loop_exit ?_ | refine loop_ret ?_ | refine ro_back ?_)
    refine end_ret rfl ?_
    have h1 : ¬ x < y := by simpa using hc
    have h2 : x > y := by simpa using hc2
    simpa [one, cmpI, h1, h2] using hQ
  repeat (first | refine put_tmp rfl ?_ | refine put0 rfl ?_ | refine put1 rfl ?_ | refine put2 rfl ?_ | refine put3 rfl ?_ | refine put4 rfl ?_ | refine put5 rfl ?_ | refine put6 rfl ?_ | refine put7 rfl ?_ | refine put8 rfl ?_ | refine put9 rfl ?_ | refine put10 rfl ?_ | refine put11 rfl ?_ | refine put12 rfl ?_ | refine put13 rfl ?_ | refine put14 rfl ?_ | refine put15 rfl ?_ | refine put16 rfl ?_ | refine put_none ?_ | refine wpOps_op rfl rfl ?_ | refine wpOps_load rfl rfl rfl rfl (by assumption) ?_ | refine wpOps_nil ?_ | refine run_it ?_ | refine seq_normal ?_ | refine wpCode_seq ?_ | refine wpCode_region ?_ | refine wpCode_draw ?_ | refine draw_it rfl ?_ | refine wpCode_block ?_ | refine wpCode_skip ?_ | refine wpCode_ret ?_ | refine wpCode_exit ?_ | refine seq_ret ?_ | refine seq_exit ?_ | refine block_normal ?_ | refine block_ret ?_ | refine block_exit ?_ | refine block_over rfl ?_ | refine loop_exit ?_ | refine loop_ret ?_ | refine ro_back ?_)
  refine end_ret rfl ?_
  have h1 : ¬ x < y := by simpa using hc
  have h2 : ¬ x > y := by simpa using hc2
  simpa [one, cmpI, h1, h2] using hQ

theorem bit {ora : OraF} (o1 : ora F_deps_bit = none) (b : Bool) (h : H) (Q : DV → H → Prop) (hQ : Q (.int .i64 (if b then 1 else 0)) h) : wpCall (cfgO ora) F_deps_bit [.bool b] h Q := by
  refine en_deps_bit o1 ?_
  repeat (first | refine put_tmp rfl ?_ | refine put0 rfl ?_ | refine put1 rfl ?_ | refine put2 rfl ?_ | refine put3 rfl ?_ | refine put4 rfl ?_ | refine put5 rfl ?_ | refine put6 rfl ?_ | refine put7 rfl ?_ | refine put8 rfl ?_ | refine put9 rfl ?_ | refine put10 rfl ?_ | refine put11 rfl ?_ | refine put12 rfl ?_ | refine put13 rfl ?_ | refine put14 rfl ?_ | refine put15 rfl ?_ | refine put16 rfl ?_ | refine put_none ?_ | refine wpOps_op rfl rfl ?_ | refine wpOps_load rfl rfl rfl rfl (by assumption) ?_ | refine wpOps_nil ?_ | refine run_it ?_ | refine seq_normal ?_ | refine wpCode_seq ?_ | refine wpCode_region ?_ | refine wpCode_draw ?_ | refine draw_it rfl ?_ | refine wpCode_block ?_ | refine wpCode_skip ?_ | refine wpCode_ret ?_ | refine wpCode_exit ?_ | refine seq_ret ?_ | refine seq_exit ?_ | refine block_normal ?_ | refine block_ret ?_ | refine block_exit ?_ | refine block_over rfl ?_ | refine loop_exit ?_ | refine loop_ret ?_ | refine ro_back ?_)
  refine wpCode_cond rfl (fun hc => ?_) fun hc => ?_
  · repeat (first | refine put_tmp rfl ?_ | refine put0 rfl ?_ | refine put1 rfl ?_ | refine put2 rfl ?_ | refine put3 rfl ?_ | refine put4 rfl ?_ | refine put5 rfl ?_ | refine put6 rfl ?_ | refine put7 rfl ?_ | refine put8 rfl ?_ | refine put9 rfl ?_ | refine put10 rfl ?_ | refine put11 rfl ?_ | refine put12 rfl ?_ | refine put13 rfl ?_ | refine put14 rfl ?_ | refine put15 rfl ?_ | refine put16 rfl ?_ | refine put_none ?_ | refine wpOps_op rfl rfl ?_ | refine wpOps_load rfl rfl rfl rfl (by assumption) ?_ | refine wpOps_nil ?_ | refine run_it ?_ | refine seq_normal ?_ | refine wpCode_seq ?_ | refine wpCode_region ?_ | refine wpCode_draw ?_ | refine draw_it rfl ?_ | refine wpCode_block ?_ | refine wpCode_skip ?_ | refine wpCode_ret ?_ | refine wpCode_exit ?_ | refine seq_ret ?_ | refine seq_exit ?_ | refine block_normal ?_ | refine block_ret ?_ | refine block_exit ?_ | refine block_over rfl ?_ | refine loop_exit ?_ | refine loop_ret ?_ | refine ro_back ?_)
    refine end_ret rfl ?_
    simpa [one, hc] using hQ
  repeat (first | refine put_tmp rfl ?_ | refine put0 rfl ?_ | refine put1 rfl ?_ | refine put2 rfl ?_ | refine put3 rfl ?_ | refine put4 rfl ?_ | refine put5 rfl ?_ | refine put6 rfl ?_ | refine put7 rfl ?_ | refine put8 rfl ?_ | refine put9 rfl ?_ | refine put10 rfl ?_ | refine put11 rfl ?_ | refine put12 rfl ?_ | refine put13 rfl ?_ | refine put14 rfl ?_ | refine put15 rfl ?_ | refine put16 rfl ?_ | refine put_none ?_ | refine wpOps_op rfl rfl ?_ | refine wpOps_load rfl rfl rfl rfl (by assumption) ?_ | refine wpOps_nil ?_ | refine run_it ?_ | refine seq_normal ?_ | refine wpCode_seq ?_ | refine wpCode_region ?_ | refine wpCode_draw ?_ | refine draw_it rfl ?_ | refine wpCode_block ?_ | refine wpCode_skip ?_ | refine wpCode_ret ?_ | refine wpCode_exit ?_ | refine seq_ret ?_ | refine seq_exit ?_ | refine block_normal ?_ | refine block_ret ?_ | refine block_exit ?_ | refine block_over rfl ?_ | refine loop_exit ?_ | refine loop_ret ?_ | refine ro_back ?_)
  refine end_ret rfl ?_
  simpa [one, hc] using hQ

def orI : List Int → Int
  | [] => 0
  | x :: l => if x = 0 then orI l else x

theorem orI_cut (xs : List Int) : ∀ i, (∀ j, j < i → xs[j]? = some 0) → i ≤ xs.length → orI xs = orI (xs.drop i) := by
  induction xs with
  | nil => intro i _ hi; simp at hi; subst hi; rfl
  | cons x xs ih =>
    intro i h hi
    cases i with
    | zero => rfl
    | succ i =>
      have h0 := h 0 (by omega)
      simp at h0
      subst h0
      simp only [orI, if_true, List.drop_succ_cons]
      exact ih i (fun j hj => by simpa using h (j + 1) (by omega)) (by simpa using hi)

theorem wrap_i64 {n : Int} (h0 : -9223372036854775808 ≤ n) (h1 : n ≤ 9223372036854775807) : IntKind.i64.wrap n = n := by
  simp [IntKind.wrap, IntKind.bits, IntKind.signed]; omega

theorem or_ok {ora : OraF} (o1 : ora F_cmp_Or_int = none) (r : Ref) (c : Option Nat) (xs : List Int) (h : H) (hl : xs.length < 1000000000) (hx : ∀ (i : Nat) (x : Int), xs[i]? = some x → h.ld (r.1, r.2 + i * 1) = some (.int .i64 x)) (Q : DV → H → Prop)
    (hQ : Q (.int .i64 (orI xs)) h) : wpCall (cfgO ora) F_cmp_Or_int [.slice (some r) xs.length c 1] h Q := by
  refine en_cmp_Or_int o1 ?_
  repeat (first | refine put_tmp rfl ?_ | refine put0 rfl ?_ | refine put1 rfl ?_ | refine put2 rfl ?_ | refine put3 rfl ?_ | refine put4 rfl ?_ | refine put5 rfl ?_ | refine put6 rfl ?_ | refine put7 rfl ?_ | refine put8 rfl ?_ | refine put9 rfl ?_ | refine put10 rfl ?_ | refine put11 rfl ?_ | refine put12 rfl ?_ | refine put13 rfl ?_ | refine put14 rfl ?_ | refine put15 rfl ?_ | refine put16 rfl ?_ | refine put_none ?_ | refine wpOps_op rfl rfl ?_ | refine wpOps_load rfl rfl rfl rfl (by assumption) ?_ | refine wpOps_nil ?_ | refine run_it ?_ | refine seq_normal ?_ | refine wpCode_seq ?_ | refine wpCode_region ?_ | refine wpCode_draw ?_ | refine draw_it rfl ?_ | refine wpCode_block ?_ | refine wpCode_skip ?_ | refine wpCode_ret ?_ | refine wpCode_exit ?_ | refine seq_ret ?_ | refine seq_exit ?_ | refine block_normal ?_ | refine block_ret ?_ | refine block_exit ?_ | refine block_over rfl ?_ | refine loop_exit ?_ | refine loop_ret ?_ | refine ro_back ?_)
  refine wpCode_loop (fun k e h' => h' = h ∧ ∃ (i : Nat) (v : DV) (ts : List (Nat × DV)), i + k = xs.length ∧ (∀ j, j < i → xs[j]? = some 0) ∧ e = ⟨[(0, .slice (some r) xs.length c 1), (2, .int .i64 0), (3, .int .i64 0), (5, v), (6, .slice (some r) xs.length c 1), (7, .int .i64 xs.length), (8, .int .i64 i)], ts⟩) xs.length ⟨rfl, 0, _, _, by omega, fun j hj => by omega, rfl⟩ ?_
  rintro k e h' ⟨rfl, i, v, ts, hik, hz, rfl⟩
  repeat (first | refine put_tmp rfl ?_ | refine put0 rfl ?_ | refine put1 rfl ?_ | refine put2 rfl ?_ | refine put3 rfl ?_ | refine put4 rfl ?_ | refine put5 rfl ?_ | refine put6 rfl ?_ | refine put7 rfl ?_ | refine put8 rfl ?_ | refine put9 rfl ?_ | refine put10 rfl ?_ | refine put11 rfl ?_ | refine put12 rfl ?_ | refine put13 rfl ?_ | refine put14 rfl ?_ | refine put15 rfl ?_ | refine put16 rfl ?_ | refine put_none ?_ | refine wpOps_op rfl rfl ?_ | refine wpOps_load rfl rfl rfl rfl (by assumption) ?_ | refine wpOps_nil ?_ | refine run_it ?_ | refine seq_normal ?_ | refine wpCode_seq ?_ | refine wpCode_region ?_ | refine wpCode_draw ?_ | refine draw_it rfl ?_ | refine wpCode_block ?_ | refine wpCode_skip ?_ | refine wpCode_ret ?_ | refine wpCode_exit ?_ | refine seq_ret ?_ | refine seq_exit ?_ | refine block_normal ?_ | refine block_ret ?_ | refine block_exit ?_ | refine block_over rfl ?_ | refine loop_exit ?_ | refine loop_ret ?_ | refine ro_back ?_)
  refine wpCode_cond rfl (fun hc => ?_) fun hc => ?_
  · have hlt : i < xs.length := by simpa using hc
    have hi := hx i xs[i] (by simp [hlt])
    repeat (first | refine put_tmp rfl ?_ | refine put0 rfl ?_ | refine put1 rfl ?_ | refine put2 rfl ?_ | refine put3 rfl ?_ | refine put4 rfl ?_ | refine put5 rfl ?_ | refine put6 rfl ?_ | refine put7 rfl ?_ | refine put8 rfl ?_ | refine put9 rfl ?_ | refine put10 rfl ?_ | refine put11 rfl ?_ | refine put12 rfl ?_ | refine put13 rfl ?_ | refine put14 rfl ?_ | refine put15 rfl ?_ | refine put16 rfl ?_ | refine put_none ?_ | refine wpOps_op rfl rfl ?_ | refine wpOps_load rfl rfl rfl rfl (by assumption) ?_ | refine wpOps_nil ?_ | refine run_it ?_ | refine seq_normal ?_ | refine wpCode_seq ?_ | refine wpCode_region ?_ | refine wpCode_draw ?_ | refine draw_it rfl ?_ | refine wpCode_block ?_ | refine wpCode_skip ?_ | refine wpCode_ret ?_ | refine wpCode_exit ?_ | refine seq_ret ?_ | refine seq_exit ?_ | refine block_normal ?_ | refine block_ret ?_ | refine block_exit ?_ | refine block_over rfl ?_ | refine loop_exit ?_ | refine loop_ret ?_ | refine ro_back ?_)
    refine wpOps_index rfl rfl rfl rfl rfl rfl (by omega) ?_
    repeat (first | refine put_tmp rfl ?_ | refine put0 rfl ?_ | refine put1 rfl ?_ | refine put2 rfl ?_ | refine put3 rfl ?_ | refine put4 rfl ?_ | refine put5 rfl ?_ | refine put6 rfl ?_ | refine put7 rfl ?_ | refine put8 rfl ?_ | refine put9 rfl ?_ | refine put10 rfl ?_ | refine put11 rfl ?_ | refine put12 rfl ?_ | refine put13 rfl ?_ | refine put14 rfl ?_ | refine put15 rfl ?_ | refine put16 rfl ?_ | refine put_none ?_ | refine wpOps_op rfl rfl ?_ | refine wpOps_load rfl rfl rfl rfl (by assumption) ?_ | refine wpOps_nil ?_ | refine run_it ?_ | refine seq_normal ?_ | refine wpCode_seq ?_ | refine wpCode_region ?_ | refine wpCode_draw ?_ | refine draw_it rfl ?_ | refine wpCode_block ?_ | refine wpCode_skip ?_ | refine wpCode_ret ?_ | refine wpCode_exit ?_ | refine seq_ret ?_ | refine seq_exit ?_ | refine block_normal ?_ | refine block_ret ?_ | refine block_exit ?_ | refine block_over rfl ?_ | refine loop_exit ?_ | refine loop_ret ?_ | refine ro_back ?_)
    refine wpCode_cond rfl (fun hc2 => ?_) fun hc2 => ?_
    · repeat (first | refine put_tmp rfl ?_ | refine put0 rfl ?_ | refine put1 rfl ?_ | refine put2 rfl ?_ | refine put3 rfl ?_ | refine put4 rfl ?_ | refine put5 rfl ?_ | refine put6 rfl ?_ | refine put7 rfl ?_ | refine put8 rfl ?_ | refine put9 rfl ?_ | refine put10 rfl ?_ | refine put11 rfl ?_ | refine put12 rfl ?_ | refine put13 rfl ?_ | refine put14 rfl ?_ | refine put15 rfl ?_ | refine put16 rfl ?_ | refine put_none ?_ | refine wpOps_op rfl rfl ?_ | refine wpOps_load rfl rfl rfl rfl (by assumption) ?_ | refine wpOps_nil ?_ | refine run_it ?_ | refine seq_normal ?_ | refine wpCode_seq ?_ | refine wpCode_region ?_ | refine wpCode_draw ?_ | refine draw_it rfl ?_ | refine wpCode_block ?_ | refine wpCode_skip ?_ | refine wpCode_ret ?_ | refine wpCode_exit ?_ | refine seq_ret ?_ | refine seq_exit ?_ | refine block_normal ?_ | refine block_ret ?_ | refine block_exit ?_ | refine block_over rfl ?_ | refine loop_exit ?_ | refine loop_ret ?_ | refine ro_back ?_)
      refine end_ret rfl ?_
      have h0 : xs[i] ≠ 0 := by simpa using hc2
      have h1 : orI xs = xs[i] := by
        rw [orI_cut xs i hz (by omega), List.drop_eq_getElem_cons hlt]
        simp [orI, h0]
      rw [h1] at hQ; exact hQ
    · repeat (first | refine put_tmp rfl ?_ | refine put0 rfl ?_ | refine put1 rfl ?_ | refine put2 rfl ?_ | refine put3 rfl ?_ | refine put4 rfl ?_ | refine put5 rfl ?_ | refine put6 rfl ?_ | refine put7 rfl ?_ | refine put8 rfl ?_ | refine put9 rfl ?_ | refine put10 rfl ?_ | refine put11 rfl ?_ | refine put12 rfl ?_ | refine put13 rfl ?_ | refine put14 rfl ?_ | refine put15 rfl ?_ | refine put16 rfl ?_ | refine put_none ?_ | refine wpOps_op rfl rfl ?_ | refine wpOps_load rfl rfl rfl rfl (by assumption) ?_ | refine wpOps_nil ?_ | refine run_it ?_ | refine seq_normal ?_ | refine wpCode_seq ?_ | refine wpCode_region ?_ | refine wpCode_draw ?_ | refine draw_it rfl ?_ | refine wpCode_block ?_ | refine wpCode_skip ?_ | refine wpCode_ret ?_ | refine wpCode_exit ?_ | refine seq_ret ?_ | refine seq_exit ?_ | refine block_normal ?_ | refine block_ret ?_ | refine block_exit ?_ | refine block_over rfl ?_ | refine loop_exit ?_ | refine loop_ret ?_ | refine ro_back ?_)
      have h0 : xs[i] = 0 := by simpa using hc2
      rw [wrap_i64 (by omega) (by omega)]
      refine loop_normal ⟨k - 1, by omega, rfl, i + 1, _, _, by omega, ?_, rfl⟩
      intro j hj
      by_cases hji : j = i
      · subst hji; rw [← h0]; simp [hlt]
      · exact hz j (by omega)
  · repeat (first | refine put_tmp rfl ?_ | refine put0 rfl ?_ | refine put1 rfl ?_ | refine put2 rfl ?_ | refine put3 rfl ?_ | refine put4 rfl ?_ | refine put5 rfl ?_ | refine put6 rfl ?_ | refine put7 rfl ?_ | refine put8 rfl ?_ | refine put9 rfl ?_ | refine put10 rfl ?_ | refine put11 rfl ?_ | refine put12 rfl ?_ | refine put13 rfl ?_ | refine put14 rfl ?_ | refine put15 rfl ?_ | refine put16 rfl ?_ | refine put_none ?_ | refine wpOps_op rfl rfl ?_ | refine wpOps_load rfl rfl rfl rfl (by assumption) ?_ | refine wpOps_nil ?_ | refine run_it ?_ | refine seq_normal ?_ | refine wpCode_seq ?_ | refine wpCode_region ?_ | refine wpCode_draw ?_ | refine draw_it rfl ?_ | refine wpCode_block ?_ | refine wpCode_skip ?_ | refine wpCode_ret ?_ | refine wpCode_exit ?_ | refine seq_ret ?_ | refine seq_exit ?_ | refine block_normal ?_ | refine block_ret ?_ | refine block_exit ?_ | refine block_over rfl ?_ | refine loop_exit ?_ | refine loop_ret ?_ | refine ro_back ?_)
    refine end_ret rfl ?_
    have hge : ¬ i < xs.length := by simpa using hc
    have h1 : orI xs = 0 := by
      rw [orI_cut xs i hz (by omega), List.drop_eq_nil_of_le (by omega)]; rfl
    rw [h1] at hQ; exact hQ

theorem ld_new (h : H) (o : DObj) (r : Ref) : (h.new o).ld r = if h.next = r.1 then (match o with | .cells cs => cs[r.2]? | _ => none) else h.ld r := by
  simp only [H.ld, H.cells, H.get_new]
  by_cases hr : h.next = r.1
  · simp only [if_pos hr]
    cases o <;> rfl
  · simp only [if_neg hr]

/-- deps.row. -/
def rowE (x y : Int × Int × Bool) : Int := orI [cmpI x.1 y.1, cmpI x.2.1 y.2.1, IntKind.i64.wrap ((if x.2.2 then 1 else 0) - (if y.2.2 then 1 else 0))]

theorem row_ok {ora : OraF} (o1 : ora F_deps_row = none) (o2 : ora F_cmp_Compare_int = none) (o3 : ora F_cmp_isNaN_int = none) (o4 : ora F_cmp_Or_int = none) (o5 : ora F_deps_bit = none) (x y : Int × Int × Bool) (h : H) (Q : DV → H → Prop)
    (hQ : ∀ h', Q (.int .i64 (rowE x y)) h') : wpCall (cfgO ora) F_deps_row [.agg [.int .i64 x.1, .int .i64 x.2.1, .bool x.2.2], .agg [.int .i64 y.1, .int .i64 y.2.1, .bool y.2.2]] h Q := by
  refine en_deps_row o1 ?_
  obtain ⟨H2, hH⟩ : ∃ H2, (h.new (.cells (DV.agg [.int .i64 x.1, .int .i64 x.2.1, .bool x.2.2]).cellsOf)).new (.cells (DV.agg [.int .i64 y.1, .int .i64 y.2.1, .bool y.2.2]).cellsOf) = H2 := ⟨_, rfl⟩
  have f0 : H2.ld (h.next, 0) = some (.int .i64 x.1) := by rw [← hH]; simp [ld_new, DV.cellsOf]
  have f1 : H2.ld (h.next, 1) = some (.int .i64 x.2.1) := by rw [← hH]; simp [ld_new, DV.cellsOf]
  have f2 : H2.ld (h.next, 2) = some (.bool x.2.2) := by rw [← hH]; simp [ld_new, DV.cellsOf]
  have g0 : H2.ld (h.next + 1, 0) = some (.int .i64 y.1) := by rw [← hH]; simp [ld_new, DV.cellsOf]
  have g1 : H2.ld (h.next + 1, 1) = some (.int .i64 y.2.1) := by rw [← hH]; simp [ld_new, DV.cellsOf]
  have g2 : H2.ld (h.next + 1, 2) = some (.bool y.2.2) := by rw [← hH]; simp [ld_new, DV.cellsOf]
  repeat (first | refine put_tmp rfl ?_ | refine put0 rfl ?_ | refine put1 rfl ?_ | refine put2 rfl ?_ | refine put3 rfl ?_ | refine put4 rfl ?_ | refine put5 rfl ?_ | refine put6 rfl ?_ | refine put7 rfl ?_ | refine put8 rfl ?_ | refine put9 rfl ?_ | refine put10 rfl ?_ | refine put11 rfl ?_ | refine put12 rfl ?_ | refine put13 rfl ?_ | refine put14 rfl ?_ | refine put15 rfl ?_ | refine put16 rfl ?_ | refine put_none ?_ | refine wpOps_op rfl rfl ?_ | refine wpOps_load rfl rfl rfl rfl (by assumption) ?_ | refine wpOps_nil ?_ | refine run_it ?_ | refine seq_normal ?_ | refine wpCode_seq ?_ | refine wpCode_region ?_ | refine wpCode_draw ?_ | refine draw_it rfl ?_ | refine wpCode_block ?_ | refine wpCode_skip ?_ | refine wpCode_ret ?_ | refine wpCode_exit ?_ | refine seq_ret ?_ | refine seq_exit ?_ | refine block_normal ?_ | refine block_ret ?_ | refine block_exit ?_ | refine block_over rfl ?_ | refine loop_exit ?_ | refine loop_ret ?_ | refine ro_back ?_)
  rw [hH]
  repeat (first | refine put_tmp rfl ?_ | refine put0 rfl ?_ | refine put1 rfl ?_ | refine put2 rfl ?_ | refine put3 rfl ?_ | refine put4 rfl ?_ | refine put5 rfl ?_ | refine put6 rfl ?_ | refine put7 rfl ?_ | refine put8 rfl ?_ | refine put9 rfl ?_ | refine put10 rfl ?_ | refine put11 rfl ?_ | refine put12 rfl ?_ | refine put13 rfl ?_ | refine put14 rfl ?_ | refine put15 rfl ?_ | refine put16 rfl ?_ | refine put_none ?_ | refine wpOps_op rfl rfl ?_ | refine wpOps_load rfl rfl rfl rfl (by assumption) ?_ | refine wpOps_nil ?_ | refine run_it ?_ | refine seq_normal ?_ | refine wpCode_seq ?_ | refine wpCode_region ?_ | refine wpCode_draw ?_ | refine draw_it rfl ?_ | refine wpCode_block ?_ | refine wpCode_skip ?_ | refine wpCode_ret ?_ | refine wpCode_exit ?_ | refine seq_ret ?_ | refine seq_exit ?_ | refine block_normal ?_ | refine block_ret ?_ | refine block_exit ?_ | refine block_over rfl ?_ | refine loop_exit ?_ | refine loop_ret ?_ | refine ro_back ?_)
  refine wpOps_callQ rfl rfl (fun _ => rfl) ?_
  refine compare o3 o2 _ _ _ _ ?_
  repeat (first | refine put_tmp rfl ?_ | refine put0 rfl ?_ | refine put1 rfl ?_ | refine put2 rfl ?_ | refine put3 rfl ?_ | refine put4 rfl ?_ | refine put5 rfl ?_ | refine put6 rfl ?_ | refine put7 rfl ?_ | refine put8 rfl ?_ | refine put9 rfl ?_ | refine put10 rfl ?_ | refine put11 rfl ?_ | refine put12 rfl ?_ | refine put13 rfl ?_ | refine put14 rfl ?_ | refine put15 rfl ?_ | refine put16 rfl ?_ | refine put_none ?_ | refine wpOps_op rfl rfl ?_ | refine wpOps_load rfl rfl rfl rfl (by assumption) ?_ | refine wpOps_nil ?_ | refine run_it ?_ | refine seq_normal ?_ | refine wpCode_seq ?_ | refine wpCode_region ?_ | refine wpCode_draw ?_ | refine draw_it rfl ?_ | refine wpCode_block ?_ | refine wpCode_skip ?_ | refine wpCode_ret ?_ | refine wpCode_exit ?_ | refine seq_ret ?_ | refine seq_exit ?_ | refine block_normal ?_ | refine block_ret ?_ | refine block_exit ?_ | refine block_over rfl ?_ | refine loop_exit ?_ | refine loop_ret ?_ | refine ro_back ?_)
  refine wpOps_callQ rfl rfl (fun _ => rfl) ?_
  refine compare o3 o2 _ _ _ _ ?_
  repeat (first | refine put_tmp rfl ?_ | refine put0 rfl ?_ | refine put1 rfl ?_ | refine put2 rfl ?_ | refine put3 rfl ?_ | refine put4 rfl ?_ | refine put5 rfl ?_ | refine put6 rfl ?_ | refine put7 rfl ?_ | refine put8 rfl ?_ | refine put9 rfl ?_ | refine put10 rfl ?_ | refine put11 rfl ?_ | refine put12 rfl ?_ | refine put13 rfl ?_ | refine put14 rfl ?_ | refine put15 rfl ?_ | refine put16 rfl ?_ | refine put_none ?_ | refine wpOps_op rfl rfl ?_ | refine wpOps_load rfl rfl rfl rfl (by assumption) ?_ | refine wpOps_nil ?_ | refine run_it ?_ | refine seq_normal ?_ | refine wpCode_seq ?_ | refine wpCode_region ?_ | refine wpCode_draw ?_ | refine draw_it rfl ?_ | refine wpCode_block ?_ | refine wpCode_skip ?_ | refine wpCode_ret ?_ | refine wpCode_exit ?_ | refine seq_ret ?_ | refine seq_exit ?_ | refine block_normal ?_ | refine block_ret ?_ | refine block_exit ?_ | refine block_over rfl ?_ | refine loop_exit ?_ | refine loop_ret ?_ | refine ro_back ?_)
  refine wpOps_callQ rfl rfl (fun _ => rfl) ?_
  refine bit o5 _ _ _ ?_
  repeat (first | refine put_tmp rfl ?_ | refine put0 rfl ?_ | refine put1 rfl ?_ | refine put2 rfl ?_ | refine put3 rfl ?_ | refine put4 rfl ?_ | refine put5 rfl ?_ | refine put6 rfl ?_ | refine put7 rfl ?_ | refine put8 rfl ?_ | refine put9 rfl ?_ | refine put10 rfl ?_ | refine put11 rfl ?_ | refine put12 rfl ?_ | refine put13 rfl ?_ | refine put14 rfl ?_ | refine put15 rfl ?_ | refine put16 rfl ?_ | refine put_none ?_ | refine wpOps_op rfl rfl ?_ | refine wpOps_load rfl rfl rfl rfl (by assumption) ?_ | refine wpOps_nil ?_ | refine run_it ?_ | refine seq_normal ?_ | refine wpCode_seq ?_ | refine wpCode_region ?_ | refine wpCode_draw ?_ | refine draw_it rfl ?_ | refine wpCode_block ?_ | refine wpCode_skip ?_ | refine wpCode_ret ?_ | refine wpCode_exit ?_ | refine seq_ret ?_ | refine seq_exit ?_ | refine block_normal ?_ | refine block_ret ?_ | refine block_exit ?_ | refine block_over rfl ?_ | refine loop_exit ?_ | refine loop_ret ?_ | refine ro_back ?_)
  refine wpOps_callBar rfl rfl (fun _ => rfl) ?_
  refine bit o5 _ _ _ ?_
  repeat (first | refine put_tmp rfl ?_ | refine put0 rfl ?_ | refine put1 rfl ?_ | refine put2 rfl ?_ | refine put3 rfl ?_ | refine put4 rfl ?_ | refine put5 rfl ?_ | refine put6 rfl ?_ | refine put7 rfl ?_ | refine put8 rfl ?_ | refine put9 rfl ?_ | refine put10 rfl ?_ | refine put11 rfl ?_ | refine put12 rfl ?_ | refine put13 rfl ?_ | refine put14 rfl ?_ | refine put15 rfl ?_ | refine put16 rfl ?_ | refine put_none ?_ | refine wpOps_op rfl rfl ?_ | refine wpOps_load rfl rfl rfl rfl (by assumption) ?_ | refine wpOps_nil ?_ | refine run_it ?_ | refine seq_normal ?_ | refine wpCode_seq ?_ | refine wpCode_region ?_ | refine wpCode_draw ?_ | refine draw_it rfl ?_ | refine wpCode_block ?_ | refine wpCode_skip ?_ | refine wpCode_ret ?_ | refine wpCode_exit ?_ | refine seq_ret ?_ | refine seq_exit ?_ | refine block_normal ?_ | refine block_ret ?_ | refine block_exit ?_ | refine block_over rfl ?_ | refine loop_exit ?_ | refine loop_ret ?_ | refine ro_back ?_)
  refine wpOps_callBar rfl rfl (fun _ => rfl) ?_
  refine or_ok o4 (H2.next, 0) _ [cmpI x.1 y.1, cmpI x.2.1 y.2.1, IntKind.i64.wrap ((if x.2.2 then 1 else 0) - (if y.2.2 then 1 else 0))] _ (by simp) ?_ _ ?_
  · intro i v hi
    match i, hi with
    | 0, hi => simp at hi; subst hi; simp [ld_new, DV.cellsOf]; rfl
    | 1, hi => simp at hi; subst hi; simp [ld_new, DV.cellsOf]; rfl
    | 2, hi => simp at hi; subst hi; simp [ld_new, DV.cellsOf]; rfl
  · repeat (first | refine put_tmp rfl ?_ | refine put0 rfl ?_ | refine put1 rfl ?_ | refine put2 rfl ?_ | refine put3 rfl ?_ | refine put4 rfl ?_ | refine put5 rfl ?_ | refine put6 rfl ?_ | refine put7 rfl ?_ | refine put8 rfl ?_ | refine put9 rfl ?_ | refine put10 rfl ?_ | refine put11 rfl ?_ | refine put12 rfl ?_ | refine put13 rfl ?_ | refine put14 rfl ?_ | refine put15 rfl ?_ | refine put16 rfl ?_ | refine put_none ?_ | refine wpOps_op rfl rfl ?_ | refine wpOps_load rfl rfl rfl rfl (by assumption) ?_ | refine wpOps_nil ?_ | refine run_it ?_ | refine seq_normal ?_ | refine wpCode_seq ?_ | refine wpCode_region ?_ | refine wpCode_draw ?_ | refine draw_it rfl ?_ | refine wpCode_block ?_ | refine wpCode_skip ?_ | refine wpCode_ret ?_ | refine wpCode_exit ?_ | refine seq_ret ?_ | refine seq_exit ?_ | refine block_normal ?_ | refine block_ret ?_ | refine block_exit ?_ | refine block_over rfl ?_ | refine loop_exit ?_ | refine loop_ret ?_ | refine ro_back ?_)
    refine end_ret rfl (hQ _)

theorem ld_put (h : H) (i : Nat) (o : DObj) (r : Ref) : (h.put i o).ld r = if i = r.1 then (match o with | .cells cs => cs[r.2]? | _ => none) else h.ld r := by
  simp only [H.ld, H.cells, H.get_put]
  by_cases hr : i = r.1
  · simp only [if_pos hr]
    cases o <;> rfl
  · simp only [if_neg hr]
theorem cells_new (h : H) (o : DObj) (b : Nat) : (h.new o).cells b = if h.next = b then (match o with | .cells cs => some cs | _ => none) else h.cells b := by
  simp only [H.cells, H.get_new]
  by_cases hr : h.next = b
  · simp only [if_pos hr]
    cases o <;> rfl
  · simp only [if_neg hr]
theorem cells_put (h : H) (i : Nat) (o : DObj) (b : Nat) : (h.put i o).cells b = if i = b then (match o with | .cells cs => some cs | _ => none) else h.cells b := by
  simp only [H.cells, H.get_put]
  by_cases hr : i = b
  · simp only [if_pos hr]
    cases o <;> rfl
  · simp only [if_neg hr]
theorem st_of {h : H} {r : Ref} {cs vs : List DV} (h1 : h.cells r.1 = some cs) (h2 : h.ro ≤ r.1) (h3 : r.2 + vs.length ≤ cs.length) (h4 : vs.all DV.flat = true) : h.st r vs = some (h.put r.1 (.cells (splice cs r.2 vs))) := by
  simp only [H.st, h1, Option.bind_some]
  rw [if_pos ⟨h2, h3, h4⟩]

abbrev KK := Int × Int × Int × Int × Int × Int × Int
def cK (x : KK) : List DV := [.int .i64 x.1, .int .i64 x.2.1, .int .i64 x.2.2.1, .int .i64 x.2.2.2.1, .int .i64 x.2.2.2.2.1, .int .i64 x.2.2.2.2.2.1, .int .i64 x.2.2.2.2.2.2]
/-- ways.row. -/
def rowK (x y : KK) : Int := orI [cmpI x.1 y.1, cmpI x.2.1 y.2.1, cmpI x.2.2.1 y.2.2.1, cmpI x.2.2.2.1 y.2.2.2.1, cmpI x.2.2.2.2.1 y.2.2.2.2.1, cmpI x.2.2.2.2.2.1 y.2.2.2.2.2.1, cmpI x.2.2.2.2.2.2 y.2.2.2.2.2.2]

theorem rowK_ok {ora : OraF} (o1 : ora F_ways_row = none) (o2 : ora F_cmp_Compare_int = none) (o3 : ora F_cmp_isNaN_int = none) (o4 : ora F_cmp_Or_int = none) (x y : KK) (h : H) (hro : h.ro ≤ h.next) (Q : DV → H → Prop)
    (hQ : ∀ h', Q (.int .i64 (rowK x y)) h') : wpCall (cfgO ora) F_ways_row [.agg (cK x), .agg (cK y)] h Q := by
  obtain ⟨x0, x1, x2, x3, x4, x5, x6⟩ := x
  obtain ⟨y0, y1, y2, y3, y4, y5, y6⟩ := y
  simp only [cK]
  refine en_ways_row o1 ?_
  obtain ⟨H2, hH⟩ : ∃ H2, (h.new (.cells (DV.agg [.int .i64 x0, .int .i64 x1, .int .i64 x2, .int .i64 x3, .int .i64 x4, .int .i64 x5, .int .i64 x6]).cellsOf)).new (.cells (DV.agg [.int .i64 y0, .int .i64 y1, .int .i64 y2, .int .i64 y3, .int .i64 y4, .int .i64 y5, .int .i64 y6]).cellsOf) = H2 := ⟨_, rfl⟩
  have n2 : H2.next = h.next + 2 := by rw [← hH]; rfl
  have r2 : H2.ro = h.ro := by rw [← hH]; rfl
  have cx : H2.cells h.next = some [.int .i64 x0, .int .i64 x1, .int .i64 x2, .int .i64 x3, .int .i64 x4, .int .i64 x5, .int .i64 x6] := by rw [← hH]; simp [cells_new, DV.cellsOf]
  have cy : H2.cells (h.next + 1) = some [.int .i64 y0, .int .i64 y1, .int .i64 y2, .int .i64 y3, .int .i64 y4, .int .i64 y5, .int .i64 y6] := by rw [← hH]; simp [cells_new, DV.cellsOf]
  have p0 : H2.ldn (h.next, 2) 3 = some [.int .i64 x2, .int .i64 x3, .int .i64 x4] := by simp [H.ldn, cx]
  have q0 : H2.ldn (h.next + 1, 2) 3 = some [.int .i64 y2, .int .i64 y3, .int .i64 y4] := by simp [H.ldn, cy]
  repeat (first | refine put_tmp rfl ?_ | refine put0 rfl ?_ | refine put1 rfl ?_ | refine put2 rfl ?_ | refine put3 rfl ?_ | refine put4 rfl ?_ | refine put5 rfl ?_ | refine put6 rfl ?_ | refine put7 rfl ?_ | refine put8 rfl ?_ | refine put9 rfl ?_ | refine put10 rfl ?_ | refine put11 rfl ?_ | refine put12 rfl ?_ | refine put13 rfl ?_ | refine put14 rfl ?_ | refine put15 rfl ?_ | refine put16 rfl ?_ | refine put_none ?_ | refine wpOps_op rfl rfl ?_ | refine wpOps_load rfl rfl rfl rfl (by assumption) ?_ | refine wpOps_nil ?_ | refine run_it ?_ | refine seq_normal ?_ | refine wpCode_seq ?_ | refine wpCode_region ?_ | refine wpCode_draw ?_ | refine draw_it rfl ?_ | refine wpCode_block ?_ | refine wpCode_skip ?_ | refine wpCode_ret ?_ | refine wpCode_exit ?_ | refine seq_ret ?_ | refine seq_exit ?_ | refine block_normal ?_ | refine block_ret ?_ | refine block_exit ?_ | refine block_over rfl ?_ | refine loop_exit ?_ | refine loop_ret ?_ | refine ro_back ?_)
  rw [hH]
  repeat (first | refine put_tmp rfl ?_ | refine put0 rfl ?_ | refine put1 rfl ?_ | refine put2 rfl ?_ | refine put3 rfl ?_ | refine put4 rfl ?_ | refine put5 rfl ?_ | refine put6 rfl ?_ | refine put7 rfl ?_ | refine put8 rfl ?_ | refine put9 rfl ?_ | refine put10 rfl ?_ | refine put11 rfl ?_ | refine put12 rfl ?_ | refine put13 rfl ?_ | refine put14 rfl ?_ | refine put15 rfl ?_ | refine put16 rfl ?_ | refine put_none ?_ | refine wpOps_op rfl rfl ?_ | refine wpOps_load rfl rfl rfl rfl (by assumption) ?_ | refine wpOps_nil ?_ | refine run_it ?_ | refine seq_normal ?_ | refine wpCode_seq ?_ | refine wpCode_region ?_ | refine wpCode_draw ?_ | refine draw_it rfl ?_ | refine wpCode_block ?_ | refine wpCode_skip ?_ | refine wpCode_ret ?_ | refine wpCode_exit ?_ | refine seq_ret ?_ | refine seq_exit ?_ | refine block_normal ?_ | refine block_ret ?_ | refine block_exit ?_ | refine block_over rfl ?_ | refine loop_exit ?_ | refine loop_ret ?_ | refine ro_back ?_)
  refine wpOps_loadAgg rfl rfl rfl rfl rfl p0 ?_
  repeat (first | refine put_tmp rfl ?_ | refine put0 rfl ?_ | refine put1 rfl ?_ | refine put2 rfl ?_ | refine put3 rfl ?_ | refine put4 rfl ?_ | refine put5 rfl ?_ | refine put6 rfl ?_ | refine put7 rfl ?_ | refine put8 rfl ?_ | refine put9 rfl ?_ | refine put10 rfl ?_ | refine put11 rfl ?_ | refine put12 rfl ?_ | refine put13 rfl ?_ | refine put14 rfl ?_ | refine put15 rfl ?_ | refine put16 rfl ?_ | refine put_none ?_ | refine wpOps_op rfl rfl ?_ | refine wpOps_load rfl rfl rfl rfl (by assumption) ?_ | refine wpOps_nil ?_ | refine run_it ?_ | refine seq_normal ?_ | refine wpCode_seq ?_ | refine wpCode_region ?_ | refine wpCode_draw ?_ | refine draw_it rfl ?_ | refine wpCode_block ?_ | refine wpCode_skip ?_ | refine wpCode_ret ?_ | refine wpCode_exit ?_ | refine seq_ret ?_ | refine seq_exit ?_ | refine block_normal ?_ | refine block_ret ?_ | refine block_exit ?_ | refine block_over rfl ?_ | refine loop_exit ?_ | refine loop_ret ?_ | refine ro_back ?_)
  refine wpOps_loadAgg rfl rfl rfl rfl rfl q0 ?_
  repeat (first | refine put_tmp rfl ?_ | refine put0 rfl ?_ | refine put1 rfl ?_ | refine put2 rfl ?_ | refine put3 rfl ?_ | refine put4 rfl ?_ | refine put5 rfl ?_ | refine put6 rfl ?_ | refine put7 rfl ?_ | refine put8 rfl ?_ | refine put9 rfl ?_ | refine put10 rfl ?_ | refine put11 rfl ?_ | refine put12 rfl ?_ | refine put13 rfl ?_ | refine put14 rfl ?_ | refine put15 rfl ?_ | refine put16 rfl ?_ | refine put_none ?_ | refine wpOps_op rfl rfl ?_ | refine wpOps_load rfl rfl rfl rfl (by assumption) ?_ | refine wpOps_nil ?_ | refine run_it ?_ | refine seq_normal ?_ | refine wpCode_seq ?_ | refine wpCode_region ?_ | refine wpCode_draw ?_ | refine draw_it rfl ?_ | refine wpCode_block ?_ | refine wpCode_skip ?_ | refine wpCode_ret ?_ | refine wpCode_exit ?_ | refine seq_ret ?_ | refine seq_exit ?_ | refine block_normal ?_ | refine block_ret ?_ | refine block_exit ?_ | refine block_over rfl ?_ | refine loop_exit ?_ | refine loop_ret ?_ | refine ro_back ?_)
  obtain ⟨H3, hH3⟩ : ∃ H3, (H2.new (.cells (DV.agg [.int .i64 0, .int .i64 0, .int .i64 0]).cellsOf)).new (.cells (DV.agg [.int .i64 0, .int .i64 0, .int .i64 0]).cellsOf) = H3 := ⟨_, rfl⟩
  have r3 : H3.ro = h.ro := by rw [← hH3]; exact r2
  have c1 : H3.cells H2.next = some [.int .i64 0, .int .i64 0, .int .i64 0] := by rw [← hH3]; simp [cells_new, DV.cellsOf]
  have s1 : H3.st (H2.next, 0) [.int .i64 x2, .int .i64 x3, .int .i64 x4] = some (H3.put H2.next (.cells [.int .i64 x2, .int .i64 x3, .int .i64 x4])) := st_of (r := (H2.next, 0)) (cs := [.int .i64 0, .int .i64 0, .int .i64 0]) (vs := [.int .i64 x2, .int .i64 x3, .int .i64 x4]) c1 (show H3.ro ≤ H2.next by omega) (Nat.le_refl 3) rfl
  obtain ⟨H4, hH4⟩ : ∃ H4, H3.put H2.next (.cells [.int .i64 x2, .int .i64 x3, .int .i64 x4]) = H4 := ⟨_, rfl⟩
  rw [hH4] at s1
  have r4 : H4.ro = h.ro := by rw [← hH4]; exact r3
  have c2 : H4.cells (H2.next + 1) = some [.int .i64 0, .int .i64 0, .int .i64 0] := by rw [← hH4, ← hH3]; simp [cells_new, cells_put, DV.cellsOf]
  have s2 : H4.st (H2.next + 1, 0) [.int .i64 y2, .int .i64 y3, .int .i64 y4] = some (H4.put (H2.next + 1) (.cells [.int .i64 y2, .int .i64 y3, .int .i64 y4])) := st_of (r := (H2.next + 1, 0)) (cs := [.int .i64 0, .int .i64 0, .int .i64 0]) (vs := [.int .i64 y2, .int .i64 y3, .int .i64 y4]) c2 (show H4.ro ≤ H2.next + 1 by omega) (Nat.le_refl 3) rfl
  obtain ⟨H5, hH5⟩ : ∃ H5, H4.put (H2.next + 1) (.cells [.int .i64 y2, .int .i64 y3, .int .i64 y4]) = H5 := ⟨_, rfl⟩
  rw [hH5] at s2
  have e1 : h.next + 1 + 1 + 1 ≠ h.next := by omega
  have e2 : h.next + 1 + 1 ≠ h.next := by omega
  have e3 : h.next + 1 + 1 + 1 ≠ h.next + 1 := by omega
  have e4 : h.next + 1 + 1 ≠ h.next + 1 := by omega
  have l0 : H5.ld (h.next, 0) = some (.int .i64 x0) := by rw [← hH5, ← hH4, ← hH3, ← hH]; simp [ld_put, ld_new, DV.cellsOf, e1, e2]
  have l1 : H5.ld (h.next, 1) = some (.int .i64 x1) := by rw [← hH5, ← hH4, ← hH3, ← hH]; simp [ld_put, ld_new, DV.cellsOf, e1, e2]
  have l5 : H5.ld (h.next, 5) = some (.int .i64 x5) := by rw [← hH5, ← hH4, ← hH3, ← hH]; simp [ld_put, ld_new, DV.cellsOf, e1, e2]
  have l6 : H5.ld (h.next, 6) = some (.int .i64 x6) := by rw [← hH5, ← hH4, ← hH3, ← hH]; simp [ld_put, ld_new, DV.cellsOf, e1, e2]
  have k0 : H5.ld (h.next + 1, 0) = some (.int .i64 y0) := by rw [← hH5, ← hH4, ← hH3, ← hH]; simp [ld_put, ld_new, DV.cellsOf, e2]
  have k1 : H5.ld (h.next + 1, 1) = some (.int .i64 y1) := by rw [← hH5, ← hH4, ← hH3, ← hH]; simp [ld_put, ld_new, DV.cellsOf, e2]
  have k5 : H5.ld (h.next + 1, 5) = some (.int .i64 y5) := by rw [← hH5, ← hH4, ← hH3, ← hH]; simp [ld_put, ld_new, DV.cellsOf, e2]
  have k6 : H5.ld (h.next + 1, 6) = some (.int .i64 y6) := by rw [← hH5, ← hH4, ← hH3, ← hH]; simp [ld_put, ld_new, DV.cellsOf, e2]
  have l2 : H5.ld (H2.next, 0) = some (.int .i64 x2) := by rw [← hH5, ← hH4]; simp [ld_put]
  have l3 : H5.ld (H2.next, 1) = some (.int .i64 x3) := by rw [← hH5, ← hH4]; simp [ld_put]
  have l4 : H5.ld (H2.next, 2) = some (.int .i64 x4) := by rw [← hH5, ← hH4]; simp [ld_put]
  have k2 : H5.ld (H2.next + 1, 0) = some (.int .i64 y2) := by rw [← hH5]; simp [ld_put]
  have k3 : H5.ld (H2.next + 1, 1) = some (.int .i64 y3) := by rw [← hH5]; simp [ld_put]
  have k4 : H5.ld (H2.next + 1, 2) = some (.int .i64 y4) := by rw [← hH5]; simp [ld_put]
  rw [hH3]
  refine wpOps_store rfl rfl rfl rfl rfl rfl s1 ?_
  repeat (first | refine put_tmp rfl ?_ | refine put0 rfl ?_ | refine put1 rfl ?_ | refine put2 rfl ?_ | refine put3 rfl ?_ | refine put4 rfl ?_ | refine put5 rfl ?_ | refine put6 rfl ?_ | refine put7 rfl ?_ | refine put8 rfl ?_ | refine put9 rfl ?_ | refine put10 rfl ?_ | refine put11 rfl ?_ | refine put12 rfl ?_ | refine put13 rfl ?_ | refine put14 rfl ?_ | refine put15 rfl ?_ | refine put16 rfl ?_ | refine put_none ?_ | refine wpOps_op rfl rfl ?_ | refine wpOps_load rfl rfl rfl rfl (by assumption) ?_ | refine wpOps_nil ?_ | refine run_it ?_ | refine seq_normal ?_ | refine wpCode_seq ?_ | refine wpCode_region ?_ | refine wpCode_draw ?_ | refine draw_it rfl ?_ | refine wpCode_block ?_ | refine wpCode_skip ?_ | refine wpCode_ret ?_ | refine wpCode_exit ?_ | refine seq_ret ?_ | refine seq_exit ?_ | refine block_normal ?_ | refine block_ret ?_ | refine block_exit ?_ | refine block_over rfl ?_ | refine loop_exit ?_ | refine loop_ret ?_ | refine ro_back ?_)
  refine wpOps_store rfl rfl rfl rfl rfl rfl s2 ?_
  repeat (first | refine put_tmp rfl ?_ | refine put0 rfl ?_ | refine put1 rfl ?_ | refine put2 rfl ?_ | refine put3 rfl ?_ | refine put4 rfl ?_ | refine put5 rfl ?_ | refine put6 rfl ?_ | refine put7 rfl ?_ | refine put8 rfl ?_ | refine put9 rfl ?_ | refine put10 rfl ?_ | refine put11 rfl ?_ | refine put12 rfl ?_ | refine put13 rfl ?_ | refine put14 rfl ?_ | refine put15 rfl ?_ | refine put16 rfl ?_ | refine put_none ?_ | refine wpOps_op rfl rfl ?_ | refine wpOps_load rfl rfl rfl rfl (by assumption) ?_ | refine wpOps_nil ?_ | refine run_it ?_ | refine seq_normal ?_ | refine wpCode_seq ?_ | refine wpCode_region ?_ | refine wpCode_draw ?_ | refine draw_it rfl ?_ | refine wpCode_block ?_ | refine wpCode_skip ?_ | refine wpCode_ret ?_ | refine wpCode_exit ?_ | refine seq_ret ?_ | refine seq_exit ?_ | refine block_normal ?_ | refine block_ret ?_ | refine block_exit ?_ | refine block_over rfl ?_ | refine loop_exit ?_ | refine loop_ret ?_ | refine ro_back ?_)
  refine draw_it (show ((H2.next != h.next + 1) && true) = true by rw [n2]; simp) ?_
  repeat (first | refine put_tmp rfl ?_ | refine put0 rfl ?_ | refine put1 rfl ?_ | refine put2 rfl ?_ | refine put3 rfl ?_ | refine put4 rfl ?_ | refine put5 rfl ?_ | refine put6 rfl ?_ | refine put7 rfl ?_ | refine put8 rfl ?_ | refine put9 rfl ?_ | refine put10 rfl ?_ | refine put11 rfl ?_ | refine put12 rfl ?_ | refine put13 rfl ?_ | refine put14 rfl ?_ | refine put15 rfl ?_ | refine put16 rfl ?_ | refine put_none ?_ | refine wpOps_op rfl rfl ?_ | refine wpOps_load rfl rfl rfl rfl (by assumption) ?_ | refine wpOps_nil ?_ | refine run_it ?_ | refine seq_normal ?_ | refine wpCode_seq ?_ | refine wpCode_region ?_ | refine wpCode_draw ?_ | refine draw_it rfl ?_ | refine wpCode_block ?_ | refine wpCode_skip ?_ | refine wpCode_ret ?_ | refine wpCode_exit ?_ | refine seq_ret ?_ | refine seq_exit ?_ | refine block_normal ?_ | refine block_ret ?_ | refine block_exit ?_ | refine block_over rfl ?_ | refine loop_exit ?_ | refine loop_ret ?_ | refine ro_back ?_)
  refine wpOps_callQ rfl rfl (fun _ => rfl) ?_
  refine compare o3 o2 _ _ _ _ ?_
  repeat (first | refine put_tmp rfl ?_ | refine put0 rfl ?_ | refine put1 rfl ?_ | refine put2 rfl ?_ | refine put3 rfl ?_ | refine put4 rfl ?_ | refine put5 rfl ?_ | refine put6 rfl ?_ | refine put7 rfl ?_ | refine put8 rfl ?_ | refine put9 rfl ?_ | refine put10 rfl ?_ | refine put11 rfl ?_ | refine put12 rfl ?_ | refine put13 rfl ?_ | refine put14 rfl ?_ | refine put15 rfl ?_ | refine put16 rfl ?_ | refine put_none ?_ | refine wpOps_op rfl rfl ?_ | refine wpOps_load rfl rfl rfl rfl (by assumption) ?_ | refine wpOps_nil ?_ | refine run_it ?_ | refine seq_normal ?_ | refine wpCode_seq ?_ | refine wpCode_region ?_ | refine wpCode_draw ?_ | refine draw_it rfl ?_ | refine wpCode_block ?_ | refine wpCode_skip ?_ | refine wpCode_ret ?_ | refine wpCode_exit ?_ | refine seq_ret ?_ | refine seq_exit ?_ | refine block_normal ?_ | refine block_ret ?_ | refine block_exit ?_ | refine block_over rfl ?_ | refine loop_exit ?_ | refine loop_ret ?_ | refine ro_back ?_)
  refine wpOps_callQ rfl rfl (fun _ => rfl) ?_
  refine compare o3 o2 _ _ _ _ ?_
  repeat (first | refine put_tmp rfl ?_ | refine put0 rfl ?_ | refine put1 rfl ?_ | refine put2 rfl ?_ | refine put3 rfl ?_ | refine put4 rfl ?_ | refine put5 rfl ?_ | refine put6 rfl ?_ | refine put7 rfl ?_ | refine put8 rfl ?_ | refine put9 rfl ?_ | refine put10 rfl ?_ | refine put11 rfl ?_ | refine put12 rfl ?_ | refine put13 rfl ?_ | refine put14 rfl ?_ | refine put15 rfl ?_ | refine put16 rfl ?_ | refine put_none ?_ | refine wpOps_op rfl rfl ?_ | refine wpOps_load rfl rfl rfl rfl (by assumption) ?_ | refine wpOps_nil ?_ | refine run_it ?_ | refine seq_normal ?_ | refine wpCode_seq ?_ | refine wpCode_region ?_ | refine wpCode_draw ?_ | refine draw_it rfl ?_ | refine wpCode_block ?_ | refine wpCode_skip ?_ | refine wpCode_ret ?_ | refine wpCode_exit ?_ | refine seq_ret ?_ | refine seq_exit ?_ | refine block_normal ?_ | refine block_ret ?_ | refine block_exit ?_ | refine block_over rfl ?_ | refine loop_exit ?_ | refine loop_ret ?_ | refine ro_back ?_)
  refine wpOps_callQ rfl rfl (fun _ => rfl) ?_
  refine compare o3 o2 _ _ _ _ ?_
  repeat (first | refine put_tmp rfl ?_ | refine put0 rfl ?_ | refine put1 rfl ?_ | refine put2 rfl ?_ | refine put3 rfl ?_ | refine put4 rfl ?_ | refine put5 rfl ?_ | refine put6 rfl ?_ | refine put7 rfl ?_ | refine put8 rfl ?_ | refine put9 rfl ?_ | refine put10 rfl ?_ | refine put11 rfl ?_ | refine put12 rfl ?_ | refine put13 rfl ?_ | refine put14 rfl ?_ | refine put15 rfl ?_ | refine put16 rfl ?_ | refine put_none ?_ | refine wpOps_op rfl rfl ?_ | refine wpOps_load rfl rfl rfl rfl (by assumption) ?_ | refine wpOps_nil ?_ | refine run_it ?_ | refine seq_normal ?_ | refine wpCode_seq ?_ | refine wpCode_region ?_ | refine wpCode_draw ?_ | refine draw_it rfl ?_ | refine wpCode_block ?_ | refine wpCode_skip ?_ | refine wpCode_ret ?_ | refine wpCode_exit ?_ | refine seq_ret ?_ | refine seq_exit ?_ | refine block_normal ?_ | refine block_ret ?_ | refine block_exit ?_ | refine block_over rfl ?_ | refine loop_exit ?_ | refine loop_ret ?_ | refine ro_back ?_)
  refine wpOps_callQ rfl rfl (fun _ => rfl) ?_
  refine compare o3 o2 _ _ _ _ ?_
  repeat (first | refine put_tmp rfl ?_ | refine put0 rfl ?_ | refine put1 rfl ?_ | refine put2 rfl ?_ | refine put3 rfl ?_ | refine put4 rfl ?_ | refine put5 rfl ?_ | refine put6 rfl ?_ | refine put7 rfl ?_ | refine put8 rfl ?_ | refine put9 rfl ?_ | refine put10 rfl ?_ | refine put11 rfl ?_ | refine put12 rfl ?_ | refine put13 rfl ?_ | refine put14 rfl ?_ | refine put15 rfl ?_ | refine put16 rfl ?_ | refine put_none ?_ | refine wpOps_op rfl rfl ?_ | refine wpOps_load rfl rfl rfl rfl (by assumption) ?_ | refine wpOps_nil ?_ | refine run_it ?_ | refine seq_normal ?_ | refine wpCode_seq ?_ | refine wpCode_region ?_ | refine wpCode_draw ?_ | refine draw_it rfl ?_ | refine wpCode_block ?_ | refine wpCode_skip ?_ | refine wpCode_ret ?_ | refine wpCode_exit ?_ | refine seq_ret ?_ | refine seq_exit ?_ | refine block_normal ?_ | refine block_ret ?_ | refine block_exit ?_ | refine block_over rfl ?_ | refine loop_exit ?_ | refine loop_ret ?_ | refine ro_back ?_)
  refine wpOps_callQ rfl rfl (fun _ => rfl) ?_
  refine compare o3 o2 _ _ _ _ ?_
  repeat (first | refine put_tmp rfl ?_ | refine put0 rfl ?_ | refine put1 rfl ?_ | refine put2 rfl ?_ | refine put3 rfl ?_ | refine put4 rfl ?_ | refine put5 rfl ?_ | refine put6 rfl ?_ | refine put7 rfl ?_ | refine put8 rfl ?_ | refine put9 rfl ?_ | refine put10 rfl ?_ | refine put11 rfl ?_ | refine put12 rfl ?_ | refine put13 rfl ?_ | refine put14 rfl ?_ | refine put15 rfl ?_ | refine put16 rfl ?_ | refine put_none ?_ | refine wpOps_op rfl rfl ?_ | refine wpOps_load rfl rfl rfl rfl (by assumption) ?_ | refine wpOps_nil ?_ | refine run_it ?_ | refine seq_normal ?_ | refine wpCode_seq ?_ | refine wpCode_region ?_ | refine wpCode_draw ?_ | refine draw_it rfl ?_ | refine wpCode_block ?_ | refine wpCode_skip ?_ | refine wpCode_ret ?_ | refine wpCode_exit ?_ | refine seq_ret ?_ | refine seq_exit ?_ | refine block_normal ?_ | refine block_ret ?_ | refine block_exit ?_ | refine block_over rfl ?_ | refine loop_exit ?_ | refine loop_ret ?_ | refine ro_back ?_)
  refine wpOps_callQ rfl rfl (fun _ => rfl) ?_
  refine compare o3 o2 _ _ _ _ ?_
  repeat (first | refine put_tmp rfl ?_ | refine put0 rfl ?_ | refine put1 rfl ?_ | refine put2 rfl ?_ | refine put3 rfl ?_ | refine put4 rfl ?_ | refine put5 rfl ?_ | refine put6 rfl ?_ | refine put7 rfl ?_ | refine put8 rfl ?_ | refine put9 rfl ?_ | refine put10 rfl ?_ | refine put11 rfl ?_ | refine put12 rfl ?_ | refine put13 rfl ?_ | refine put14 rfl ?_ | refine put15 rfl ?_ | refine put16 rfl ?_ | refine put_none ?_ | refine wpOps_op rfl rfl ?_ | refine wpOps_load rfl rfl rfl rfl (by assumption) ?_ | refine wpOps_nil ?_ | refine run_it ?_ | refine seq_normal ?_ | refine wpCode_seq ?_ | refine wpCode_region ?_ | refine wpCode_draw ?_ | refine draw_it rfl ?_ | refine wpCode_block ?_ | refine wpCode_skip ?_ | refine wpCode_ret ?_ | refine wpCode_exit ?_ | refine seq_ret ?_ | refine seq_exit ?_ | refine block_normal ?_ | refine block_ret ?_ | refine block_exit ?_ | refine block_over rfl ?_ | refine loop_exit ?_ | refine loop_ret ?_ | refine ro_back ?_)
  refine wpOps_callBar rfl rfl (fun _ => rfl) ?_
  refine compare o3 o2 _ _ _ _ ?_
  repeat (first | refine put_tmp rfl ?_ | refine put0 rfl ?_ | refine put1 rfl ?_ | refine put2 rfl ?_ | refine put3 rfl ?_ | refine put4 rfl ?_ | refine put5 rfl ?_ | refine put6 rfl ?_ | refine put7 rfl ?_ | refine put8 rfl ?_ | refine put9 rfl ?_ | refine put10 rfl ?_ | refine put11 rfl ?_ | refine put12 rfl ?_ | refine put13 rfl ?_ | refine put14 rfl ?_ | refine put15 rfl ?_ | refine put16 rfl ?_ | refine put_none ?_ | refine wpOps_op rfl rfl ?_ | refine wpOps_load rfl rfl rfl rfl (by assumption) ?_ | refine wpOps_nil ?_ | refine run_it ?_ | refine seq_normal ?_ | refine wpCode_seq ?_ | refine wpCode_region ?_ | refine wpCode_draw ?_ | refine draw_it rfl ?_ | refine wpCode_block ?_ | refine wpCode_skip ?_ | refine wpCode_ret ?_ | refine wpCode_exit ?_ | refine seq_ret ?_ | refine seq_exit ?_ | refine block_normal ?_ | refine block_ret ?_ | refine block_exit ?_ | refine block_over rfl ?_ | refine loop_exit ?_ | refine loop_ret ?_ | refine ro_back ?_)
  refine wpOps_callBar rfl rfl (fun _ => rfl) ?_
  refine or_ok o4 (H5.next, 0) _ [cmpI x0 y0, cmpI x1 y1, cmpI x2 y2, cmpI x3 y3, cmpI x4 y4, cmpI x5 y5, cmpI x6 y6] _ (by simp) ?_ _ ?_
  · intro i v hi
    match i, hi with
    | 0, hi => simp at hi; subst hi; simp [ld_new, DV.cellsOf]; rfl
    | 1, hi => simp at hi; subst hi; simp [ld_new, DV.cellsOf]; rfl
    | 2, hi => simp at hi; subst hi; simp [ld_new, DV.cellsOf]; rfl
    | 3, hi => simp at hi; subst hi; simp [ld_new, DV.cellsOf]; rfl
    | 4, hi => simp at hi; subst hi; simp [ld_new, DV.cellsOf]; rfl
    | 5, hi => simp at hi; subst hi; simp [ld_new, DV.cellsOf]; rfl
    | 6, hi => simp at hi; subst hi; simp [ld_new, DV.cellsOf]; rfl
  · repeat (first | refine put_tmp rfl ?_ | refine put0 rfl ?_ | refine put1 rfl ?_ | refine put2 rfl ?_ | refine put3 rfl ?_ | refine put4 rfl ?_ | refine put5 rfl ?_ | refine put6 rfl ?_ | refine put7 rfl ?_ | refine put8 rfl ?_ | refine put9 rfl ?_ | refine put10 rfl ?_ | refine put11 rfl ?_ | refine put12 rfl ?_ | refine put13 rfl ?_ | refine put14 rfl ?_ | refine put15 rfl ?_ | refine put16 rfl ?_ | refine put_none ?_ | refine wpOps_op rfl rfl ?_ | refine wpOps_load rfl rfl rfl rfl (by assumption) ?_ | refine wpOps_nil ?_ | refine run_it ?_ | refine seq_normal ?_ | refine wpCode_seq ?_ | refine wpCode_region ?_ | refine wpCode_draw ?_ | refine draw_it rfl ?_ | refine wpCode_block ?_ | refine wpCode_skip ?_ | refine wpCode_ret ?_ | refine wpCode_exit ?_ | refine seq_ret ?_ | refine seq_exit ?_ | refine block_normal ?_ | refine block_ret ?_ | refine block_exit ?_ | refine block_over rfl ?_ | refine loop_exit ?_ | refine loop_ret ?_ | refine ro_back ?_)
    refine end_ret rfl (hQ _)

end Go.Proofs.YtfphfbfjmpbohaaGreat
