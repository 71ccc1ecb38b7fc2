/- A part of the proof whose last text is YtdoeegfcmbcbkaaAZ4. -/
import Derived.Test.YtdoeegfcmbcbkaaAZ2
import Derived.Lib.Bytealg
set_option linter.all false
/- Made by program: typed transformers of the functions, each met by its code. -/
namespace Go.Proofs.Ytdoeegfcmbcbkaa.Tr
open Go Go.Eng
set_option linter.unusedVariables false
set_option maxRecDepth 100000
set_option maxHeartbeats 4000000
/-- slices.IndexFunc[[]turnpike/api.Share,turnpike/api.Share]; slots 0:s, 1:f, 2:s, 3:f, 5:i -/
def f124 (t0 : Sl) (t1 : Value) (R : (Int) → World → Prop) (w : World) : Prop :=
  Lp (σ := Int) (fun s1 w n1 =>
    if s1 < (t0.n : Int) then
      RnP Try.prog Ptr (Instr.indexAt 23 (Sl.v t0) (.int .i64 s1)) fun t14 =>
      Rn Try.prog TShare.v (Instr.loadAt 32 (Ptr t14)) w fun t15 w =>
      CalV Try.prog Value.bool t1 #[(TShare.v t15)] w fun t16 w =>
      if t16 = true then
        R s1 w
      else
        n1 (IntKind.i64.wrap (s1 + 1)) w
    else
      R (-1) w
  ) 0 w
theorem c124 {t0 : Sl} {t1 : Value} {R : (Int) → World → Prop} {w : World} (h : f124 t0 t1 R w) :
    Cal Try.prog (Value.int .i64) 124 #[(Sl.v t0), t1] w R := by
  unfold f124 at h
  refine calls_ Try.func124 Try.ntmps124 rfl rfl ?_
  refine seq_ ?_
  refine region_ ?_
  refine st_val (ex_assign (v := (.int .i64 0)) rfl) ?_
  refine wl_nil ?_
  refine then_n ?_
  refine seq_ ?_
  refine seq_ ?_
  refine region_ ?_
  refine st_val (ex_move (v := (Sl.v t0)) rfl) ?_
  refine st_val (ex_len (s := t0) Try.underlying23 rfl) ?_
  refine st_val (ex_move (v := (.int .i64 0)) rfl) ?_
  refine wl_nil ?_
  refine then_n ?_
  refine wp_block ?_
  refine wp_lp (σ := Int) (fun s1 a => ∃ j, a = F 19 (upds j [(0, (Sl.v t0)), (1, t1), (7, (.int .i64 (t0.n : Int))), (8, (.int .i64 s1))])) h (mk_upds (ae rfl (ae rfl (ae rfl (ae rfl ae0))))) ?_
  clear h; rintro s1 _ w n1 ⟨j, rfl⟩ h
  refine seq_ ?_
  refine region_ ?_
  refine st_val (ex_lss (a := s1) (b := (t0.n : Int)) rfl rfl) ?_
  refine wl_nil ?_
  refine then_n ?_
  refine seq_ ?_
  by_cases hc2 : s1 < (t0.n : Int)
  · rw [if_pos hc2] at h; refine cond_1 (b := (decide (s1 < (t0.n : Int)))) rfl (decide_eq_true hc2) ?_
    refine wp_skip ?_
    refine then_n ?_
    refine seq_ ?_
    refine wp_block ?_
    refine seq_ ?_
    refine region_ ?_
    refine st_val (ex_move (v := (.int .i64 s1)) rfl) ?_
    refine st_val (ex_assign (v := (.int .i64 s1)) rfl) ?_
    refine wl_nil ?_
    refine then_n ?_
    refine seq_ ?_
    refine region_ ?_
    refine st_val (ex_move (v := t1) rfl) ?_
    refine st_val (ex_move (v := (Sl.v t0)) rfl) ?_
    refine st_val (ex_move (v := (.int .i64 s1)) rfl) ?_
    refine st_rnp (fun r => ex_indexAddr rfl rfl r) h ?_; clear h; intro t14 h
    refine st_rn (fun r => ex_load rfl r) h ?_; clear h; intro t15 w h
    refine st_calv rfl rfl h ?_; clear h; intro t16 w h
    refine wl_nil ?_
    refine then_n ?_
    by_cases hc3 : t16 = true
    · rw [if_pos hc3] at h; refine cond_1 (b := t16) rfl hc3 ?_
      refine seq_ ?_
      refine region_ ?_
      refine st_val (ex_move (v := (.int .i64 s1)) rfl) ?_
      refine st_val (ex_assign (v := (.int .i64 s1)) rfl) ?_
      refine wl_nil ?_
      refine then_n ?_
      refine wp_ret ?_
      refine inb_r ?_
      refine then_r ?_
      refine then_r ?_
      refine inb_r ?_
      refine then_r ?_
      refine ret_1 rfl rfl ⟨s1, rfl, h⟩
    · rw [if_neg hc3] at h; refine cond_0 (b := t16) rfl (Bool.eq_false_iff.2 hc3) ?_
      refine wp_skip ?_
      refine inb_n ?_
      refine then_n ?_
      refine region_ ?_
      refine st_val (ex_add (a := s1) (b := 1) rfl rfl) ?_
      refine st_val (ex_move (v := (.int .i64 (IntKind.i64.wrap (s1 + 1)))) rfl) ?_
      refine wl_nil ?_
      exact then_n ⟨(IntKind.i64.wrap (s1 + 1)), mk_upds (ae rfl (ae rfl (ae rfl (ae rfl ae0)))), h⟩
  · rw [if_neg hc2] at h; refine cond_0 (b := (decide (s1 < (t0.n : Int)))) rfl (decide_eq_false hc2) ?_
    refine wp_exit ?_
    refine then_e ?_
    refine then_e ?_
    refine inb_e ?_
    refine then_n ?_
    refine seq_ ?_
    refine region_ ?_
    refine st_val (ex_assign (v := (.int .i64 (-1))) rfl) ?_
    refine wl_nil ?_
    refine then_n ?_
    refine wp_ret ?_
    refine ret_1 rfl rfl ⟨(-1), rfl, h⟩

/-- turnpike/tables.add$1; slots 0:s, 2:s -/
def f125 (t0 : TShare) (t1 : Addr) (R : (Bool) → World → Prop) (w : World) : Prop :=
  New 32 (TShare.cells t0) w fun b2 w =>
  Rn Try.prog Value.string (Instr.loadAt 9 (Ptr ((⟨b2, 0, none⟩ : Addr).add 0))) w fun t5 w =>
  Rn Try.prog Value.string (Instr.loadAt 9 (Ptr t1)) w fun t6 w =>
  R (decide (t5 = t6)) w
theorem c125 {t0 : TShare} {t1 : Addr} {R : (Bool) → World → Prop} {w : World} (h : f125 t0 t1 R w) :
    Cal Try.prog Value.bool 125 #[(TShare.v t0), (Ptr t1)] w R := by
  unfold f125 at h
  refine calls_ Try.func125 Try.ntmps125 rfl rfl ?_
  refine seq_ ?_
  refine region_ ?_
  refine st_new (f := (fun b => Ptr ⟨b, 0, none⟩)) (ex_boxN rfl rfl) h ?_; clear h; intro b2 w h
  refine st_val (ex_assign (v := (.bool false)) rfl) ?_
  refine wl_nil ?_
  refine then_n ?_
  refine seq_ ?_
  refine region_ ?_
  refine st_val (ex_fa fa32_0 (p := (⟨b2, 0, none⟩ : Addr)) rfl) ?_
  refine st_rn (fun r => ex_load rfl r) h ?_; clear h; intro t5 w h
  refine st_rn (fun r => ex_load rfl r) h ?_; clear h; intro t6 w h
  refine st_val (ex_eqlS (a := t5) (b := t6) rfl rfl) ?_
  refine st_val (ex_assign (v := (.bool (decide (t5 = t6)))) rfl) ?_
  refine wl_nil ?_
  refine then_n ?_
  refine wp_ret ?_
  refine ret_1 rfl rfl ⟨(decide (t5 = t6)), rfl, h⟩

/-- turnpike/turnpikeref13.PathPattern; slots 0:s, 1:s, 3:p, 4:is -/
def f126 (t0 : ByteArray) (R : (Bool) → World → Prop) (w : World) : Prop :=
  Cal Try.prog (fun x : ByteArray × Bool => Value.tuple #[(.string x.1), (.bool x.2)]) 127 #[(.string t0)] w fun t7 w =>
  Jn (σ := Bool) (fun k1 =>
    if t7.2 = true then
      if t7.1 = (⟨#[]⟩ : ByteArray) then
        k1 true w
      else
        Cal Try.prog Value.bool 142 #[(.string t7.1)] w fun t17 w =>
        k1 t17 w
    else
      Cal Try.prog Value.bool 142 #[(.string t7.1)] w fun t17_1 w =>
      k1 t17_1 w
  ) fun s1 w =>
    R s1 w
theorem c126 {t0 : ByteArray} {R : (Bool) → World → Prop} {w : World} (h : f126 t0 R w) :
    Cal Try.prog Value.bool 126 #[(.string t0)] w R := by
  unfold f126 at h
  refine calls_ Try.func126 Try.ntmps126 rfl rfl ?_
  refine seq_ ?_
  refine region_ ?_
  refine st_val (ex_assign (v := (.bool false)) rfl) ?_
  refine wl_nil ?_
  refine then_n ?_
  refine seq_ ?_
  refine region_ ?_
  refine st_val (ex_move (v := (.string t0)) rfl) ?_
  refine st_cal en127 rfl h ?_; clear h; intro t7 w h
  refine st_val (ex_move (v := (.tuple #[(.string t7.1), (.bool t7.2)])) rfl) ?_
  refine st_val (ex_extract (u := (.tuple #[(.string t7.1), (.bool t7.2)])) rfl (v := (.string t7.1)) rfl) ?_
  refine st_val (ex_extract (u := (.tuple #[(.string t7.1), (.bool t7.2)])) rfl (v := (.bool t7.2)) rfl) ?_
  refine st_val (ex_assign (v := (.string t7.1)) rfl) ?_
  refine st_val (ex_assign (v := (.bool t7.2)) rfl) ?_
  refine wl_nil ?_
  refine then_n ?_
  refine wp_jn (σ := Bool) (fun s1 l => ∃ j, l = upds j [(2, (.bool s1))]) h ?_ ?_
  · clear h; rintro s1 _ w ⟨j, rfl⟩ h
    refine wp_ret ?_
    refine ret_1 rfl rfl ⟨s1, rfl, h⟩
  · clear h; intro k1 h
    refine region_ ?_
    refine st_val (ex_move (v := (.bool t7.2)) rfl) ?_
    refine st_val (ex_move (v := (.bool t7.2)) rfl) ?_
    by_cases hc2 : t7.2 = true
    · rw [if_pos hc2] at h
      refine st_on (t := 11) (c := t7.2) rfl rfl hc2 ?_
      refine st_val (ex_move (v := (.string t7.1)) rfl) ?_
      refine st_on (t := 11) (c := t7.2) rfl rfl hc2 ?_
      refine st_val (ex_eqlS (a := t7.1) (b := (⟨#[]⟩ : ByteArray)) rfl rfl) ?_
      refine st_val (ex_pick1 (b := t7.2) rfl hc2 (v := (.bool (decide (t7.1 = (⟨#[]⟩ : ByteArray))))) rfl) ?_
      refine st_val (ex_move (v := (.bool (decide (t7.1 = (⟨#[]⟩ : ByteArray))))) rfl) ?_
      by_cases hc3 : t7.1 = (⟨#[]⟩ : ByteArray)
      · rw [if_pos hc3] at h
        refine st_off (t := 15) (c := (decide (t7.1 = (⟨#[]⟩ : ByteArray)))) rfl rfl (decide_eq_true hc3) ?_
        refine st_off (t := 15) (c := (decide (t7.1 = (⟨#[]⟩ : ByteArray)))) rfl rfl (decide_eq_true hc3) ?_
        refine st_val (ex_pick1 (b := (decide (t7.1 = (⟨#[]⟩ : ByteArray)))) rfl (decide_eq_true hc3) (v := (.bool true)) rfl) ?_
        refine st_val (ex_assign (v := (.bool true)) rfl) ?_
        refine wl_nil ?_
        exact then_n ⟨true, _, rfl, mk_upds' (ae rfl ae0), h⟩
      · rw [if_neg hc3] at h
        refine st_on (t := 15) (c := (decide (t7.1 = (⟨#[]⟩ : ByteArray)))) rfl rfl (decide_eq_false hc3) ?_
        refine st_val (ex_move (v := (.string t7.1)) rfl) ?_
        refine st_on (t := 15) (c := (decide (t7.1 = (⟨#[]⟩ : ByteArray)))) rfl rfl (decide_eq_false hc3) ?_
        refine st_cal en142 rfl h ?_; clear h; intro t17 w h
        refine st_val (ex_pick0 (b := (decide (t7.1 = (⟨#[]⟩ : ByteArray)))) rfl (decide_eq_false hc3) (v := (.bool t17)) rfl) ?_
        refine st_val (ex_assign (v := (.bool t17)) rfl) ?_
        refine wl_nil ?_
        exact then_n ⟨t17, _, rfl, mk_upds' (ae rfl ae0), h⟩
    · rw [if_neg hc2] at h
      refine st_off (t := 11) (c := t7.2) rfl rfl (Bool.eq_false_iff.2 hc2) ?_
      refine st_off (t := 11) (c := t7.2) rfl rfl (Bool.eq_false_iff.2 hc2) ?_
      refine st_val (ex_pick0 (b := t7.2) rfl (Bool.eq_false_iff.2 hc2) (v := (.bool false)) rfl) ?_
      refine st_val (ex_move (v := (.bool false)) rfl) ?_
      refine st_on (t := 15) (c := false) rfl rfl (rfl : false = false) ?_
      refine st_val (ex_move (v := (.string t7.1)) rfl) ?_
      refine st_on (t := 15) (c := false) rfl rfl (rfl : false = false) ?_
      refine st_cal en142 rfl h ?_; clear h; intro t17_1 w h
      refine st_val (ex_pick0 (b := false) rfl (rfl : false = false) (v := (.bool t17_1)) rfl) ?_
      refine st_val (ex_assign (v := (.bool t17_1)) rfl) ?_
      refine wl_nil ?_
      exact then_n ⟨t17_1, _, rfl, mk_upds' (ae rfl ae0), h⟩

/-- turnpike/turnpikeref13.star; slots 0:s, 1:s -/
def f127 (t0 : ByteArray) (R : (ByteArray × Bool) → World → Prop) (w : World) : Prop :=
  Cal Try.prog Value.bool 143 #[(.string t0), (.string (⟨#[42]⟩ : ByteArray))] w fun t5 w =>
  if t5 = true then
    RnP Try.prog Value.string (Instr.sliceAt 9 (.string t0) none (some (.int .i64 (IntKind.i64.wrap ((t0.size : Int) - 1)))) none) fun t10 =>
    R (t10, true) w
  else
    R (t0, false) w
theorem c127 {t0 : ByteArray} {R : (ByteArray × Bool) → World → Prop} {w : World} (h : f127 t0 R w) :
    Cal Try.prog (fun x : ByteArray × Bool => Value.tuple #[(.string x.1), (.bool x.2)]) 127 #[(.string t0)] w R := by
  unfold f127 at h
  refine calls_ Try.func127 Try.ntmps127 rfl rfl ?_
  refine seq_ ?_
  refine region_ ?_
  refine st_val (ex_assign (v := (.string (⟨#[]⟩ : ByteArray))) rfl) ?_
  refine st_val (ex_assign (v := (.bool false)) rfl) ?_
  refine wl_nil ?_
  refine then_n ?_
  refine seq_ ?_
  refine seq_ ?_
  refine region_ ?_
  refine st_val (ex_move (v := (.string t0)) rfl) ?_
  refine st_cal en143 rfl h ?_; clear h; intro t5 w h
  refine wl_nil ?_
  refine then_n ?_
  by_cases hc1 : t5 = true
  · rw [if_pos hc1] at h; refine cond_1 (b := t5) rfl hc1 ?_
    refine seq_ ?_
    refine region_ ?_
    refine st_val (ex_move (v := (.string t0)) rfl) ?_
    refine st_val (ex_move (v := (.string t0)) rfl) ?_
    refine st_val (ex_lenS (s := t0) Try.underlying9 rfl) ?_
    refine st_val (ex_sub (a := (t0.size : Int)) (b := 1) rfl rfl) ?_
    refine st_rnp (fun r => ex_slice rfl rfl rfl rfl r) h ?_; clear h; intro t10 h
    refine st_val (ex_assign (v := (.string t10)) rfl) ?_
    refine st_val (ex_assign (v := (.bool true)) rfl) ?_
    refine wl_nil ?_
    refine then_n ?_
    refine wp_ret ?_
    refine then_r ?_
    refine ret_2 rfl rfl rfl ⟨(t10, true), rfl, h⟩
  · rw [if_neg hc1] at h; refine cond_0 (b := t5) rfl (Bool.eq_false_iff.2 hc1) ?_
    refine wp_skip ?_
    refine then_n ?_
    refine seq_ ?_
    refine region_ ?_
    refine st_val (ex_move (v := (.string t0)) rfl) ?_
    refine st_val (ex_assign (v := (.string t0)) rfl) ?_
    refine st_val (ex_assign (v := (.bool false)) rfl) ?_
    refine wl_nil ?_
    refine then_n ?_
    refine wp_ret ?_
    refine ret_2 rfl rfl rfl ⟨(t0, false), rfl, h⟩

/-- turnpike/turnpikeref13.begins; slots 0:s, 1:t, 2:s, 3:t -/
def f128 (t0 : ByteArray) (t1 : ByteArray) (R : (Bool) → World → Prop) (w : World) : Prop :=
  Jn (σ := Bool) (fun k1 =>
    if (t1.size : Int) ≤ (t0.size : Int) then
      RnP Try.prog Value.string (Instr.sliceAt 9 (.string t0) none (some (.int .i64 (t1.size : Int))) none) fun t14 =>
      k1 (decide (t14 = t1)) w
    else
      k1 false w
  ) fun s1 w =>
    R s1 w
theorem c128 {t0 : ByteArray} {t1 : ByteArray} {R : (Bool) → World → Prop} {w : World} (h : f128 t0 t1 R w) :
    Cal Try.prog Value.bool 128 #[(.string t0), (.string t1)] w R := by
  unfold f128 at h
  refine calls_ Try.func128 Try.ntmps128 rfl rfl ?_
  refine seq_ ?_
  refine region_ ?_
  refine st_val (ex_assign (v := (.bool false)) rfl) ?_
  refine wl_nil ?_
  refine then_n ?_
  refine wp_jn (σ := Bool) (fun s1 l => ∃ j, l = upds j [(4, (.bool s1))]) h ?_ ?_
  · clear h; rintro s1 _ w ⟨j, rfl⟩ h
    refine wp_ret ?_
    refine ret_1 rfl rfl ⟨s1, rfl, h⟩
  · clear h; intro k1 h
    refine region_ ?_
    refine st_val (ex_move (v := (.string t0)) rfl) ?_
    refine st_val (ex_lenS (s := t0) Try.underlying9 rfl) ?_
    refine st_val (ex_move (v := (.string t1)) rfl) ?_
    refine st_val (ex_lenS (s := t1) Try.underlying9 rfl) ?_
    refine st_val (ex_geq (a := (t0.size : Int)) (b := (t1.size : Int)) rfl rfl) ?_
    refine st_val (ex_move (v := (.bool (decide ((t1.size : Int) ≤ (t0.size : Int))))) rfl) ?_
    by_cases hc2 : (t1.size : Int) ≤ (t0.size : Int)
    · rw [if_pos hc2] at h
      refine st_on (t := 10) (c := (decide ((t1.size : Int) ≤ (t0.size : Int)))) rfl rfl (decide_eq_true hc2) ?_
      refine st_val (ex_move (v := (.string t0)) rfl) ?_
      refine st_on (t := 10) (c := (decide ((t1.size : Int) ≤ (t0.size : Int)))) rfl rfl (decide_eq_true hc2) ?_
      refine st_val (ex_move (v := (.string t1)) rfl) ?_
      refine st_on (t := 10) (c := (decide ((t1.size : Int) ≤ (t0.size : Int)))) rfl rfl (decide_eq_true hc2) ?_
      refine st_val (ex_lenS (s := t1) Try.underlying9 rfl) ?_
      refine st_on (t := 10) (c := (decide ((t1.size : Int) ≤ (t0.size : Int)))) rfl rfl (decide_eq_true hc2) ?_
      refine st_rnp (fun r => ex_slice rfl rfl rfl rfl r) h ?_; clear h; intro t14 h
      refine st_on (t := 10) (c := (decide ((t1.size : Int) ≤ (t0.size : Int)))) rfl rfl (decide_eq_true hc2) ?_
      refine st_val (ex_move (v := (.string t1)) rfl) ?_
      refine st_on (t := 10) (c := (decide ((t1.size : Int) ≤ (t0.size : Int)))) rfl rfl (decide_eq_true hc2) ?_
      refine st_val (ex_eqlS (a := t14) (b := t1) rfl rfl) ?_
      refine st_val (ex_pick1 (b := (decide ((t1.size : Int) ≤ (t0.size : Int)))) rfl (decide_eq_true hc2) (v := (.bool (decide (t14 = t1)))) rfl) ?_
      refine st_val (ex_assign (v := (.bool (decide (t14 = t1)))) rfl) ?_
      refine wl_nil ?_
      exact then_n ⟨(decide (t14 = t1)), _, rfl, mk_upds' (ae rfl ae0), h⟩
    · rw [if_neg hc2] at h
      refine st_off (t := 10) (c := (decide ((t1.size : Int) ≤ (t0.size : Int)))) rfl rfl (decide_eq_false hc2) ?_
      refine st_off (t := 10) (c := (decide ((t1.size : Int) ≤ (t0.size : Int)))) rfl rfl (decide_eq_false hc2) ?_
      refine st_off (t := 10) (c := (decide ((t1.size : Int) ≤ (t0.size : Int)))) rfl rfl (decide_eq_false hc2) ?_
      refine st_off (t := 10) (c := (decide ((t1.size : Int) ≤ (t0.size : Int)))) rfl rfl (decide_eq_false hc2) ?_
      refine st_off (t := 10) (c := (decide ((t1.size : Int) ≤ (t0.size : Int)))) rfl rfl (decide_eq_false hc2) ?_
      refine st_off (t := 10) (c := (decide ((t1.size : Int) ≤ (t0.size : Int)))) rfl rfl (decide_eq_false hc2) ?_
      refine st_val (ex_pick0 (b := (decide ((t1.size : Int) ≤ (t0.size : Int)))) rfl (decide_eq_false hc2) (v := (.bool false)) rfl) ?_
      refine st_val (ex_assign (v := (.bool false)) rfl) ?_
      refine wl_nil ?_
      exact then_n ⟨false, _, rfl, mk_upds' (ae rfl ae0), h⟩

/-- turnpike/turnpikeref15.add; slots 0:l, 1:service, 2:x, 3:l, 4:service, 5:x, 7:i -/
def f129 (t0 : Sl) (t1 : ByteArray) (t2 : Nat) (R : (Sl) → World → Prop) (w : World) : Prop :=
  Lp (σ := Int) (fun s1 w n1 =>
    if s1 < (t0.n : Int) then
      RnP Try.prog Ptr (Instr.indexAt 23 (Sl.v t0) (.int .i64 s1)) fun t16 =>
      Rn Try.prog Value.string (Instr.loadAt 9 (Ptr (t16.add 0))) w fun t18 w =>
      if t18 = t1 then
        RnP Try.prog Ptr (Instr.indexAt 23 (Sl.v t0) (.int .i64 s1)) fun t25 =>
        Rn Try.prog (Value.float .f64) (Instr.loadAt 30 (Ptr (t25.add 1))) w fun t27 w =>
        Rn Try.prog (Value.float .f64) (Op.floatArith .add .f64 t27 t2) w fun t29 w =>
        RnP Try.prog Ptr (Instr.indexAt 23 (Sl.v t0) (.int .i64 s1)) fun t30 =>
        RnU Try.prog (Instr.storeAt 30 (Ptr (t30.add 1)) (.float .f64 t29)) w fun w =>
        R t0 w
      else
        n1 (IntKind.i64.wrap (s1 + 1)) w
    else
      Rn Try.prog (Value.float .f64) (Op.floatArith .add .f64 0 t2) w fun t36 w =>
      New 32 ((TShare.cells (⟨t1, t36⟩ : TShare))) w fun b38 w =>
      Rn Try.prog Sl.v (Builtin.append_ #[23, 23] 23 #[(Sl.v t0), (Sl.v (⟨some ⟨b38, 0, none⟩, 1, 1⟩ : Sl))]) w fun t39 w =>
      R t39 w
  ) 0 w
theorem c129 {t0 : Sl} {t1 : ByteArray} {t2 : Nat} {R : (Sl) → World → Prop} {w : World} (h : f129 t0 t1 t2 R w) :
    Cal Try.prog Sl.v 129 #[(Sl.v t0), (.string t1), (.float .f64 t2)] w R := by
  unfold f129 at h
  refine calls_ Try.func129 Try.ntmps129 rfl rfl ?_
  refine seq_ ?_
  refine region_ ?_
  refine st_val (ex_assign (v := (Sl.v Sl.nil)) rfl) ?_
  refine wl_nil ?_
  refine then_n ?_
  refine seq_ ?_
  refine seq_ ?_
  refine region_ ?_
  refine st_val (ex_assign (v := (.int .i64 0)) rfl) ?_
  refine wl_nil ?_
  refine then_n ?_
  refine wp_block ?_
  refine wp_lp (σ := Int) (fun s1 a => ∃ j, a = F 40 (upds j [(0, (Sl.v t0)), (1, (.string t1)), (2, (.float .f64 t2)), (7, (.int .i64 s1))])) h (mk_upds (ae rfl (ae rfl (ae rfl (ae rfl ae0))))) ?_
  clear h; rintro s1 _ w n1 ⟨j, rfl⟩ h
  refine seq_ ?_
  refine seq_ ?_
  refine region_ ?_
  refine st_val (ex_move (v := (.int .i64 s1)) rfl) ?_
  refine st_val (ex_move (v := (Sl.v t0)) rfl) ?_
  refine st_val (ex_len (s := t0) Try.underlying23 rfl) ?_
  refine st_val (ex_lss (a := s1) (b := (t0.n : Int)) rfl rfl) ?_
  refine wl_nil ?_
  refine then_n ?_
  by_cases hc2 : s1 < (t0.n : Int)
  · rw [if_pos hc2] at h; refine cond_1 (b := (decide (s1 < (t0.n : Int)))) rfl (decide_eq_true hc2) ?_
    refine wp_skip ?_
    refine then_n ?_
    refine seq_ ?_
    refine wp_block ?_
    refine seq_ ?_
    refine region_ ?_
    refine st_val (ex_move (v := (Sl.v t0)) rfl) ?_
    refine st_val (ex_move (v := (.int .i64 s1)) rfl) ?_
    refine st_rnp (fun r => ex_indexAddr rfl rfl r) h ?_; clear h; intro t16 h
    refine st_val (ex_fa fa32_0 (p := t16) rfl) ?_
    refine st_rn (fun r => ex_load rfl r) h ?_; clear h; intro t18 w h
    refine st_val (ex_move (v := (.string t1)) rfl) ?_
    refine st_val (ex_eqlS (a := t18) (b := t1) rfl rfl) ?_
    refine wl_nil ?_
    refine then_n ?_
    by_cases hc3 : t18 = t1
    · rw [if_pos hc3] at h; refine cond_1 (b := (decide (t18 = t1))) rfl (decide_eq_true hc3) ?_
      refine seq_ ?_
      refine region_ ?_
      refine st_val (ex_move (v := (Sl.v t0)) rfl) ?_
      refine st_val (ex_move (v := (.int .i64 s1)) rfl) ?_
      refine st_val (ex_move (v := (Sl.v t0)) rfl) ?_
      refine st_val (ex_move (v := (.int .i64 s1)) rfl) ?_
      refine st_rnp (fun r => ex_indexAddr rfl rfl r) h ?_; clear h; intro t25 h
      refine st_val (ex_fa fa32_1 (p := t25) rfl) ?_
      refine st_rn (fun r => ex_load rfl r) h ?_; clear h; intro t27 w h
      refine st_val (ex_move (v := (.float .f64 t2)) rfl) ?_
      refine st_rn (fun r => ex_addF (a := t27) (b := t2) rfl rfl r) h ?_; clear h; intro t29 w h
      refine st_rnp (fun r => ex_indexAddr rfl rfl r) h ?_; clear h; intro t30 h
      refine st_val (ex_fa fa32_1 (p := t30) rfl) ?_
      refine st_rnu (fun r => ex_store rfl rfl r) h ?_; clear h; intro w h
      refine wl_nil ?_
      refine then_n ?_
      refine seq_ ?_
      refine region_ ?_
      refine st_val (ex_move (v := (Sl.v t0)) rfl) ?_
      refine st_val (ex_assign (v := (Sl.v t0)) rfl) ?_
      refine wl_nil ?_
      refine then_n ?_
      refine wp_ret ?_
      refine inb_r ?_
      refine then_r ?_
      refine then_r ?_
      refine inb_r ?_
      refine then_r ?_
      refine ret_1 rfl rfl ⟨t0, rfl, h⟩
    · rw [if_neg hc3] at h; refine cond_0 (b := (decide (t18 = t1))) rfl (decide_eq_false hc3) ?_
      refine wp_skip ?_
      refine inb_n ?_
      refine then_n ?_
      refine region_ ?_
      refine st_val (ex_move (v := (.int .i64 s1)) rfl) ?_
      refine st_val (ex_add (a := s1) (b := 1) rfl rfl) ?_
      refine st_val (ex_assign (v := (.int .i64 (IntKind.i64.wrap (s1 + 1)))) rfl) ?_
      refine wl_nil ?_
      exact then_n ⟨(IntKind.i64.wrap (s1 + 1)), mk_upds (ae rfl (ae rfl (ae rfl (ae rfl ae0)))), h⟩
  · rw [if_neg hc2] at h; refine cond_0 (b := (decide (s1 < (t0.n : Int)))) rfl (decide_eq_false hc2) ?_
    refine wp_exit ?_
    refine then_e ?_
    refine then_e ?_
    refine inb_e ?_
    refine then_n ?_
    refine seq_ ?_
    refine region_ ?_
    refine st_val (ex_move (v := (Sl.v t0)) rfl) ?_
    refine st_val (ex_move (v := (.string t1)) rfl) ?_
    refine st_val (ex_move (v := (.float .f64 t2)) rfl) ?_
    refine st_rn (fun r => ex_addF (a := 0) (b := t2) rfl rfl r) h ?_; clear h; intro t36 w h
    refine st_val (ex_build (a' := [(0, (.string t1)), (1, (.float .f64 t36))]) (v := TShare.v (⟨t1, t36⟩ : TShare)) rfl (e_build Try.underlying32 zero32 rfl pl32 rfl _)) ?_
    refine st_new (f := (fun b => Sl.v ⟨some ⟨b, 0, none⟩, 1, 1⟩)) (ex_buildSlice (a' := [(0, (TShare.v (⟨t1, t36⟩ : TShare)))]) rfl (e_buildSlice (cs := ((TShare.cells (⟨t1, t36⟩ : TShare)))) Try.underlying23 info32 iz32 (by decide +kernel) (by decide +kernel) (by kernel_rfl) _)) h ?_; clear h; intro b38 w h
    refine st_rn (fun r => ex_builtin rfl (fun _ => rfl) r) h ?_; clear h; intro t39 w h
    refine st_val (ex_assign (v := (Sl.v t39)) rfl) ?_
    refine wl_nil ?_
    refine then_n ?_
    refine wp_ret ?_
    refine ret_1 rfl rfl ⟨t39, rfl, h⟩

end Go.Proofs.Ytdoeegfcmbcbkaa.Tr

/- Made by program: typed transformers of the functions, each met by its code. -/
namespace Go.Proofs.Ytdoeegfcmbcbkaa.Tr
open Go Go.Eng
set_option linter.unusedVariables false
set_option maxRecDepth 100000
set_option maxHeartbeats 4000000
/-- strings.Compare; slots 0:a, 1:b, 2:a, 3:b -/
def f134 (t0 : ByteArray) (t1 : ByteArray) (R : (Int) → World → Prop) (w : World) : Prop :=
  Cal Try.prog (Value.int .i64) 154 #[(.string t0), (.string t1)] w fun t7 w =>
  R t7 w
theorem c134 {t0 : ByteArray} {t1 : ByteArray} {R : (Int) → World → Prop} {w : World} (h : f134 t0 t1 R w) :
    Cal Try.prog (Value.int .i64) 134 #[(.string t0), (.string t1)] w R := by
  unfold f134 at h
  refine calls_ Try.func134 Try.ntmps134 rfl rfl ?_
  refine seq_ ?_
  refine region_ ?_
  refine st_val (ex_assign (v := (.int .i64 0)) rfl) ?_
  refine wl_nil ?_
  refine then_n ?_
  refine seq_ ?_
  refine region_ ?_
  refine st_val (ex_move (v := (.string t0)) rfl) ?_
  refine st_val (ex_move (v := (.string t1)) rfl) ?_
  refine st_cal en154 rfl h ?_; clear h; intro t7 w h
  refine st_val (ex_assign (v := (.int .i64 t7)) rfl) ?_
  refine wl_nil ?_
  refine then_n ?_
  refine wp_ret ?_
  refine ret_1 rfl rfl ⟨t7, rfl, h⟩

/-- internal/stringslite.HasPrefix; slots 0:s, 1:prefix, 2:s, 3:prefix -/
def f138 (t0 : ByteArray) (t1 : ByteArray) (R : (Bool) → World → Prop) (w : World) : Prop :=
  Jn (σ := Bool) (fun k1 =>
    if (t1.size : Int) ≤ (t0.size : Int) then
      RnP Try.prog Value.string (Instr.sliceAt 9 (.string t0) none (some (.int .i64 (t1.size : Int))) none) fun t14 =>
      k1 (decide (t14 = t1)) w
    else
      k1 false w
  ) fun s1 w =>
    R s1 w
theorem c138 {t0 : ByteArray} {t1 : ByteArray} {R : (Bool) → World → Prop} {w : World} (h : f138 t0 t1 R w) :
    Cal Try.prog Value.bool 138 #[(.string t0), (.string t1)] w R := by
  unfold f138 at h
  refine calls_ Try.func138 Try.ntmps138 rfl rfl ?_
  refine seq_ ?_
  refine region_ ?_
  refine st_val (ex_assign (v := (.bool false)) rfl) ?_
  refine wl_nil ?_
  refine then_n ?_
  refine wp_jn (σ := Bool) (fun s1 l => ∃ j, l = upds j [(4, (.bool s1))]) h ?_ ?_
  · clear h; rintro s1 _ w ⟨j, rfl⟩ h
    refine wp_ret ?_
    refine ret_1 rfl rfl ⟨s1, rfl, h⟩
  · clear h; intro k1 h
    refine region_ ?_
    refine st_val (ex_move (v := (.string t0)) rfl) ?_
    refine st_val (ex_lenS (s := t0) Try.underlying9 rfl) ?_
    refine st_val (ex_move (v := (.string t1)) rfl) ?_
    refine st_val (ex_lenS (s := t1) Try.underlying9 rfl) ?_
    refine st_val (ex_geq (a := (t0.size : Int)) (b := (t1.size : Int)) rfl rfl) ?_
    refine st_val (ex_move (v := (.bool (decide ((t1.size : Int) ≤ (t0.size : Int))))) rfl) ?_
    by_cases hc2 : (t1.size : Int) ≤ (t0.size : Int)
    · rw [if_pos hc2] at h
      refine st_on (t := 10) (c := (decide ((t1.size : Int) ≤ (t0.size : Int)))) rfl rfl (decide_eq_true hc2) ?_
      refine st_val (ex_move (v := (.string t0)) rfl) ?_
      refine st_on (t := 10) (c := (decide ((t1.size : Int) ≤ (t0.size : Int)))) rfl rfl (decide_eq_true hc2) ?_
      refine st_val (ex_move (v := (.string t1)) rfl) ?_
      refine st_on (t := 10) (c := (decide ((t1.size : Int) ≤ (t0.size : Int)))) rfl rfl (decide_eq_true hc2) ?_
      refine st_val (ex_lenS (s := t1) Try.underlying9 rfl) ?_
      refine st_on (t := 10) (c := (decide ((t1.size : Int) ≤ (t0.size : Int)))) rfl rfl (decide_eq_true hc2) ?_
      refine st_rnp (fun r => ex_slice rfl rfl rfl rfl r) h ?_; clear h; intro t14 h
      refine st_on (t := 10) (c := (decide ((t1.size : Int) ≤ (t0.size : Int)))) rfl rfl (decide_eq_true hc2) ?_
      refine st_val (ex_move (v := (.string t1)) rfl) ?_
      refine st_on (t := 10) (c := (decide ((t1.size : Int) ≤ (t0.size : Int)))) rfl rfl (decide_eq_true hc2) ?_
      refine st_val (ex_eqlS (a := t14) (b := t1) rfl rfl) ?_
      refine st_val (ex_pick1 (b := (decide ((t1.size : Int) ≤ (t0.size : Int)))) rfl (decide_eq_true hc2) (v := (.bool (decide (t14 = t1)))) rfl) ?_
      refine st_val (ex_assign (v := (.bool (decide (t14 = t1)))) rfl) ?_
      refine wl_nil ?_
      exact then_n ⟨(decide (t14 = t1)), _, rfl, mk_upds' (ae rfl ae0), h⟩
    · rw [if_neg hc2] at h
      refine st_off (t := 10) (c := (decide ((t1.size : Int) ≤ (t0.size : Int)))) rfl rfl (decide_eq_false hc2) ?_
      refine st_off (t := 10) (c := (decide ((t1.size : Int) ≤ (t0.size : Int)))) rfl rfl (decide_eq_false hc2) ?_
      refine st_off (t := 10) (c := (decide ((t1.size : Int) ≤ (t0.size : Int)))) rfl rfl (decide_eq_false hc2) ?_
      refine st_off (t := 10) (c := (decide ((t1.size : Int) ≤ (t0.size : Int)))) rfl rfl (decide_eq_false hc2) ?_
      refine st_off (t := 10) (c := (decide ((t1.size : Int) ≤ (t0.size : Int)))) rfl rfl (decide_eq_false hc2) ?_
      refine st_off (t := 10) (c := (decide ((t1.size : Int) ≤ (t0.size : Int)))) rfl rfl (decide_eq_false hc2) ?_
      refine st_val (ex_pick0 (b := (decide ((t1.size : Int) ≤ (t0.size : Int)))) rfl (decide_eq_false hc2) (v := (.bool false)) rfl) ?_
      refine st_val (ex_assign (v := (.bool false)) rfl) ?_
      refine wl_nil ?_
      exact then_n ⟨false, _, rfl, mk_upds' (ae rfl ae0), h⟩

/-- internal/stringslite.HasSuffix; slots 0:s, 1:suffix, 2:s, 3:suffix -/
def f139 (t0 : ByteArray) (t1 : ByteArray) (R : (Bool) → World → Prop) (w : World) : Prop :=
  Jn (σ := Bool) (fun k1 =>
    if (t1.size : Int) ≤ (t0.size : Int) then
      RnP Try.prog Value.string (Instr.sliceAt 9 (.string t0) (some (.int .i64 (IntKind.i64.wrap ((t0.size : Int) - (t1.size : Int))))) none none) fun t17 =>
      k1 (decide (t17 = t1)) w
    else
      k1 false w
  ) fun s1 w =>
    R s1 w
theorem c139 {t0 : ByteArray} {t1 : ByteArray} {R : (Bool) → World → Prop} {w : World} (h : f139 t0 t1 R w) :
    Cal Try.prog Value.bool 139 #[(.string t0), (.string t1)] w R := by
  unfold f139 at h
  refine calls_ Try.func139 Try.ntmps139 rfl rfl ?_
  refine seq_ ?_
  refine region_ ?_
  refine st_val (ex_assign (v := (.bool false)) rfl) ?_
  refine wl_nil ?_
  refine then_n ?_
  refine wp_jn (σ := Bool) (fun s1 l => ∃ j, l = upds j [(4, (.bool s1))]) h ?_ ?_
  · clear h; rintro s1 _ w ⟨j, rfl⟩ h
    refine wp_ret ?_
    refine ret_1 rfl rfl ⟨s1, rfl, h⟩
  · clear h; intro k1 h
    refine region_ ?_
    refine st_val (ex_move (v := (.string t0)) rfl) ?_
    refine st_val (ex_lenS (s := t0) Try.underlying9 rfl) ?_
    refine st_val (ex_move (v := (.string t1)) rfl) ?_
    refine st_val (ex_lenS (s := t1) Try.underlying9 rfl) ?_
    refine st_val (ex_geq (a := (t0.size : Int)) (b := (t1.size : Int)) rfl rfl) ?_
    refine st_val (ex_move (v := (.bool (decide ((t1.size : Int) ≤ (t0.size : Int))))) rfl) ?_
    by_cases hc2 : (t1.size : Int) ≤ (t0.size : Int)
    · rw [if_pos hc2] at h
      refine st_on (t := 10) (c := (decide ((t1.size : Int) ≤ (t0.size : Int)))) rfl rfl (decide_eq_true hc2) ?_
      refine st_val (ex_move (v := (.string t0)) rfl) ?_
      refine st_on (t := 10) (c := (decide ((t1.size : Int) ≤ (t0.size : Int)))) rfl rfl (decide_eq_true hc2) ?_
      refine st_val (ex_move (v := (.string t0)) rfl) ?_
      refine st_on (t := 10) (c := (decide ((t1.size : Int) ≤ (t0.size : Int)))) rfl rfl (decide_eq_true hc2) ?_
      refine st_val (ex_lenS (s := t0) Try.underlying9 rfl) ?_
      refine st_on (t := 10) (c := (decide ((t1.size : Int) ≤ (t0.size : Int)))) rfl rfl (decide_eq_true hc2) ?_
      refine st_val (ex_move (v := (.string t1)) rfl) ?_
      refine st_on (t := 10) (c := (decide ((t1.size : Int) ≤ (t0.size : Int)))) rfl rfl (decide_eq_true hc2) ?_
      refine st_val (ex_lenS (s := t1) Try.underlying9 rfl) ?_
      refine st_on (t := 10) (c := (decide ((t1.size : Int) ≤ (t0.size : Int)))) rfl rfl (decide_eq_true hc2) ?_
      refine st_val (ex_sub (a := (t0.size : Int)) (b := (t1.size : Int)) rfl rfl) ?_
      refine st_on (t := 10) (c := (decide ((t1.size : Int) ≤ (t0.size : Int)))) rfl rfl (decide_eq_true hc2) ?_
      refine st_rnp (fun r => ex_slice rfl rfl rfl rfl r) h ?_; clear h; intro t17 h
      refine st_on (t := 10) (c := (decide ((t1.size : Int) ≤ (t0.size : Int)))) rfl rfl (decide_eq_true hc2) ?_
      refine st_val (ex_move (v := (.string t1)) rfl) ?_
      refine st_on (t := 10) (c := (decide ((t1.size : Int) ≤ (t0.size : Int)))) rfl rfl (decide_eq_true hc2) ?_
      refine st_val (ex_eqlS (a := t17) (b := t1) rfl rfl) ?_
      refine st_val (ex_pick1 (b := (decide ((t1.size : Int) ≤ (t0.size : Int)))) rfl (decide_eq_true hc2) (v := (.bool (decide (t17 = t1)))) rfl) ?_
      refine st_val (ex_assign (v := (.bool (decide (t17 = t1)))) rfl) ?_
      refine wl_nil ?_
      exact then_n ⟨(decide (t17 = t1)), _, rfl, mk_upds' (ae rfl ae0), h⟩
    · rw [if_neg hc2] at h
      refine st_off (t := 10) (c := (decide ((t1.size : Int) ≤ (t0.size : Int)))) rfl rfl (decide_eq_false hc2) ?_
      refine st_off (t := 10) (c := (decide ((t1.size : Int) ≤ (t0.size : Int)))) rfl rfl (decide_eq_false hc2) ?_
      refine st_off (t := 10) (c := (decide ((t1.size : Int) ≤ (t0.size : Int)))) rfl rfl (decide_eq_false hc2) ?_
      refine st_off (t := 10) (c := (decide ((t1.size : Int) ≤ (t0.size : Int)))) rfl rfl (decide_eq_false hc2) ?_
      refine st_off (t := 10) (c := (decide ((t1.size : Int) ≤ (t0.size : Int)))) rfl rfl (decide_eq_false hc2) ?_
      refine st_off (t := 10) (c := (decide ((t1.size : Int) ≤ (t0.size : Int)))) rfl rfl (decide_eq_false hc2) ?_
      refine st_off (t := 10) (c := (decide ((t1.size : Int) ≤ (t0.size : Int)))) rfl rfl (decide_eq_false hc2) ?_
      refine st_off (t := 10) (c := (decide ((t1.size : Int) ≤ (t0.size : Int)))) rfl rfl (decide_eq_false hc2) ?_
      refine st_off (t := 10) (c := (decide ((t1.size : Int) ≤ (t0.size : Int)))) rfl rfl (decide_eq_false hc2) ?_
      refine st_val (ex_pick0 (b := (decide ((t1.size : Int) ≤ (t0.size : Int)))) rfl (decide_eq_false hc2) (v := (.bool false)) rfl) ?_
      refine st_val (ex_assign (v := (.bool false)) rfl) ?_
      refine wl_nil ?_
      exact then_n ⟨false, _, rfl, mk_upds' (ae rfl ae0), h⟩

/-- turnpike/paths.begins; slots 0:s, 1:s -/
def f140 (t0 : ByteArray) (R : (ByteArray × Bool) → World → Prop) (w : World) : Prop :=
  Cal Try.prog (fun x : ByteArray × Bool => Value.tuple #[(.string x.1), (.bool x.2)]) 156 #[(.string t0), (.string (⟨#[42]⟩ : ByteArray))] w fun t5 w =>
  R (t5.1, t5.2) w
theorem c140 {t0 : ByteArray} {R : (ByteArray × Bool) → World → Prop} {w : World} (h : f140 t0 R w) :
    Cal Try.prog (fun x : ByteArray × Bool => Value.tuple #[(.string x.1), (.bool x.2)]) 140 #[(.string t0)] w R := by
  unfold f140 at h
  refine calls_ Try.func140 Try.ntmps140 rfl rfl ?_
  refine seq_ ?_
  refine region_ ?_
  refine st_val (ex_assign (v := (.string (⟨#[]⟩ : ByteArray))) rfl) ?_
  refine st_val (ex_assign (v := (.bool false)) rfl) ?_
  refine wl_nil ?_
  refine then_n ?_
  refine seq_ ?_
  refine region_ ?_
  refine st_val (ex_move (v := (.string t0)) rfl) ?_
  refine st_cal en156 rfl h ?_; clear h; intro t5 w h
  refine st_val (ex_extract (u := (.tuple #[(.string t5.1), (.bool t5.2)])) rfl (v := (.string t5.1)) rfl) ?_
  refine st_val (ex_extract (u := (.tuple #[(.string t5.1), (.bool t5.2)])) rfl (v := (.bool t5.2)) rfl) ?_
  refine st_val (ex_assign (v := (.string t5.1)) rfl) ?_
  refine st_val (ex_assign (v := (.bool t5.2)) rfl) ?_
  refine wl_nil ?_
  refine then_n ?_
  refine wp_ret ?_
  refine ret_2 rfl rfl rfl ⟨(t5.1, t5.2), rfl, h⟩

/-- turnpike/paths.PathPattern; slots 0:s, 1:s, 3:p, 4:ok -/
def f141 (t0 : ByteArray) (R : (Bool) → World → Prop) (w : World) : Prop :=
  Cal Try.prog (fun x : ByteArray × Bool => Value.tuple #[(.string x.1), (.bool x.2)]) 140 #[(.string t0)] w fun t7 w =>
  Jn (σ := Bool) (fun k1 =>
    if t7.2 = true then
      if t7.1 = (⟨#[]⟩ : ByteArray) then
        k1 true w
      else
        Cal Try.prog Value.bool 157 #[(.string t7.1)] w fun t17 w =>
        k1 t17 w
    else
      Cal Try.prog Value.bool 157 #[(.string t7.1)] w fun t17_1 w =>
      k1 t17_1 w
  ) fun s1 w =>
    R s1 w
theorem c141 {t0 : ByteArray} {R : (Bool) → World → Prop} {w : World} (h : f141 t0 R w) :
    Cal Try.prog Value.bool 141 #[(.string t0)] w R := by
  unfold f141 at h
  refine calls_ Try.func141 Try.ntmps141 rfl rfl ?_
  refine seq_ ?_
  refine region_ ?_
  refine st_val (ex_assign (v := (.bool false)) rfl) ?_
  refine wl_nil ?_
  refine then_n ?_
  refine seq_ ?_
  refine region_ ?_
  refine st_val (ex_move (v := (.string t0)) rfl) ?_
  refine st_cal en140 rfl h ?_; clear h; intro t7 w h
  refine st_val (ex_move (v := (.tuple #[(.string t7.1), (.bool t7.2)])) rfl) ?_
  refine st_val (ex_extract (u := (.tuple #[(.string t7.1), (.bool t7.2)])) rfl (v := (.string t7.1)) rfl) ?_
  refine st_val (ex_extract (u := (.tuple #[(.string t7.1), (.bool t7.2)])) rfl (v := (.bool t7.2)) rfl) ?_
  refine st_val (ex_assign (v := (.string t7.1)) rfl) ?_
  refine st_val (ex_assign (v := (.bool t7.2)) rfl) ?_
  refine wl_nil ?_
  refine then_n ?_
  refine wp_jn (σ := Bool) (fun s1 l => ∃ j, l = upds j [(2, (.bool s1))]) h ?_ ?_
  · clear h; rintro s1 _ w ⟨j, rfl⟩ h
    refine wp_ret ?_
    refine ret_1 rfl rfl ⟨s1, rfl, h⟩
  · clear h; intro k1 h
    refine region_ ?_
    refine st_val (ex_move (v := (.bool t7.2)) rfl) ?_
    refine st_val (ex_move (v := (.bool t7.2)) rfl) ?_
    by_cases hc2 : t7.2 = true
    · rw [if_pos hc2] at h
      refine st_on (t := 11) (c := t7.2) rfl rfl hc2 ?_
      refine st_val (ex_move (v := (.string t7.1)) rfl) ?_
      refine st_on (t := 11) (c := t7.2) rfl rfl hc2 ?_
      refine st_val (ex_eqlS (a := t7.1) (b := (⟨#[]⟩ : ByteArray)) rfl rfl) ?_
      refine st_val (ex_pick1 (b := t7.2) rfl hc2 (v := (.bool (decide (t7.1 = (⟨#[]⟩ : ByteArray))))) rfl) ?_
      refine st_val (ex_move (v := (.bool (decide (t7.1 = (⟨#[]⟩ : ByteArray))))) rfl) ?_
      by_cases hc3 : t7.1 = (⟨#[]⟩ : ByteArray)
      · rw [if_pos hc3] at h
        refine st_off (t := 15) (c := (decide (t7.1 = (⟨#[]⟩ : ByteArray)))) rfl rfl (decide_eq_true hc3) ?_
        refine st_off (t := 15) (c := (decide (t7.1 = (⟨#[]⟩ : ByteArray)))) rfl rfl (decide_eq_true hc3) ?_
        refine st_val (ex_pick1 (b := (decide (t7.1 = (⟨#[]⟩ : ByteArray)))) rfl (decide_eq_true hc3) (v := (.bool true)) rfl) ?_
        refine st_val (ex_assign (v := (.bool true)) rfl) ?_
        refine wl_nil ?_
        exact then_n ⟨true, _, rfl, mk_upds' (ae rfl ae0), h⟩
      · rw [if_neg hc3] at h
        refine st_on (t := 15) (c := (decide (t7.1 = (⟨#[]⟩ : ByteArray)))) rfl rfl (decide_eq_false hc3) ?_
        refine st_val (ex_move (v := (.string t7.1)) rfl) ?_
        refine st_on (t := 15) (c := (decide (t7.1 = (⟨#[]⟩ : ByteArray)))) rfl rfl (decide_eq_false hc3) ?_
        refine st_cal en157 rfl h ?_; clear h; intro t17 w h
        refine st_val (ex_pick0 (b := (decide (t7.1 = (⟨#[]⟩ : ByteArray)))) rfl (decide_eq_false hc3) (v := (.bool t17)) rfl) ?_
        refine st_val (ex_assign (v := (.bool t17)) rfl) ?_
        refine wl_nil ?_
        exact then_n ⟨t17, _, rfl, mk_upds' (ae rfl ae0), h⟩
    · rw [if_neg hc2] at h
      refine st_off (t := 11) (c := t7.2) rfl rfl (Bool.eq_false_iff.2 hc2) ?_
      refine st_off (t := 11) (c := t7.2) rfl rfl (Bool.eq_false_iff.2 hc2) ?_
      refine st_val (ex_pick0 (b := t7.2) rfl (Bool.eq_false_iff.2 hc2) (v := (.bool false)) rfl) ?_
      refine st_val (ex_move (v := (.bool false)) rfl) ?_
      refine st_on (t := 15) (c := false) rfl rfl (rfl : false = false) ?_
      refine st_val (ex_move (v := (.string t7.1)) rfl) ?_
      refine st_on (t := 15) (c := false) rfl rfl (rfl : false = false) ?_
      refine st_cal en157 rfl h ?_; clear h; intro t17_1 w h
      refine st_val (ex_pick0 (b := false) rfl (rfl : false = false) (v := (.bool t17_1)) rfl) ?_
      refine st_val (ex_assign (v := (.bool t17_1)) rfl) ?_
      refine wl_nil ?_
      exact then_n ⟨t17_1, _, rfl, mk_upds' (ae rfl ae0), h⟩

/-- turnpike/turnpikeref13.IsPath; slots 0:s, 1:s, 3:i -/
def f142 (t0 : ByteArray) (R : (Bool) → World → Prop) (w : World) : Prop :=
  Lp (σ := Int) (fun s1 w n1 =>
    if s1 < (t0.size : Int) then
      Jn (σ := Bool) (fun k3 =>
        RnP Try.prog (Value.int .u8) (Instr.index 9 (.string t0) (.int .i64 s1)) fun t12 =>
        if t12 < 33 then
          k3 true w
        else
          RnP Try.prog (Value.int .u8) (Instr.index 9 (.string t0) (.int .i64 s1)) fun t17 =>
          k3 (decide (126 < t17)) w
      ) fun s3 w =>
        if s3 = true then
          R false w
        else
          n1 (IntKind.i64.wrap (s1 + 1)) w
    else
      Jn (σ := Bool) (fun k6 =>
        if 1 ≤ (t0.size : Int) then
          if (t0.size : Int) ≤ 256 then
            RnP Try.prog (Value.int .u8) (Instr.index 9 (.string t0) (.int .i64 0)) fun t30 =>
            k6 (decide (t30 = 47)) w
          else
            k6 false w
        else
          k6 false w
      ) fun s6 w =>
        R s6 w
  ) 0 w
theorem c142 {t0 : ByteArray} {R : (Bool) → World → Prop} {w : World} (h : f142 t0 R w) :
    Cal Try.prog Value.bool 142 #[(.string t0)] w R := by
  unfold f142 at h
  refine calls_ Try.func142 Try.ntmps142 rfl rfl ?_
  refine seq_ ?_
  refine region_ ?_
  refine st_val (ex_assign (v := (.bool false)) rfl) ?_
  refine wl_nil ?_
  refine then_n ?_
  refine seq_ ?_
  refine seq_ ?_
  refine region_ ?_
  refine st_val (ex_assign (v := (.int .i64 0)) rfl) ?_
  refine wl_nil ?_
  refine then_n ?_
  refine wp_block ?_
  refine wp_lp (σ := Int) (fun s1 a => ∃ j, a = F 33 (upds j [(0, (.string t0)), (3, (.int .i64 s1))])) h (mk_upds (ae rfl (ae rfl ae0))) ?_
  clear h; rintro s1 _ w n1 ⟨j, rfl⟩ h
  refine seq_ ?_
  refine seq_ ?_
  refine region_ ?_
  refine st_val (ex_move (v := (.int .i64 s1)) rfl) ?_
  refine st_val (ex_move (v := (.string t0)) rfl) ?_
  refine st_val (ex_lenS (s := t0) Try.underlying9 rfl) ?_
  refine st_val (ex_lss (a := s1) (b := (t0.size : Int)) rfl rfl) ?_
  refine wl_nil ?_
  refine then_n ?_
  by_cases hc2 : s1 < (t0.size : Int)
  · rw [if_pos hc2] at h; refine cond_1 (b := (decide (s1 < (t0.size : Int)))) rfl (decide_eq_true hc2) ?_
    refine wp_skip ?_
    refine then_n ?_
    refine seq_ ?_
    refine wp_block ?_
    refine wp_jn (σ := Bool) (fun s3 l => ∃ j, l = upds j [(0, (.string t0)), (3, (.int .i64 s1)), (19, (.bool s3))]) h ?_ ?_
    · clear h; rintro s3 _ w ⟨j, rfl⟩ h
      by_cases hc5 : s3 = true
      · rw [if_pos hc5] at h; refine cond_1 (b := s3) rfl hc5 ?_
        refine seq_ ?_
        refine region_ ?_
        refine st_val (ex_assign (v := (.bool false)) rfl) ?_
        refine wl_nil ?_
        refine then_n ?_
        refine wp_ret ?_
        refine inb_r ?_
        refine then_r ?_
        refine then_r ?_
        refine inb_r ?_
        refine then_r ?_
        refine ret_1 rfl rfl ⟨false, rfl, h⟩
      · rw [if_neg hc5] at h; refine cond_0 (b := s3) rfl (Bool.eq_false_iff.2 hc5) ?_
        refine wp_skip ?_
        refine inb_n ?_
        refine then_n ?_
        refine region_ ?_
        refine st_val (ex_move (v := (.int .i64 s1)) rfl) ?_
        refine st_val (ex_add (a := s1) (b := 1) rfl rfl) ?_
        refine st_val (ex_assign (v := (.int .i64 (IntKind.i64.wrap (s1 + 1)))) rfl) ?_
        refine wl_nil ?_
        exact then_n ⟨(IntKind.i64.wrap (s1 + 1)), mk_upds (ae rfl (ae rfl ae0)), h⟩
    · clear h; intro k3 h
      refine region_ ?_
      refine st_val (ex_move (v := (.string t0)) rfl) ?_
      refine st_val (ex_move (v := (.int .i64 s1)) rfl) ?_
      refine st_rnp (fun r => ex_index rfl rfl r) h ?_; clear h; intro t12 h
      refine st_val (ex_lss (a := t12) (b := 33) rfl rfl) ?_
      refine st_val (ex_move (v := (.bool (decide (t12 < 33)))) rfl) ?_
      by_cases hc4 : t12 < 33
      · rw [if_pos hc4] at h
        refine st_off (t := 14) (c := (decide (t12 < 33))) rfl rfl (decide_eq_true hc4) ?_
        refine st_off (t := 14) (c := (decide (t12 < 33))) rfl rfl (decide_eq_true hc4) ?_
        refine st_off (t := 14) (c := (decide (t12 < 33))) rfl rfl (decide_eq_true hc4) ?_
        refine st_off (t := 14) (c := (decide (t12 < 33))) rfl rfl (decide_eq_true hc4) ?_
        refine st_val (ex_pick1 (b := (decide (t12 < 33))) rfl (decide_eq_true hc4) (v := (.bool true)) rfl) ?_
        refine wl_nil ?_
        exact then_n ⟨true, _, rfl, mk_upds' (ae rfl (ae rfl (ae rfl ae0))), h⟩
      · rw [if_neg hc4] at h
        refine st_on (t := 14) (c := (decide (t12 < 33))) rfl rfl (decide_eq_false hc4) ?_
        refine st_val (ex_move (v := (.string t0)) rfl) ?_
        refine st_on (t := 14) (c := (decide (t12 < 33))) rfl rfl (decide_eq_false hc4) ?_
        refine st_val (ex_move (v := (.int .i64 s1)) rfl) ?_
        refine st_on (t := 14) (c := (decide (t12 < 33))) rfl rfl (decide_eq_false hc4) ?_
        refine st_rnp (fun r => ex_index rfl rfl r) h ?_; clear h; intro t17 h
        refine st_on (t := 14) (c := (decide (t12 < 33))) rfl rfl (decide_eq_false hc4) ?_
        refine st_val (ex_gtr (a := t17) (b := 126) rfl rfl) ?_
        refine st_val (ex_pick0 (b := (decide (t12 < 33))) rfl (decide_eq_false hc4) (v := (.bool (decide (126 < t17)))) rfl) ?_
        refine wl_nil ?_
        exact then_n ⟨(decide (126 < t17)), _, rfl, mk_upds' (ae rfl (ae rfl (ae rfl ae0))), h⟩
  · rw [if_neg hc2] at h; refine cond_0 (b := (decide (s1 < (t0.size : Int)))) rfl (decide_eq_false hc2) ?_
    refine wp_exit ?_
    refine then_e ?_
    refine then_e ?_
    refine inb_e ?_
    refine then_n ?_
    refine wp_jn (σ := Bool) (fun s6 l => ∃ j, l = upds j [(2, (.bool s6))]) h ?_ ?_
    · clear h; rintro s6 _ w ⟨j, rfl⟩ h
      refine wp_ret ?_
      refine ret_1 rfl rfl ⟨s6, rfl, h⟩
    · clear h; intro k6 h
      refine region_ ?_
      refine st_val (ex_move (v := (.string t0)) rfl) ?_
      refine st_val (ex_lenS (s := t0) Try.underlying9 rfl) ?_
      refine st_val (ex_geq (a := (t0.size : Int)) (b := 1) rfl rfl) ?_
      refine st_val (ex_move (v := (.bool (decide (1 ≤ (t0.size : Int))))) rfl) ?_
      by_cases hc7 : 1 ≤ (t0.size : Int)
      · rw [if_pos hc7] at h
        refine st_on (t := 23) (c := (decide (1 ≤ (t0.size : Int)))) rfl rfl (decide_eq_true hc7) ?_
        refine st_val (ex_move (v := (.string t0)) rfl) ?_
        refine st_on (t := 23) (c := (decide (1 ≤ (t0.size : Int)))) rfl rfl (decide_eq_true hc7) ?_
        refine st_val (ex_lenS (s := t0) Try.underlying9 rfl) ?_
        refine st_on (t := 23) (c := (decide (1 ≤ (t0.size : Int)))) rfl rfl (decide_eq_true hc7) ?_
        refine st_val (ex_leq (a := (t0.size : Int)) (b := 256) rfl rfl) ?_
        refine st_val (ex_pick1 (b := (decide (1 ≤ (t0.size : Int)))) rfl (decide_eq_true hc7) (v := (.bool (decide ((t0.size : Int) ≤ 256)))) rfl) ?_
        refine st_val (ex_move (v := (.bool (decide ((t0.size : Int) ≤ 256)))) rfl) ?_
        by_cases hc8 : (t0.size : Int) ≤ 256
        · rw [if_pos hc8] at h
          refine st_on (t := 28) (c := (decide ((t0.size : Int) ≤ 256))) rfl rfl (decide_eq_true hc8) ?_
          refine st_val (ex_move (v := (.string t0)) rfl) ?_
          refine st_on (t := 28) (c := (decide ((t0.size : Int) ≤ 256))) rfl rfl (decide_eq_true hc8) ?_
          refine st_rnp (fun r => ex_index rfl rfl r) h ?_; clear h; intro t30 h
          refine st_on (t := 28) (c := (decide ((t0.size : Int) ≤ 256))) rfl rfl (decide_eq_true hc8) ?_
          refine st_val (ex_eql (a := t30) (b := 47) rfl rfl) ?_
          refine st_val (ex_pick1 (b := (decide ((t0.size : Int) ≤ 256))) rfl (decide_eq_true hc8) (v := (.bool (decide (t30 = 47)))) rfl) ?_
          refine st_val (ex_assign (v := (.bool (decide (t30 = 47)))) rfl) ?_
          refine wl_nil ?_
          exact then_n ⟨(decide (t30 = 47)), _, rfl, mk_upds' (ae rfl ae0), h⟩
        · rw [if_neg hc8] at h
          refine st_off (t := 28) (c := (decide ((t0.size : Int) ≤ 256))) rfl rfl (decide_eq_false hc8) ?_
          refine st_off (t := 28) (c := (decide ((t0.size : Int) ≤ 256))) rfl rfl (decide_eq_false hc8) ?_
          refine st_off (t := 28) (c := (decide ((t0.size : Int) ≤ 256))) rfl rfl (decide_eq_false hc8) ?_
          refine st_val (ex_pick0 (b := (decide ((t0.size : Int) ≤ 256))) rfl (decide_eq_false hc8) (v := (.bool false)) rfl) ?_
          refine st_val (ex_assign (v := (.bool false)) rfl) ?_
          refine wl_nil ?_
          exact then_n ⟨false, _, rfl, mk_upds' (ae rfl ae0), h⟩
      · rw [if_neg hc7] at h
        refine st_off (t := 23) (c := (decide (1 ≤ (t0.size : Int)))) rfl rfl (decide_eq_false hc7) ?_
        refine st_off (t := 23) (c := (decide (1 ≤ (t0.size : Int)))) rfl rfl (decide_eq_false hc7) ?_
        refine st_off (t := 23) (c := (decide (1 ≤ (t0.size : Int)))) rfl rfl (decide_eq_false hc7) ?_
        refine st_val (ex_pick0 (b := (decide (1 ≤ (t0.size : Int)))) rfl (decide_eq_false hc7) (v := (.bool false)) rfl) ?_
        refine st_val (ex_move (v := (.bool false)) rfl) ?_
        refine st_off (t := 28) (c := false) rfl rfl (rfl : false = !true) ?_
        refine st_off (t := 28) (c := false) rfl rfl (rfl : false = !true) ?_
        refine st_off (t := 28) (c := false) rfl rfl (rfl : false = !true) ?_
        refine st_val (ex_pick0 (b := false) rfl (rfl : false = false) (v := (.bool false)) rfl) ?_
        refine st_val (ex_assign (v := (.bool false)) rfl) ?_
        refine wl_nil ?_
        exact then_n ⟨false, _, rfl, mk_upds' (ae rfl ae0), h⟩

/-- turnpike/turnpikeref13.ends; slots 0:s, 1:t, 2:s, 3:t -/
def f143 (t0 : ByteArray) (t1 : ByteArray) (R : (Bool) → World → Prop) (w : World) : Prop :=
  Jn (σ := Bool) (fun k1 =>
    if (t1.size : Int) ≤ (t0.size : Int) then
      RnP Try.prog Value.string (Instr.sliceAt 9 (.string t0) (some (.int .i64 (IntKind.i64.wrap ((t0.size : Int) - (t1.size : Int))))) none none) fun t17 =>
      k1 (decide (t17 = t1)) w
    else
      k1 false w
  ) fun s1 w =>
    R s1 w
theorem c143 {t0 : ByteArray} {t1 : ByteArray} {R : (Bool) → World → Prop} {w : World} (h : f143 t0 t1 R w) :
    Cal Try.prog Value.bool 143 #[(.string t0), (.string t1)] w R := by
  unfold f143 at h
  refine calls_ Try.func143 Try.ntmps143 rfl rfl ?_
  refine seq_ ?_
  refine region_ ?_
  refine st_val (ex_assign (v := (.bool false)) rfl) ?_
  refine wl_nil ?_
  refine then_n ?_
  refine wp_jn (σ := Bool) (fun s1 l => ∃ j, l = upds j [(4, (.bool s1))]) h ?_ ?_
  · clear h; rintro s1 _ w ⟨j, rfl⟩ h
    refine wp_ret ?_
    refine ret_1 rfl rfl ⟨s1, rfl, h⟩
  · clear h; intro k1 h
    refine region_ ?_
    refine st_val (ex_move (v := (.string t0)) rfl) ?_
    refine st_val (ex_lenS (s := t0) Try.underlying9 rfl) ?_
    refine st_val (ex_move (v := (.string t1)) rfl) ?_
    refine st_val (ex_lenS (s := t1) Try.underlying9 rfl) ?_
    refine st_val (ex_geq (a := (t0.size : Int)) (b := (t1.size : Int)) rfl rfl) ?_
    refine st_val (ex_move (v := (.bool (decide ((t1.size : Int) ≤ (t0.size : Int))))) rfl) ?_
    by_cases hc2 : (t1.size : Int) ≤ (t0.size : Int)
    · rw [if_pos hc2] at h
      refine st_on (t := 10) (c := (decide ((t1.size : Int) ≤ (t0.size : Int)))) rfl rfl (decide_eq_true hc2) ?_
      refine st_val (ex_move (v := (.string t0)) rfl) ?_
      refine st_on (t := 10) (c := (decide ((t1.size : Int) ≤ (t0.size : Int)))) rfl rfl (decide_eq_true hc2) ?_
      refine st_val (ex_move (v := (.string t0)) rfl) ?_
      refine st_on (t := 10) (c := (decide ((t1.size : Int) ≤ (t0.size : Int)))) rfl rfl (decide_eq_true hc2) ?_
      refine st_val (ex_lenS (s := t0) Try.underlying9 rfl) ?_
      refine st_on (t := 10) (c := (decide ((t1.size : Int) ≤ (t0.size : Int)))) rfl rfl (decide_eq_true hc2) ?_
      refine st_val (ex_move (v := (.string t1)) rfl) ?_
      refine st_on (t := 10) (c := (decide ((t1.size : Int) ≤ (t0.size : Int)))) rfl rfl (decide_eq_true hc2) ?_
      refine st_val (ex_lenS (s := t1) Try.underlying9 rfl) ?_
      refine st_on (t := 10) (c := (decide ((t1.size : Int) ≤ (t0.size : Int)))) rfl rfl (decide_eq_true hc2) ?_
      refine st_val (ex_sub (a := (t0.size : Int)) (b := (t1.size : Int)) rfl rfl) ?_
      refine st_on (t := 10) (c := (decide ((t1.size : Int) ≤ (t0.size : Int)))) rfl rfl (decide_eq_true hc2) ?_
      refine st_rnp (fun r => ex_slice rfl rfl rfl rfl r) h ?_; clear h; intro t17 h
      refine st_on (t := 10) (c := (decide ((t1.size : Int) ≤ (t0.size : Int)))) rfl rfl (decide_eq_true hc2) ?_
      refine st_val (ex_move (v := (.string t1)) rfl) ?_
      refine st_on (t := 10) (c := (decide ((t1.size : Int) ≤ (t0.size : Int)))) rfl rfl (decide_eq_true hc2) ?_
      refine st_val (ex_eqlS (a := t17) (b := t1) rfl rfl) ?_
      refine st_val (ex_pick1 (b := (decide ((t1.size : Int) ≤ (t0.size : Int)))) rfl (decide_eq_true hc2) (v := (.bool (decide (t17 = t1)))) rfl) ?_
      refine st_val (ex_assign (v := (.bool (decide (t17 = t1)))) rfl) ?_
      refine wl_nil ?_
      exact then_n ⟨(decide (t17 = t1)), _, rfl, mk_upds' (ae rfl ae0), h⟩
    · rw [if_neg hc2] at h
      refine st_off (t := 10) (c := (decide ((t1.size : Int) ≤ (t0.size : Int)))) rfl rfl (decide_eq_false hc2) ?_
      refine st_off (t := 10) (c := (decide ((t1.size : Int) ≤ (t0.size : Int)))) rfl rfl (decide_eq_false hc2) ?_
      refine st_off (t := 10) (c := (decide ((t1.size : Int) ≤ (t0.size : Int)))) rfl rfl (decide_eq_false hc2) ?_
      refine st_off (t := 10) (c := (decide ((t1.size : Int) ≤ (t0.size : Int)))) rfl rfl (decide_eq_false hc2) ?_
      refine st_off (t := 10) (c := (decide ((t1.size : Int) ≤ (t0.size : Int)))) rfl rfl (decide_eq_false hc2) ?_
      refine st_off (t := 10) (c := (decide ((t1.size : Int) ≤ (t0.size : Int)))) rfl rfl (decide_eq_false hc2) ?_
      refine st_off (t := 10) (c := (decide ((t1.size : Int) ≤ (t0.size : Int)))) rfl rfl (decide_eq_false hc2) ?_
      refine st_off (t := 10) (c := (decide ((t1.size : Int) ≤ (t0.size : Int)))) rfl rfl (decide_eq_false hc2) ?_
      refine st_off (t := 10) (c := (decide ((t1.size : Int) ≤ (t0.size : Int)))) rfl rfl (decide_eq_false hc2) ?_
      refine st_val (ex_pick0 (b := (decide ((t1.size : Int) ≤ (t0.size : Int)))) rfl (decide_eq_false hc2) (v := (.bool false)) rfl) ?_
      refine st_val (ex_assign (v := (.bool false)) rfl) ?_
      refine wl_nil ?_
      exact then_n ⟨false, _, rfl, mk_upds' (ae rfl ae0), h⟩


end Go.Proofs.Ytdoeegfcmbcbkaa.Tr

/- Made by program: typed transformers of the functions, each met by its code. -/
namespace Go.Proofs.Ytdoeegfcmbcbkaa.Tr
open Go Go.Eng
set_option linter.unusedVariables false
set_option maxRecDepth 100000
set_option maxHeartbeats 4000000
/-- internal/bytealg.CompareString; slots 0:a, 1:b, 2:a, 3:b -/
def f154 (t0 : ByteArray) (t1 : ByteArray) (R : (Int) → World → Prop) (w : World) : Prop :=
  Rx Try.prog (Value.int .i64) 163 #[(.string t0), (.string t1)] w fun t7 w =>
  R t7 w
theorem c154 {t0 : ByteArray} {t1 : ByteArray} {R : (Int) → World → Prop} {w : World} (h : f154 t0 t1 R w) :
    Cal Try.prog (Value.int .i64) 154 #[(.string t0), (.string t1)] w R := by
  unfold f154 at h
  refine calls_ Try.func154 Try.ntmps154 rfl rfl ?_
  refine seq_ ?_
  refine region_ ?_
  refine st_val (ex_assign (v := (.int .i64 0)) rfl) ?_
  refine wl_nil ?_
  refine then_n ?_
  refine seq_ ?_
  refine region_ ?_
  refine st_val (ex_move (v := (.string t0)) rfl) ?_
  refine st_val (ex_move (v := (.string t1)) rfl) ?_
  refine st_rx rfl h ?_; clear h; intro t7 w h
  refine st_val (ex_assign (v := (.int .i64 t7)) rfl) ?_
  refine wl_nil ?_
  refine then_n ?_
  refine wp_ret ?_
  refine ret_1 rfl rfl ⟨t7, rfl, h⟩

/-- strings.CutSuffix; slots 0:s, 1:suffix, 2:s, 3:suffix, 4:before, 5:found -/
def f156 (t0 : ByteArray) (t1 : ByteArray) (R : (ByteArray × Bool) → World → Prop) (w : World) : Prop :=
  Cal Try.prog (fun x : ByteArray × Bool => Value.tuple #[(.string x.1), (.bool x.2)]) 165 #[(.string t0), (.string t1)] w fun t8 w =>
  R (t8.1, t8.2) w
theorem c156 {t0 : ByteArray} {t1 : ByteArray} {R : (ByteArray × Bool) → World → Prop} {w : World} (h : f156 t0 t1 R w) :
    Cal Try.prog (fun x : ByteArray × Bool => Value.tuple #[(.string x.1), (.bool x.2)]) 156 #[(.string t0), (.string t1)] w R := by
  unfold f156 at h
  refine calls_ Try.func156 Try.ntmps156 rfl rfl ?_
  refine seq_ ?_
  refine region_ ?_
  refine st_val (ex_assign (v := (.string (⟨#[]⟩ : ByteArray))) rfl) ?_
  refine st_val (ex_assign (v := (.bool false)) rfl) ?_
  refine wl_nil ?_
  refine then_n ?_
  refine seq_ ?_
  refine region_ ?_
  refine st_val (ex_move (v := (.string t0)) rfl) ?_
  refine st_val (ex_move (v := (.string t1)) rfl) ?_
  refine st_cal en165 rfl h ?_; clear h; intro t8 w h
  refine st_val (ex_extract (u := (.tuple #[(.string t8.1), (.bool t8.2)])) rfl (v := (.string t8.1)) rfl) ?_
  refine st_val (ex_extract (u := (.tuple #[(.string t8.1), (.bool t8.2)])) rfl (v := (.bool t8.2)) rfl) ?_
  refine st_val (ex_assign (v := (.string t8.1)) rfl) ?_
  refine st_val (ex_assign (v := (.bool t8.2)) rfl) ?_
  refine wl_nil ?_
  refine then_n ?_
  refine wp_ret ?_
  refine ret_2 rfl rfl rfl ⟨(t8.1, t8.2), rfl, h⟩

/-- turnpike/paths.path; slots 0:s, 1:s, 3:i -/
def f157 (t0 : ByteArray) (R : (Bool) → World → Prop) (w : World) : Prop :=
  Jn (σ := Bool) (fun k1 =>
    if (t0.size : Int) < 1 then
      k1 true w
    else
      if 256 < (t0.size : Int) then
        k1 true w
      else
        RnP Try.prog (Value.int .u8) (Instr.index 9 (.string t0) (.int .i64 0)) fun t14 =>
        k1 (decide (t14 ≠ 47)) w
  ) fun s1 w =>
    if s1 = true then
      R false w
    else
      Lp (σ := Int) (fun s5 w n5 =>
        if s5 < (t0.size : Int) then
          Jn (σ := Bool) (fun k7 =>
            RnP Try.prog (Value.int .u8) (Instr.index 9 (.string t0) (.int .i64 s5)) fun t24 =>
            if t24 < 33 then
              k7 true w
            else
              RnP Try.prog (Value.int .u8) (Instr.index 9 (.string t0) (.int .i64 s5)) fun t29 =>
              k7 (decide (126 < t29)) w
          ) fun s7 w =>
            if s7 = true then
              R false w
            else
              n5 (IntKind.i64.wrap (s5 + 1)) w
        else
          R true w
      ) 0 w
theorem c157 {t0 : ByteArray} {R : (Bool) → World → Prop} {w : World} (h : f157 t0 R w) :
    Cal Try.prog Value.bool 157 #[(.string t0)] w R := by
  unfold f157 at h
  refine calls_ Try.func157 Try.ntmps157 rfl rfl ?_
  refine seq_ ?_
  refine region_ ?_
  refine st_val (ex_assign (v := (.bool false)) rfl) ?_
  refine wl_nil ?_
  refine then_n ?_
  refine seq_ ?_
  refine wp_jn (σ := Bool) (fun s1 l => ∃ j, l = upds j [(0, (.string t0)), (16, (.bool s1))]) h ?_ ?_
  · clear h; rintro s1 _ w ⟨j, rfl⟩ h
    by_cases hc4 : s1 = true
    · rw [if_pos hc4] at h; refine cond_1 (b := s1) rfl hc4 ?_
      refine seq_ ?_
      refine region_ ?_
      refine st_val (ex_assign (v := (.bool false)) rfl) ?_
      refine wl_nil ?_
      refine then_n ?_
      refine wp_ret ?_
      refine then_r ?_
      refine ret_1 rfl rfl ⟨false, rfl, h⟩
    · rw [if_neg hc4] at h; refine cond_0 (b := s1) rfl (Bool.eq_false_iff.2 hc4) ?_
      refine wp_skip ?_
      refine then_n ?_
      refine seq_ ?_
      refine seq_ ?_
      refine region_ ?_
      refine st_val (ex_move (v := (.string t0)) rfl) ?_
      refine st_val (ex_lenS (s := t0) Try.underlying9 rfl) ?_
      refine st_val (ex_move (v := (.int .i64 0)) rfl) ?_
      refine wl_nil ?_
      refine then_n ?_
      refine wp_block ?_
      refine wp_lp (σ := Int) (fun s5 a => ∃ j, a = F 33 (upds j [(0, (.string t0)), (18, (.int .i64 (t0.size : Int))), (19, (.int .i64 s5))])) h (mk_upds (ae rfl (ae rfl (ae rfl ae0)))) ?_
      clear h; rintro s5 _ w n5 ⟨j, rfl⟩ h
      refine seq_ ?_
      refine region_ ?_
      refine st_val (ex_lss (a := s5) (b := (t0.size : Int)) rfl rfl) ?_
      refine wl_nil ?_
      refine then_n ?_
      refine seq_ ?_
      by_cases hc6 : s5 < (t0.size : Int)
      · rw [if_pos hc6] at h; refine cond_1 (b := (decide (s5 < (t0.size : Int)))) rfl (decide_eq_true hc6) ?_
        refine wp_skip ?_
        refine then_n ?_
        refine seq_ ?_
        refine wp_block ?_
        refine seq_ ?_
        refine region_ ?_
        refine st_val (ex_move (v := (.int .i64 s5)) rfl) ?_
        refine st_val (ex_assign (v := (.int .i64 s5)) rfl) ?_
        refine wl_nil ?_
        refine then_n ?_
        refine wp_jn (σ := Bool) (fun s7 l => ∃ j, l = upds j [(0, (.string t0)), (18, (.int .i64 (t0.size : Int))), (19, (.int .i64 s5)), (31, (.bool s7))]) h ?_ ?_
        · clear h; rintro s7 _ w ⟨j, rfl⟩ h
          by_cases hc9 : s7 = true
          · rw [if_pos hc9] at h; refine cond_1 (b := s7) rfl hc9 ?_
            refine seq_ ?_
            refine region_ ?_
            refine st_val (ex_assign (v := (.bool false)) rfl) ?_
            refine wl_nil ?_
            refine then_n ?_
            refine wp_ret ?_
            refine inb_r ?_
            refine then_r ?_
            refine then_r ?_
            refine inb_r ?_
            refine then_r ?_
            refine ret_1 rfl rfl ⟨false, rfl, h⟩
          · rw [if_neg hc9] at h; refine cond_0 (b := s7) rfl (Bool.eq_false_iff.2 hc9) ?_
            refine wp_skip ?_
            refine inb_n ?_
            refine then_n ?_
            refine region_ ?_
            refine st_val (ex_add (a := s5) (b := 1) rfl rfl) ?_
            refine st_val (ex_move (v := (.int .i64 (IntKind.i64.wrap (s5 + 1)))) rfl) ?_
            refine wl_nil ?_
            exact then_n ⟨(IntKind.i64.wrap (s5 + 1)), mk_upds (ae rfl (ae rfl (ae rfl ae0))), h⟩
        · clear h; intro k7 h
          refine region_ ?_
          refine st_val (ex_move (v := (.string t0)) rfl) ?_
          refine st_val (ex_move (v := (.int .i64 s5)) rfl) ?_
          refine st_rnp (fun r => ex_index rfl rfl r) h ?_; clear h; intro t24 h
          refine st_val (ex_lss (a := t24) (b := 33) rfl rfl) ?_
          refine st_val (ex_move (v := (.bool (decide (t24 < 33)))) rfl) ?_
          by_cases hc8 : t24 < 33
          · rw [if_pos hc8] at h
            refine st_off (t := 26) (c := (decide (t24 < 33))) rfl rfl (decide_eq_true hc8) ?_
            refine st_off (t := 26) (c := (decide (t24 < 33))) rfl rfl (decide_eq_true hc8) ?_
            refine st_off (t := 26) (c := (decide (t24 < 33))) rfl rfl (decide_eq_true hc8) ?_
            refine st_off (t := 26) (c := (decide (t24 < 33))) rfl rfl (decide_eq_true hc8) ?_
            refine st_val (ex_pick1 (b := (decide (t24 < 33))) rfl (decide_eq_true hc8) (v := (.bool true)) rfl) ?_
            refine wl_nil ?_
            exact then_n ⟨true, _, rfl, mk_upds' (ae rfl (ae rfl (ae rfl (ae rfl ae0)))), h⟩
          · rw [if_neg hc8] at h
            refine st_on (t := 26) (c := (decide (t24 < 33))) rfl rfl (decide_eq_false hc8) ?_
            refine st_val (ex_move (v := (.string t0)) rfl) ?_
            refine st_on (t := 26) (c := (decide (t24 < 33))) rfl rfl (decide_eq_false hc8) ?_
            refine st_val (ex_move (v := (.int .i64 s5)) rfl) ?_
            refine st_on (t := 26) (c := (decide (t24 < 33))) rfl rfl (decide_eq_false hc8) ?_
            refine st_rnp (fun r => ex_index rfl rfl r) h ?_; clear h; intro t29 h
            refine st_on (t := 26) (c := (decide (t24 < 33))) rfl rfl (decide_eq_false hc8) ?_
            refine st_val (ex_gtr (a := t29) (b := 126) rfl rfl) ?_
            refine st_val (ex_pick0 (b := (decide (t24 < 33))) rfl (decide_eq_false hc8) (v := (.bool (decide (126 < t29)))) rfl) ?_
            refine wl_nil ?_
            exact then_n ⟨(decide (126 < t29)), _, rfl, mk_upds' (ae rfl (ae rfl (ae rfl (ae rfl ae0)))), h⟩
      · rw [if_neg hc6] at h; refine cond_0 (b := (decide (s5 < (t0.size : Int)))) rfl (decide_eq_false hc6) ?_
        refine wp_exit ?_
        refine then_e ?_
        refine then_e ?_
        refine inb_e ?_
        refine then_n ?_
        refine seq_ ?_
        refine region_ ?_
        refine st_val (ex_assign (v := (.bool true)) rfl) ?_
        refine wl_nil ?_
        refine then_n ?_
        refine wp_ret ?_
        refine ret_1 rfl rfl ⟨true, rfl, h⟩
  · clear h; intro k1 h
    refine region_ ?_
    refine st_val (ex_move (v := (.string t0)) rfl) ?_
    refine st_val (ex_lenS (s := t0) Try.underlying9 rfl) ?_
    refine st_val (ex_lss (a := (t0.size : Int)) (b := 1) rfl rfl) ?_
    refine st_val (ex_move (v := (.bool (decide ((t0.size : Int) < 1)))) rfl) ?_
    by_cases hc2 : (t0.size : Int) < 1
    · rw [if_pos hc2] at h
      refine st_off (t := 7) (c := (decide ((t0.size : Int) < 1))) rfl rfl (decide_eq_true hc2) ?_
      refine st_off (t := 7) (c := (decide ((t0.size : Int) < 1))) rfl rfl (decide_eq_true hc2) ?_
      refine st_off (t := 7) (c := (decide ((t0.size : Int) < 1))) rfl rfl (decide_eq_true hc2) ?_
      refine st_val (ex_pick1 (b := (decide ((t0.size : Int) < 1))) rfl (decide_eq_true hc2) (v := (.bool true)) rfl) ?_
      refine st_val (ex_move (v := (.bool true)) rfl) ?_
      refine st_off (t := 12) (c := true) rfl rfl (rfl : true = !false) ?_
      refine st_off (t := 12) (c := true) rfl rfl (rfl : true = !false) ?_
      refine st_off (t := 12) (c := true) rfl rfl (rfl : true = !false) ?_
      refine st_val (ex_pick1 (b := true) rfl (rfl : true = true) (v := (.bool true)) rfl) ?_
      refine wl_nil ?_
      exact then_n ⟨true, _, rfl, mk_upds' (ae rfl (ae rfl ae0)), h⟩
    · rw [if_neg hc2] at h
      refine st_on (t := 7) (c := (decide ((t0.size : Int) < 1))) rfl rfl (decide_eq_false hc2) ?_
      refine st_val (ex_move (v := (.string t0)) rfl) ?_
      refine st_on (t := 7) (c := (decide ((t0.size : Int) < 1))) rfl rfl (decide_eq_false hc2) ?_
      refine st_val (ex_lenS (s := t0) Try.underlying9 rfl) ?_
      refine st_on (t := 7) (c := (decide ((t0.size : Int) < 1))) rfl rfl (decide_eq_false hc2) ?_
      refine st_val (ex_gtr (a := (t0.size : Int)) (b := 256) rfl rfl) ?_
      refine st_val (ex_pick0 (b := (decide ((t0.size : Int) < 1))) rfl (decide_eq_false hc2) (v := (.bool (decide (256 < (t0.size : Int))))) rfl) ?_
      refine st_val (ex_move (v := (.bool (decide (256 < (t0.size : Int))))) rfl) ?_
      by_cases hc3 : 256 < (t0.size : Int)
      · rw [if_pos hc3] at h
        refine st_off (t := 12) (c := (decide (256 < (t0.size : Int)))) rfl rfl (decide_eq_true hc3) ?_
        refine st_off (t := 12) (c := (decide (256 < (t0.size : Int)))) rfl rfl (decide_eq_true hc3) ?_
        refine st_off (t := 12) (c := (decide (256 < (t0.size : Int)))) rfl rfl (decide_eq_true hc3) ?_
        refine st_val (ex_pick1 (b := (decide (256 < (t0.size : Int)))) rfl (decide_eq_true hc3) (v := (.bool true)) rfl) ?_
        refine wl_nil ?_
        exact then_n ⟨true, _, rfl, mk_upds' (ae rfl (ae rfl ae0)), h⟩
      · rw [if_neg hc3] at h
        refine st_on (t := 12) (c := (decide (256 < (t0.size : Int)))) rfl rfl (decide_eq_false hc3) ?_
        refine st_val (ex_move (v := (.string t0)) rfl) ?_
        refine st_on (t := 12) (c := (decide (256 < (t0.size : Int)))) rfl rfl (decide_eq_false hc3) ?_
        refine st_rnp (fun r => ex_index rfl rfl r) h ?_; clear h; intro t14 h
        refine st_on (t := 12) (c := (decide (256 < (t0.size : Int)))) rfl rfl (decide_eq_false hc3) ?_
        refine st_val (ex_neq (a := t14) (b := 47) rfl rfl) ?_
        refine st_val (ex_pick0 (b := (decide (256 < (t0.size : Int)))) rfl (decide_eq_false hc3) (v := (.bool (decide (t14 ≠ 47)))) rfl) ?_
        refine wl_nil ?_
        exact then_n ⟨(decide (t14 ≠ 47)), _, rfl, mk_upds' (ae rfl (ae rfl ae0)), h⟩

/-- internal/stringslite.CutSuffix; slots 0:s, 1:suffix, 2:s, 3:suffix, 4:before, 5:found -/
def f165 (t0 : ByteArray) (t1 : ByteArray) (R : (ByteArray × Bool) → World → Prop) (w : World) : Prop :=
  Cal Try.prog Value.bool 139 #[(.string t0), (.string t1)] w fun t8 w =>
  if (!t8) = true then
    R (t0, false) w
  else
    RnP Try.prog Value.string (Instr.sliceAt 9 (.string t0) none (some (.int .i64 (IntKind.i64.wrap ((t0.size : Int) - (t1.size : Int))))) none) fun t17 =>
    R (t17, true) w
theorem c165 {t0 : ByteArray} {t1 : ByteArray} {R : (ByteArray × Bool) → World → Prop} {w : World} (h : f165 t0 t1 R w) :
    Cal Try.prog (fun x : ByteArray × Bool => Value.tuple #[(.string x.1), (.bool x.2)]) 165 #[(.string t0), (.string t1)] w R := by
  unfold f165 at h
  refine calls_ Try.func165 Try.ntmps165 rfl rfl ?_
  refine seq_ ?_
  refine region_ ?_
  refine st_val (ex_assign (v := (.string (⟨#[]⟩ : ByteArray))) rfl) ?_
  refine st_val (ex_assign (v := (.bool false)) rfl) ?_
  refine wl_nil ?_
  refine then_n ?_
  refine seq_ ?_
  refine seq_ ?_
  refine region_ ?_
  refine st_val (ex_move (v := (.string t0)) rfl) ?_
  refine st_val (ex_move (v := (.string t1)) rfl) ?_
  refine st_cal en139 rfl h ?_; clear h; intro t8 w h
  refine st_val (ex_not (b := t8) rfl) ?_
  refine wl_nil ?_
  refine then_n ?_
  by_cases hc1 : (!t8) = true
  · rw [if_pos hc1] at h; refine cond_1 (b := (!t8)) rfl hc1 ?_
    refine seq_ ?_
    refine region_ ?_
    refine st_val (ex_move (v := (.string t0)) rfl) ?_
    refine st_val (ex_assign (v := (.string t0)) rfl) ?_
    refine st_val (ex_assign (v := (.bool false)) rfl) ?_
    refine wl_nil ?_
    refine then_n ?_
    refine wp_ret ?_
    refine then_r ?_
    refine ret_2 rfl rfl rfl ⟨(t0, false), rfl, h⟩
  · rw [if_neg hc1] at h; refine cond_0 (b := (!t8)) rfl (Bool.eq_false_iff.2 hc1) ?_
    refine wp_skip ?_
    refine then_n ?_
    refine seq_ ?_
    refine region_ ?_
    refine st_val (ex_move (v := (.string t0)) rfl) ?_
    refine st_val (ex_move (v := (.string t0)) rfl) ?_
    refine st_val (ex_lenS (s := t0) Try.underlying9 rfl) ?_
    refine st_val (ex_move (v := (.string t1)) rfl) ?_
    refine st_val (ex_lenS (s := t1) Try.underlying9 rfl) ?_
    refine st_val (ex_sub (a := (t0.size : Int)) (b := (t1.size : Int)) rfl rfl) ?_
    refine st_rnp (fun r => ex_slice rfl rfl rfl rfl r) h ?_; clear h; intro t17 h
    refine st_val (ex_assign (v := (.string t17)) rfl) ?_
    refine st_val (ex_assign (v := (.bool true)) rfl) ?_
    refine wl_nil ?_
    refine then_n ?_
    refine wp_ret ?_
    refine ret_2 rfl rfl rfl ⟨(t17, true), rfl, h⟩


end Go.Proofs.Ytdoeegfcmbcbkaa.Tr

/- Contracts: the comparisons of the verifier's package for layer 15 (what reads alike is told alike). -/
namespace Go.Proofs.Ytdoeegfcmbcbkaa.Ct
open Go Go.Eng Tr
set_option linter.unusedVariables false
set_option maxRecDepth 100000

noncomputable abbrev PP := Try.prog
def bs (x : ByteArray) : List Value := [.string x]
def fl (x : Nat) : List Value := [.float .f64 x]
/-- a call that makes nothing of what stood another thing, and answers r -/
def Ans {α : Type} (enc : α → Value) (f : FuncId) (args : Array Value) (w : World) (r : α) : Prop := Cal PP enc f args w fun x w' => Ext w w' ∧ x = r

theorem bits_run (x : Nat) (w : World) : (callFunc 105 #[.float .f64 x]).run PP w = .ok (.value (.int .u64 (x : Int))) w := by
  rw [run_callFunc_extern Try.func105 rfl rfl (e := Extern.MathFloatBits.float64bits) (by kernel_rfl) (by kernel_rfl)]
  rfl
theorem rx_bits {x : Nat} {w : World} {K : Int → World → Prop} (h : K (x : Int) w) : Rx PP (Value.int .u64) 105 #[.float .f64 x] w K := ⟨_, _, bits_run x w, h⟩
theorem alike_ok (x : Nat) (w : World) : Ans Value.bool 61 #[.float .f64 x, .float .f64 x] w true := by
  refine c61 ?_
  unfold f61
  refine Jn.dup ?_
  refine rx_bits (rx_bits ?_)
  rw [if_pos rfl]
  exact ⟨Ext.refl _, rfl⟩
section
variable {w : World} {F G : Nat → Prop} {s s' : Sl}
theorem texts_ok {l : List ByteArray} (h0 : Rd bs 1 F w s l) (h1 : Rd bs 1 G w s' l) : Ans Value.bool 80 #[s.v, s'.v] w true := by
  refine c80 ?_
  unfold f80
  rw [if_neg (by rw [h0.len, h1.len]; simp)]
  refine Lp.mk (fun i w' => ∃ k : Nat, i = k ∧ k ≤ l.length ∧ Ext w w') (fun i => l.length - i.toNat) ⟨0, rfl, Nat.zero_le _, Ext.refl _⟩ ?_
  rintro i w' K ⟨k, rfl, hk, hE⟩ hK
  by_cases hlt : k < l.length
  · rw [if_pos (by rw [h0.len]; omega)]
    refine Dr.mk fun w1 hD _ => ?_
    replace hE := hE.trans hD
    refine rnp_idx sl44 (h0.ext hE) hlt rfl fun p _ hp => ?_
    refine rnl_at0 one9 hp ?_
    refine rnp_idx sl44 (h1.ext hE) hlt rfl fun q _ hq => ?_
    refine rnl_at0 one9 hq ?_
    rw [if_neg (by simp), h0.wr hlt]
    exact hK _ _ ⟨k + 1, rfl, hlt, hE⟩ (by omega)
  · rw [if_neg (by rw [h0.len]; omega)]
    exact ⟨hE, rfl⟩
theorem shares_ok {l : List TShare} (h0 : Rd TShare.cells 2 F w s l) (h1 : Rd TShare.cells 2 G w s' l) : Ans Value.bool 20 #[s.v, s'.v] w true := by
  refine c20 ?_
  unfold f20
  rw [if_neg (by rw [h0.len, h1.len]; simp)]
  refine Lp.mk (fun i w' => ∃ k : Nat, i = k ∧ k ≤ l.length ∧ Ext w w') (fun i => l.length - i.toNat) ⟨0, rfl, Nat.zero_le _, Ext.refl _⟩ ?_
  rintro i w' K ⟨k, rfl, hk, hE⟩ hK
  by_cases hlt : k < l.length
  · rw [if_pos (by rw [h0.len]; omega)]
    refine Jn.dup ?_
    refine Dr.mk fun w1 hD _ => ?_
    replace hE := hE.trans hD
    refine rnp_idx sl23 (h0.ext hE) hlt rfl fun p _ hp => ?_
    refine rnl_at one9 hp rfl ?_
    refine rnp_idx sl23 (h1.ext hE) hlt rfl fun q _ hq => ?_
    refine rnl_at one9 hq rfl ?_
    rw [if_neg (by simp)]
    refine rnp_idx sl23 (h0.ext hE) hlt rfl fun p _ hp => ?_
    refine rnl_at one30 hp rfl ?_
    refine rnp_idx sl23 (h1.ext hE) hlt rfl fun q _ hq => ?_
    refine rnl_at one30 hq rfl ?_
    refine (alike_ok _ _).mono ?_
    rintro _ w2 ⟨hE2, rfl⟩
    dsimp only
    rw [if_neg (by simp), h0.wr hlt]
    exact hK _ _ ⟨k + 1, rfl, hlt, hE.trans hE2⟩ (by omega)
  · rw [if_neg (by rw [h0.len]; omega)]
    exact ⟨hE, rfl⟩
theorem targets_ok {l : List TTarget} (h0 : Rd TTarget.cells 3 F w s l) (h1 : Rd TTarget.cells 3 G w s' l) : Ans Value.bool 106 #[s.v, s'.v] w true := by
  refine c106 ?_
  unfold f106
  rw [if_neg (by rw [h0.len, h1.len]; simp)]
  refine Lp.mk (fun i w' => ∃ k : Nat, i = k ∧ k ≤ l.length ∧ Ext w w') (fun i => l.length - i.toNat) ⟨0, rfl, Nat.zero_le _, Ext.refl _⟩ ?_
  rintro i w' K ⟨k, rfl, hk, hE⟩ hK
  by_cases hlt : k < l.length
  · rw [if_pos (by rw [h0.len]; omega)]
    refine Jn.dup ?_
    refine Dr.mk fun w1 hD _ => ?_
    replace hE := hE.trans hD
    refine rnp_idx sl45 (h0.ext hE) hlt rfl fun p _ hp => ?_
    refine rnl_at one9 hp rfl ?_
    refine rnp_idx sl45 (h1.ext hE) hlt rfl fun q _ hq => ?_
    refine rnl_at one9 hq rfl ?_
    rw [if_neg (by simp)]
    refine rnp_idx sl45 (h0.ext hE) hlt rfl fun p _ hp => ?_
    refine rnl_at one9 hp rfl ?_
    refine rnp_idx sl45 (h1.ext hE) hlt rfl fun q _ hq => ?_
    refine rnl_at one9 hq rfl ?_
    rw [if_neg (by simp)]
    refine rnp_idx sl45 (h0.ext hE) hlt rfl fun p _ hp => ?_
    refine rnl_at one30 hp rfl ?_
    refine rnp_idx sl45 (h1.ext hE) hlt rfl fun q _ hq => ?_
    refine rnl_at one30 hq rfl ?_
    refine (alike_ok _ _).mono ?_
    rintro _ w2 ⟨hE2, rfl⟩
    dsimp only
    rw [if_neg (by simp), h0.wr hlt]
    exact hK _ _ ⟨k + 1, rfl, hlt, hE.trans hE2⟩ (by omega)
  · rw [if_neg (by rw [h0.len]; omega)]
    exact ⟨hE, rfl⟩
end
end Go.Proofs.Ytdoeegfcmbcbkaa.Ct

/- Contracts: resources held against each other, copied and looked at again (the verifier's package for layer 15). -/
namespace Go.Proofs.Ytdoeegfcmbcbkaa.Ct
open Go Go.Eng Tr
set_option linter.unusedVariables false
set_option maxRecDepth 100000

/-- a resource, read to the bottom -/
structure DRes where
  kind : Int
  name : ByteArray
  ends : List ByteArray
  targets : List TTarget
  host : ByteArray
  rules : List TRule
  route : ByteArray
  del : Bool
/-- what a resource's cells lead to -/
structure ResD (F : Nat → Prop) (w : World) (r : TResource) (d : DRes) : Prop where
  kind : r.Kind = d.kind
  name : r.Name = d.name
  ends : Rd bs 1 F w r.Endpoints d.ends
  targets : Rd TTarget.cells 3 F w r.Targets d.targets
  host : r.Host = d.host
  rules : Rd TRule.cells 4 F w r.Rules d.rules
  route : r.Route = d.route
  del : r.Delete = d.del
/-- a list of resources, read to the bottom -/
structure ConfD (F : Nat → Prop) (w : World) (s : Sl) (rs : List TResource) (l : List DRes) : Prop where
  rd : Rd TResource.cells 8 F w s rs
  len : rs.length = l.length
  el : ∀ k (h : k < rs.length) (h' : k < l.length), ResD F w rs[k] l[k]
section
variable {F G S : Nat → Prop} {w w' : World} {r : TResource} {d : DRes} {s : Sl} {rs : List TResource} {l : List DRes}
theorem ResD.ext (h : ResD F w r d) (k : Ext w w') : ResD F w' r d := ⟨h.kind, h.name, h.ends.ext k, h.targets.ext k, h.host, h.rules.ext k, h.route, h.del⟩
theorem ResD.chg (h : ResD F w r d) (k : Chg S w w') (hs : ∀ b, F b → b < w.heap.size → ¬ S b) : ResD F w' r d := ⟨h.kind, h.name, h.ends.chg k hs, h.targets.chg k hs, h.host, h.rules.chg k hs, h.route, h.del⟩
theorem ResD.mono (h : ResD F w r d) (hF : ∀ b, F b → G b) : ResD G w r d := ⟨h.kind, h.name, h.ends.mono hF, h.targets.mono hF, h.host, h.rules.mono hF, h.route, h.del⟩
theorem ConfD.ext (h : ConfD F w s rs l) (k : Ext w w') : ConfD F w' s rs l := ⟨h.rd.ext k, h.len, fun i a b => (h.el i a b).ext k⟩
theorem ConfD.chg (h : ConfD F w s rs l) (k : Chg S w w') (hs : ∀ b, F b → b < w.heap.size → ¬ S b) : ConfD F w' s rs l := ⟨h.rd.chg k hs, h.len, fun i a b => (h.el i a b).chg k hs⟩
theorem ConfD.mono (h : ConfD F w s rs l) (hF : ∀ b, F b → G b) : ConfD G w s rs l := ⟨h.rd.mono hF, h.len, fun i a b => (h.el i a b).mono hF⟩
theorem ConfD.n (h : ConfD F w s rs l) : s.n = l.length := h.rd.len.trans h.len
theorem ConfD.wr (h : ConfD F w s rs l) {k : Nat} (hk : k < l.length) : IntKind.i64.wrap ((k : Int) + 1) = ((k + 1 : Nat) : Int) := h.rd.wr (by rw [h.len]; exact hk)
/-- at an index: the cells, and what they lead to -/
theorem ConfD.idx (h : ConfD F w s rs l) {k : Nat} (hk : k < l.length) {i : Int} (hi : i = k) {K : Addr → Prop} (hK : ∀ p r, F p.block → At w p (TResource.cells r) → ResD F w r l[k] → K p) :
    RnP PP Ptr (Instr.indexAt 22 (Sl.v s) (.int .i64 i)) K :=
  rnp_idx sl22 h.rd (by rw [h.len]; exact hk) hi fun p hF hp => hK p _ hF hp (h.el k (by rw [h.len]; exact hk) hk)
end

/-! ### Equality of rules -/
theorem eqRule_run (x y : TRule) (w : World) : (Op.equal 91 x.v y.v).run PP w = .ok (x.Path == y.Path && (x.Method == y.Method && (x.Split == y.Split && x.Allow == y.Allow))) w := by
  have h1 : ∀ (w : World) (a b : ByteArray), (Op.equalIn (9998 + 1) 9 (.string a) (.string b)).run PP w = .ok (a == b) w := fun w a b => by
    rw [run_equalIn_string w 9998 9 a b Try.underlying9, beq_toListBytes]
  have h2 : ∀ (w : World) (a b : Bool), (Op.equalIn (9998 + 1) 4 (.bool a) (.bool b)).run PP w = .ok (a == b) w := fun w a b => run_equalIn_bool' w 9998 4 a b Try.underlying4
  have hp : ∀ (w : World) (o : Nat) (t : TypeId) (v : Value) (cs : Array Value), One PP t → cs[o]? = some v → (part t cs o).run PP w = .ok v w := fun w o t v cs h hv => part_one h hv
  show (Op.equalIn (9999 + 1) 91 (.agg (Array.mk x.cells)) (.agg (Array.mk y.cells))).run PP w = _
  rw [run_equalIn_struct w 9999 91 _ _ (by kernel_rfl) (by kernel_rfl)]
  have hf : (Program.fieldsOf PP 91).toList = [⟨ "Path", 9, 0, false, "", "", 0⟩, ⟨ "Method", 9, 1, false, "", "", 16⟩, ⟨ "Split", 9, 2, false, "", "", 32⟩, ⟨ "Allow", 4, 3, false, "", "", 48⟩] := by kernel_rfl
  rw [hf]
  have n1 : ("Path" : String) ≠ "_" := by decide
  have n2 : ("Method" : String) ≠ "_" := by decide
  have n3 : ("Split" : String) ≠ "_" := by decide
  have n4 : ("Allow" : String) ≠ "_" := by decide
  simp only [Op.eqFields, if_pos n1, if_pos n2, if_pos n3, if_pos n4, Sem.run_bind]
  rw [hp w 0 9 (.string x.Path) _ one9 rfl, Result.andThen_ok, hp w 0 9 (.string y.Path) _ one9 rfl, Result.andThen_ok, h1, Result.andThen_ok]
  cases x.Path == y.Path
  · rfl
  rw [if_neg (by simp), Sem.run_bind, hp w 1 9 (.string x.Method) _ one9 rfl, Result.andThen_ok, Sem.run_bind, hp w 1 9 (.string y.Method) _ one9 rfl, Result.andThen_ok, Sem.run_bind, h1, Result.andThen_ok]
  cases x.Method == y.Method
  · rfl
  rw [if_neg (by simp), Sem.run_bind, hp w 2 9 (.string x.Split) _ one9 rfl, Result.andThen_ok, Sem.run_bind, hp w 2 9 (.string y.Split) _ one9 rfl, Result.andThen_ok, Sem.run_bind, h1, Result.andThen_ok]
  cases x.Split == y.Split
  · rfl
  rw [if_neg (by simp), Sem.run_bind, hp w 3 4 (.bool x.Allow) _ one4 rfl, Result.andThen_ok, Sem.run_bind, hp w 3 4 (.bool y.Allow) _ one4 rfl, Result.andThen_ok, Sem.run_bind, h2, Result.andThen_ok]
  cases x.Allow == y.Allow <;> rfl
theorem eqRule_self (x : TRule) (w : World) : (Op.equal 91 x.v x.v).run PP w = .ok true w := by
  rw [eqRule_run]; simp [beq_bytes]
section
variable {w : World} {F G : Nat → Prop} {s s' : Sl}
theorem rules_ok {l : List TRule} (h0 : Rd TRule.cells 4 F w s l) (h1 : Rd TRule.cells 4 G w s' l) : Ans Value.bool 107 #[s.v, s'.v] w true := by
  refine c107 ?_
  unfold f107
  rw [if_neg (by rw [h0.len, h1.len]; simp)]
  refine Lp.mk (fun i w' => ∃ k : Nat, i = k ∧ k ≤ l.length ∧ Ext w w') (fun i => l.length - i.toNat) ⟨0, rfl, Nat.zero_le _, Ext.refl _⟩ ?_
  rintro i w' K ⟨k, rfl, hk, hE⟩ hK
  by_cases hlt : k < l.length
  · rw [if_pos (by rw [h0.len]; omega)]
    refine Dr.mk fun w1 hD _ => ?_
    replace hE := hE.trans hD
    refine rnp_idx sl46 (h0.ext hE) hlt rfl fun p _ hp => ?_
    refine rnl_ldN (x := l[k]) many91 hp rfl rfl ?_
    refine rnp_idx sl46 (h1.ext hE) hlt rfl fun q _ hq => ?_
    refine rnl_ldN (x := l[k]) many91 hq rfl rfl ?_
    refine RnP.of (x := false) (fun w => by simp only [Sem.run_bind, eqRule_self, Result.andThen_ok, Sem.run_pure]; rfl) ?_
    rw [if_neg (by simp), h0.wr hlt]
    exact hK _ _ ⟨k + 1, rfl, hlt, hE⟩ (by omega)
  · rw [if_neg (by rw [h0.len]; omega)]
    exact ⟨hE, rfl⟩
end
theorem resource_ok {w : World} {F G : Nat → Prop} {r r' : TResource} {d : DRes} (h0 : ResD F w r d) (h1 : ResD G w r' d) : Ans Value.bool 62 #[r.v, r'.v] w true := by
  refine c62 ?_
  unfold f62
  refine New.mk fun b w1 e1 hb _ _ => ?_
  refine New.mk fun b' w2 e2 hb' _ _ => ?_
  replace hb := hb.ext e2
  replace h0 := h0.ext (e1.trans e2); replace h1 := h1.ext (e1.trans e2)
  replace e1 := e1.trans e2
  refine Jn.dup ?_
  refine rn_blk one3 hb rfl rfl ?_
  refine rn_blk one3 hb' rfl rfl ?_
  rw [if_pos (by rw [h0.kind, h1.kind])]
  refine rn_blk one9 hb rfl rfl ?_
  refine rn_blk one9 hb' rfl rfl ?_
  rw [if_pos (by rw [h0.name, h1.name])]
  refine rn_blk one44 hb rfl rfl ?_
  refine rn_blk one44 hb' rfl rfl ?_
  refine (texts_ok h0.ends h1.ends).mono ?_
  rintro _ w3 ⟨e3, rfl⟩
  rw [if_pos rfl]
  replace hb := hb.ext e3; replace hb' := hb'.ext e3; replace h0 := h0.ext e3; replace h1 := h1.ext e3; replace e1 := e1.trans e3
  refine rn_blk one45 hb rfl rfl ?_
  refine rn_blk one45 hb' rfl rfl ?_
  refine (targets_ok h0.targets h1.targets).mono ?_
  rintro _ w4 ⟨e4, rfl⟩
  rw [if_pos rfl]
  replace hb := hb.ext e4; replace hb' := hb'.ext e4; replace h0 := h0.ext e4; replace h1 := h1.ext e4; replace e1 := e1.trans e4
  refine rn_blk one9 hb rfl rfl ?_
  refine rn_blk one9 hb' rfl rfl ?_
  rw [if_pos (by rw [h0.host, h1.host])]
  refine rn_blk one46 hb rfl rfl ?_
  refine rn_blk one46 hb' rfl rfl ?_
  refine (rules_ok h0.rules h1.rules).mono ?_
  rintro _ w5 ⟨e5, rfl⟩
  rw [if_pos rfl]
  replace hb := hb.ext e5; replace hb' := hb'.ext e5; replace h0 := h0.ext e5; replace h1 := h1.ext e5; replace e1 := e1.trans e5
  refine rn_blk one9 hb rfl rfl ?_
  refine rn_blk one9 hb' rfl rfl ?_
  rw [if_pos (by rw [h0.route, h1.route])]
  refine rn_blk one4 hb rfl rfl ?_
  refine rn_blk one4 hb' rfl rfl ?_
  exact ⟨e1, by rw [h0.del, h1.del]; simp⟩
/-- the mark behind what was lent -/
def Marked (w : World) (s : Sl) (n : Nat) : Prop := n + 1 ≤ s.c ∧ ∃ a, s.a = some a ∧ w.cell? (a.add (n * 8)) = some (.int .i64 (-77))
theorem stay_ok {w : World} {F G : Nat → Prop} {s s' : Sl} {rs rs' : List TResource} {l : List DRes} (h0 : ConfD F w s rs l) (h1 : ConfD G w s' rs' l) (hm : Marked w s l.length) : Ans Value.bool 21 #[s.v, s'.v] w true := by
  refine c21 ?_
  unfold f21
  refine Jn.dup ?_
  have hn0 := h0.n; have hn1 := h1.n; have hl := h0.rd.lim
  obtain ⟨hc, a, ha, hcell⟩ := hm
  unfold maxLen at hl
  rw [if_neg (by rw [hn0, hn1]; simp)]
  have e1 : (IntKind.i64.wrap ((s'.n : Int) + 1)) = ((l.length + 1 : Nat) : Int) := by
    rw [hn1, wrap_in ⟨by omega, by omega⟩]; rfl
  rw [e1]
  refine rnp_slice sl22 none (some (l.length + 1)) rfl rfl (Nat.zero_le _) hc ?_
  simp only [Option.getD_none, Option.getD_some, Sl.cut_zero]
  rw [hn1]
  refine ⟨_, fun w => idx_run (s := ⟨s.a, l.length + 1, s.c⟩) sl22 ha (Nat.lt_succ_self l.length) w, ?_⟩
  refine rn_ld1 (x := -77) one3 (by rw [add_zero]; exact hcell) ?_
  rw [if_neg (by decide)]
  refine Lp.mk (fun i w' => ∃ k : Nat, i = k ∧ k ≤ l.length ∧ Ext w w') (fun i => l.length - i.toNat) ⟨0, rfl, Nat.zero_le _, Ext.refl _⟩ ?_
  rintro i w' K ⟨k, rfl, hk, hE⟩ hK
  by_cases hlt : k < l.length
  · rw [if_pos (by omega)]
    refine Dr.mk fun w1 hD _ => ?_
    replace hE := hE.trans hD
    refine (h0.ext hE).idx hlt rfl fun p r _ hp hr => ?_
    refine rnl_ldN (x := r) many48 hp rfl rfl ?_
    refine (h1.ext hE).idx hlt rfl fun p' r' _ hp' hr' => ?_
    refine rnl_ldN (x := r') many48 hp' rfl rfl ?_
    refine (resource_ok hr hr').mono ?_
    rintro _ w2 ⟨hE2, rfl⟩
    rw [if_neg (by simp), h0.wr hlt]
    exact hK _ _ ⟨k + 1, rfl, hlt, hE.trans hE2⟩ (by omega)
  · rw [if_neg (by omega)]
    exact ⟨hE, trivial⟩
/-- sizes: what may be copied with one more behind it -/
structure Small (d : DRes) : Prop where
  ends : d.ends.length * 16 ≤ 140737488355328
  targets : d.targets.length * 40 ≤ 140737488355328
  rules : d.rules.length * 56 ≤ 140737488355328
theorem one_bs (x : ByteArray) : (bs x).length = 1 := rfl
theorem oc_bs (x : ByteArray) : ∀ u ∈ bs x, u.oneCell' = true := by simp [bs, Value.oneCell']
theorem oc_target (x : TTarget) : ∀ u ∈ TTarget.cells x, u.oneCell' = true := by simp [TTarget.cells, Value.oneCell']
theorem oc_rule (x : TRule) : ∀ u ∈ TRule.cells x, u.oneCell' = true := by simp [TRule.cells, Value.oneCell']
theorem oc_res (x : TResource) : ∀ u ∈ TResource.cells x, u.oneCell' = true := by simp [TResource.cells, Value.oneCell', Sl.v]
theorem oc_share (x : TShare) : ∀ u ∈ TShare.cells x, u.oneCell' = true := by simp [TShare.cells, Value.oneCell']
theorem twin_ok {w : World} {F : Nat → Prop} {s : Sl} {rs : List TResource} {l : List DRes} (h : ConfD F w s rs l) (hs : ∀ d ∈ l, Small d) (hb : (l.length + 1) * 136 ≤ 140737488355328) :
    Cal PP Sl.v 16 #[s.v] w fun x w' => Ext w w' ∧ ∃ rs', ConfD (fun b => w.heap.size ≤ b) w' x rs' l ∧ Marked w' x l.length := by
  refine c16 ?_
  unfold f16
  refine Lp.mk (fun (x : Sl × Int) w' => ∃ k rs', x.2 = (k : Nat) ∧ k ≤ l.length ∧ Ext w w' ∧ Own TResource.cells 8 48 w.heap.size w' x.1 rs' ∧ rs'.length = k ∧
    ∀ j (h1 : j < rs'.length) (h2 : j < l.length), ResD (fun b => w.heap.size ≤ b ∧ b < w'.heap.size ∧ ¬ own? x.1 b) w' rs'[j] l[j]) (fun x => l.length - x.2.toNat)
    ⟨0, [], rfl, Nat.zero_le _, Ext.refl _, Own.nil_ _ _, rfl, fun j h1 => absurd h1 (Nat.not_lt_zero _)⟩ ?_
  rintro ⟨out, i⟩ w1 K ⟨k, rs', rfl, hk, hE, hO, hl', hR⟩ hK
  dsimp only at hO hR ⊢
  by_cases hlt : k < l.length
  · rw [if_pos (by rw [h.n]; omega)]
    refine (h.ext hE).idx hlt rfl fun p r _ hp hr => ?_
    refine rn_ldN (x := r) many48 hp rfl rfl ?_
    refine New.mk fun b5 w2 e2 hb5 hn5 _ => ?_
    refine rnu_st (b := b5) (o := 0) rfl hb5 (TResource.cells r) sz48 rfl (oc_res r) (Nat.le_refl _) fun w3 e3 _ hb5 => ?_
    replace hb5 : Blk w3 b5 48 (TResource.cells r) := hb5
    have hB := hE.size
    -- what stood below b5 stands; b5 is our own
    have hw5 : w.heap.size ≤ b5 := by omega
    have C : Chg (fun b => b = b5) w1 w3 := (e2.chg _).trans e3
    have E : Ext w1 w3 := C.ext (fun b hb he => by omega)
    clear e2 e3 C
    have q5 : b5 < w3.heap.size := hb5.lt
    refine New.mk fun b16 w4 e4 hb16 hn16 s4 => ?_
    replace hb5 := hb5.ext e4; replace E := E.trans e4
    refine rn_blk one44 hb5 rfl rfl ?_
    refine rn_copy el44 hb16 (hr.ends.ext E) one_bs oc_bs (hs _ (List.getElem_mem hlt)).ends (by decide) fun x1 w5 c1 r1 => ?_
    replace hb5 := hb5.chg c1 (by omega)
    have g4 := c1.size
    have E5 : Ext w1 w5 := E.then c1 (fun b hb => by omega)
    clear E c1
    refine rnu_st (b := b5) (o := 2) rfl hb5 [Sl.v x1] sz44 rfl (by simp [Sl.v, Value.oneCell']) (by simp [TResource.cells]) fun w6 c6 s6 hb5 => ?_
    replace hb5 : Blk w6 b5 48 (TResource.cells { r with Endpoints := x1 }) := hb5
    have E := E5.then c6 (fun b hb => by omega)
    replace r1 := r1.chg c6 (fun b hb _ => by have := hb.1; omega)
    have g6 : w5.heap.size ≤ w6.heap.size := c6.size
    have g5 := E5.size
    clear E5 c6
    refine New.mk fun b21 w7 e7 hb21 hn21 s7 => ?_
    replace hb5 := hb5.ext e7; replace E := E.trans e7; replace r1 := r1.ext e7
    refine rn_blk one45 hb5 rfl rfl ?_
    refine rn_copy el45 hb21 (hr.targets.ext E) (fun _ => rfl) oc_target (hs _ (List.getElem_mem hlt)).targets (by decide) fun x2 w8 c2 r2 => ?_
    replace hb5 := hb5.chg c2 (by omega)
    have g8 := c2.size
    replace r1 := r1.chg c2 (fun b hb _ => by have := hb.2; omega)
    replace E := E.then c2 (fun b hb => by omega)
    clear c2
    refine rnu_st (b := b5) (o := 3) rfl hb5 [Sl.v x2] sz45 rfl (by simp [Sl.v, Value.oneCell']) (by simp [TResource.cells]) fun w9 c9 s9 hb5 => ?_
    replace hb5 : Blk w9 b5 48 (TResource.cells { r with Endpoints := x1, Targets := x2 }) := hb5
    replace E := E.then c9 (fun b hb => by omega)
    replace r1 := r1.chg c9 (fun b hb _ => by have := hb.1; omega)
    replace r2 := r2.chg c9 (fun b hb _ => by have := hb.1; omega)
    have g9 := c9.size
    clear c9
    refine New.mk fun b26 w10 e10 hb26 hn26 s10 => ?_
    replace hb5 := hb5.ext e10; replace E := E.trans e10; replace r1 := r1.ext e10; replace r2 := r2.ext e10
    refine rn_blk one46 hb5 rfl rfl ?_
    refine rn_copy el46 hb26 (hr.rules.ext E) (fun _ => rfl) oc_rule (hs _ (List.getElem_mem hlt)).rules (by decide) fun x3 w11 c3 r3 => ?_
    replace hb5 := hb5.chg c3 (by omega)
    have g11 := c3.size
    replace r1 := r1.chg c3 (fun b hb _ => by have := hb.2; omega)
    replace r2 := r2.chg c3 (fun b hb _ => by have := hb.2; omega)
    replace E := E.then c3 (fun b hb => by omega)
    clear c3
    refine rnu_st (b := b5) (o := 5) rfl hb5 [Sl.v x3] sz46 rfl (by simp [Sl.v, Value.oneCell']) (by simp [TResource.cells]) fun w12 c12 s12 hb5 => ?_
    replace hb5 : Blk w12 b5 48 (TResource.cells { r with Endpoints := x1, Targets := x2, Rules := x3 }) := hb5
    replace E := E.then c12 (fun b hb => by omega)
    replace r1 := r1.chg c12 (fun b hb _ => by have := hb.1; omega)
    replace r2 := r2.chg c12 (fun b hb _ => by have := hb.1; omega)
    replace r3 := r3.chg c12 (fun b hb _ => by have := hb.1; omega)
    clear c12
    refine rn_blkN (x := { r with Endpoints := x1, Targets := x2, Rules := x3 }) many48 hb5 rfl rfl ?_
    refine New.mk fun b33 w13 e13 hb33 hn33 s13 => ?_
    replace E := E.trans e13; replace r1 := r1.ext e13; replace r2 := r2.ext e13; replace r3 := r3.ext e13
    have O13 := hO.ext E
    refine rn_app1 el22 O13 hb33 rfl rfl (oc_res _) (by rw [hl']; omega) (by decide) (by have := E.size; omega) fun out' w14 O14 c14 n14 => ?_
    have hown : ∀ b, own? out b → b < w1.heap.size := fun b hb => (hO.ge hb).2
    have E14 : Ext w w14 := (hE.trans E).then c14 (fun b hb => (hO.ge hb).1)
    have g1 := E.size
    have g14 := c14.size
    rw [h.wr hlt]
    refine hK _ _ ⟨k + 1, rs' ++ [{ r with Endpoints := x1, Targets := x2, Rules := x3 }], rfl, hlt, E14, O14, by simp [hl'], fun j h1 h2 => ?_⟩ (by dsimp only; omega)
    have fin : ∀ b, b < w13.heap.size → ¬ own? out b → b < w14.heap.size ∧ ¬ own? out' b := fun b hb hn => ⟨by omega, fun ho => by
      rcases n14 b ho with h' | h'
      · exact hn h'
      · omega⟩
    by_cases hj : j < rs'.length
    · rw [List.getElem_append_left hj]
      refine ((hR j hj h2).ext E).chg c14 (fun b hb _ => hb.2.2) |>.mono fun b hb => ?_
      exact ⟨hb.1, fin b (by have := hb.2.1; omega) hb.2.2⟩
    · obtain rfl : j = rs'.length := by simp at h1; omega
      rw [List.getElem_append_right (Nat.le_refl _)]
      simp only [Nat.sub_self, List.getElem_cons_zero]
      have hno : ∀ b, w1.heap.size ≤ b → ¬ own? out b := fun b hb ho => by have := hown b ho; omega
      have r1' := (r1.chg c14 (fun b hb _ => hno b (by have := hb.1; omega))).mono (G := fun b => w.heap.size ≤ b ∧ b < w14.heap.size ∧ ¬ own? out' b) (fun b hb => ⟨by have := hb.1; omega, fin b (by have := hb.2; omega) (hno b (by have := hb.1; omega))⟩)
      have r2' := (r2.chg c14 (fun b hb _ => hno b (by have := hb.1; omega))).mono (G := fun b => w.heap.size ≤ b ∧ b < w14.heap.size ∧ ¬ own? out' b) (fun b hb => ⟨by have := hb.1; omega, fin b (by have := hb.2; omega) (hno b (by have := hb.1; omega))⟩)
      have r3' := (r3.chg c14 (fun b hb _ => hno b (by have := hb.1; omega))).mono (G := fun b => w.heap.size ≤ b ∧ b < w14.heap.size ∧ ¬ own? out' b) (fun b hb => ⟨by have := hb.1; omega, fin b (by have := hb.2; omega) (hno b (by have := hb.1; omega))⟩)
      subst hl'
      exact ⟨hr.kind, hr.name, r1', r2', hr.host, r3', hr.route, hr.del⟩
  · rw [if_neg (by rw [h.n]; omega)]
    obtain rfl : k = l.length := by omega
    refine New.mk fun b37 w2 e2 hb37 hn37 s2 => ?_
    have O2 := hO.ext e2
    refine rn_app1 el22 O2 hb37 rfl rfl (oc_res _) (by rw [hl']; omega) (by decide) (by have := hE.size; omega) fun out' w3 O3 c3 n3 => ?_
    have E3 : Ext w w3 := (hE.trans e2).then c3 (fun b hb => (hO.ge hb).1)
    have hrd := O3.rd (F := fun b => w.heap.size ≤ b) (fun b hb => (O3.ge hb).1)
    have hlen := hrd.len
    simp only [List.length_append, List.length_cons, List.length_nil, hl'] at hlen
    refine rnp_slice sl22 none (some s.n) rfl rfl (Nat.zero_le _) (by rw [h.n]; have := hrd.cap; simp; omega) ?_
    simp only [Option.getD_none, Option.getD_some, Sl.cut_zero]
    rw [h.n]
    refine ⟨E3, rs', ⟨?_, hl', fun j h1 h2 => ?_⟩, ?_⟩
    · have := hrd.take (n := l.length) (by simp [hl'])
      simpa [← hl'] using this
    · exact (((hR j h1 h2).ext e2).chg c3 (fun b hb _ => hb.2.2)).mono fun b hb => hb.1
    · refine ⟨by have := hrd.cap; show l.length + 1 ≤ out'.c; omega, ?_⟩
      obtain ⟨a, ha, _, hat⟩ := hrd.el l.length (by simp [hl'])
      refine ⟨a, ha, ?_⟩
      have := hat 0 (by simp [← hl', TResource.cells])
      rw [add_add, Nat.add_zero] at this
      simpa [← hl', TResource.cells] using this
end Go.Proofs.Ytdoeegfcmbcbkaa.Ct

/- Contracts: the order of keys, what is out of order, and where a resource stands (both packages for layer 14). -/
namespace Go.Proofs.Ytdoeegfcmbcbkaa.Ct
open Go Go.Eng Tr
set_option linter.unusedVariables false
set_option maxRecDepth 100000

/-! ### The order of texts -/
theorem cmp_less : ∀ a b : List UInt8, (0 ≤ Lib.compareBytes a b) ↔ Op.bytesLess a b = false
  | [], [] => by simp [Lib.compareBytes, Op.bytesLess]
  | [], _ :: _ => by simp [Lib.compareBytes, Op.bytesLess]
  | _ :: _, [] => by simp [Lib.compareBytes, Op.bytesLess]
  | x :: a, y :: b => by
    have ih := cmp_less a b
    unfold Lib.compareBytes Op.bytesLess
    by_cases h : x < y
    · simp [h]
    · by_cases h' : y < x
      · have : x ≠ y := fun e => by subst e; exact h h'
        simp [h, h', this]
      · have : x = y := UInt8.le_antisymm (UInt8.not_lt.1 h') (UInt8.not_lt.1 h)
        subst this
        simp [h, ih]
theorem less_irrefl : ∀ a : List UInt8, Op.bytesLess a a = false
  | [] => rfl
  | x :: a => by simp [Op.bytesLess, less_irrefl a]
theorem less_trans : ∀ a b c : List UInt8, Op.bytesLess a b = true → Op.bytesLess b c = true → Op.bytesLess a c = true
  | _, [], _, h, _ => by simp [Op.bytesLess] at h
  | _, _ :: _, [], _, h => by simp [Op.bytesLess] at h
  | [], _ :: _, _ :: _, _, _ => rfl
  | x :: a, y :: b, z :: c, h, k => by
    simp only [Op.bytesLess, Bool.or_eq_true, decide_eq_true_eq, Bool.and_eq_true, beq_iff_eq] at h k ⊢
    rcases h with h | ⟨rfl, h⟩
    · rcases k with k | ⟨rfl, k⟩
      · exact .inl (UInt8.lt_trans h k)
      · exact .inl h
    · rcases k with k | ⟨rfl, k⟩
      · exact .inl k
      · exact .inr ⟨rfl, less_trans a b c h k⟩
theorem less_total : ∀ a b : List UInt8, Op.bytesLess a b = false → Op.bytesLess b a = false → a = b
  | [], [], _, _ => rfl
  | [], _ :: _, h, _ => by simp [Op.bytesLess] at h
  | _ :: _, [], _, h => by simp [Op.bytesLess] at h
  | x :: a, y :: b, h, k => by
    simp only [Op.bytesLess, Bool.or_eq_false_iff, decide_eq_false_iff_not, Bool.and_eq_false_iff, beq_eq_false_iff_ne] at h k
    have : x = y := UInt8.le_antisymm (UInt8.not_lt.1 k.1) (UInt8.not_lt.1 h.1)
    subst this
    rw [less_total a b (h.2.resolve_left (by simp)) (k.2.resolve_left (by simp))]
theorem sLt_irrefl (a : ByteArray) : sLt a a = false := less_irrefl _
theorem sLt_trans {a b c : ByteArray} (h : sLt a b = true) (k : sLt b c = true) : sLt a c = true := less_trans _ _ _ h k
theorem sLt_total {a b : ByteArray} (h : sLt a b = false) (k : sLt b a = false) : a = b := by
  have := less_total _ _ h k
  cases a; cases b; simp only [ByteArray.mk.injEq]; exact Array.ext' this

/-! ### Keys -/
/-- key (k, n) ahead of (k', n') -/
def kLt (k : Int) (n : ByteArray) (k' : Int) (n' : ByteArray) : Bool := decide (k < k') || (decide (k = k') && sLt n n')
section
variable {w : World} {F G : Nat → Prop}
theorem compare_ok (a b : ByteArray) : Ans (Value.int .i64) 134 #[.string a, .string b] w (Lib.compareBytes a.data.toList b.data.toList) := by
  refine c134 ?_
  unfold f134
  refine (c154 (R := fun x w' => Ext w w' ∧ x = Lib.compareBytes a.data.toList b.data.toList) ?_).mono ?_
  · unfold f154
    refine ⟨_, w, ?_, Ext.refl _, rfl⟩
    rw [run_callFunc_extern Try.func163 rfl rfl (e := Extern.BytealgCompare.compare) (by kernel_rfl) (by kernel_rfl), Lib.run_compareString]; rfl
  · exact fun x w' h => h
theorem nan_int (a : Int) : Ans Value.bool 118 #[.int .i64 a] w false := c118 (by unfold f118; exact ⟨Ext.refl _, by simp⟩)
theorem nan_string (a : ByteArray) : Ans Value.bool 119 #[.string a] w false := c119 (by unfold f119; exact ⟨Ext.refl _, by simp⟩)
theorem cmpInt_ok (a b : Int) : Ans (Value.int .i64) 87 #[.int .i64 a, .int .i64 b] w (if a < b then -1 else if b < a then 1 else 0) := by
  refine c87 ?_
  unfold f87
  refine (nan_int a).mono ?_; rintro _ w1 ⟨e1, rfl⟩
  refine (nan_int b).mono ?_; rintro _ w2 ⟨e2, rfl⟩
  rw [if_neg (by simp), if_neg (by simp)]
  by_cases h : a < b
  · rw [if_pos h, if_pos h]; exact ⟨e1.trans e2, rfl⟩
  · rw [if_neg h, if_neg h]
    by_cases h' : b < a
    · rw [if_pos h', if_pos h']; exact ⟨e1.trans e2, rfl⟩
    · rw [if_neg h', if_neg h']; exact ⟨e1.trans e2, rfl⟩
theorem order_ok (a b : TKey) : Cal PP (Value.int .i64) 111 #[a.v, b.v] w fun x w' => Ext w w' ∧ (decide (0 ≤ x) = !kLt a.kind a.name b.kind b.name) := by
  refine c111 ?_
  unfold f111
  refine New.mk fun b2 w1 e1 h2 _ _ => ?_
  refine New.mk fun b3 w2 e2 h3 _ _ => ?_
  replace h2 := h2.ext e2; replace e1 := e1.trans e2
  refine rn_blk one3 h2 rfl rfl ?_
  refine rn_blk one3 h3 rfl rfl ?_
  refine (cmpInt_ok _ _).mono ?_; rintro _ w3 ⟨e3, rfl⟩
  replace h2 := h2.ext e3; replace h3 := h3.ext e3; replace e1 := e1.trans e3
  unfold kLt
  by_cases h : a.kind < b.kind
  · simp only [if_pos h]
    rw [if_pos (by decide)]; exact ⟨e1, by simp [h]⟩
  · simp only [if_neg h]
    by_cases h' : b.kind < a.kind
    · rw [if_pos h', if_pos (by decide)]; exact ⟨e1, by simp [h]; omega⟩
    · rw [if_neg h', if_neg (by simp)]
      refine rn_blk one9 h2 rfl rfl ?_
      refine rn_blk one9 h3 rfl rfl ?_
      refine (compare_ok _ _).mono ?_; rintro _ w4 ⟨e4, rfl⟩
      refine ⟨e1.trans e4, ?_⟩
      have : a.kind = b.kind := by omega
      have h2 := cmp_less a.name.data.toList b.name.data.toList
      simp only [this, Int.lt_irrefl, decide_false, decide_true, Bool.false_or, Bool.true_and, sLt]
      cases hb : Op.bytesLess a.name.data.toList b.name.data.toList with
      | false => simp [h2.2 hb]
      | true => rw [hb] at h2; simpa using h2
theorem of_ok (r : TResource) : Ans TKey.v 63 #[r.v] w ⟨r.Kind, r.Name⟩ := by
  refine c63 ?_
  unfold f63
  refine New.mk fun b1 w1 e1 h1 _ s1 => ?_
  refine New.mk fun b2 w2 e2 h2 hn _ => ?_
  replace h1 := h1.ext e2; replace e1 := e1.trans e2
  refine rn_blk one3 h1 rfl rfl ?_
  refine rn_blk one9 h1 rfl rfl ?_
  refine rnu_st (b := b2) (o := 0) rfl h2 (TKey.cells ⟨r.Kind, r.Name⟩) sz113 rfl (by simp [TKey.cells, Value.oneCell']) (by simp [TKey.cells]) fun w3 c3 s3 h2 => ?_
  replace h2 : Blk w3 b2 113 (TKey.cells ⟨r.Kind, r.Name⟩) := h2
  refine rnr_ldN (x := ⟨r.Kind, r.Name⟩) many113 h2.whole rfl rfl ?_
  exact ⟨e1.then c3 (fun b hb => by omega), rfl⟩
/-- the resource at place i is out of place -/
def outAt (l : List DRes) (i : Nat) : Bool :=
  match l[i]? with
  | none => false
  | some d => decide (d.kind < 1) || (decide (4 < d.kind) || (d.del || (decide (0 < i) && match l[i - 1]? with
    | none => false
    | some c => !kLt c.kind c.name d.kind d.name)))
/-- the first number below n of which p holds, or -1 -/
def fst? (p : Nat → Bool) (n : Nat) : Int := match (List.range n).find? p with
  | some i => (i : Int)
  | none => -1
theorem fst?_some {p : Nat → Bool} {n k : Nat} (hk : k < n) (hp : p k = true) (hj : ∀ j, j < k → p j = false) : fst? p n = k := by
  unfold fst?
  have : (List.range n).find? p = some k := by
    rw [List.find?_range_eq_some]
    exact ⟨hp, by simpa using hk, fun j hj' => by simp [hj j hj']⟩
  rw [this]
theorem fst?_none {p : Nat → Bool} {n : Nat} (hj : ∀ j, j < n → p j = false) : fst? p n = -1 := by
  unfold fst?
  have : (List.range n).find? p = none := by
    rw [List.find?_range_eq_none]
    exact fun j hj' => by simp [hj j hj']
  rw [this]
theorem outs_ok {s : Sl} {rs : List TResource} {l : List DRes} (h : ConfD F w s rs l) : Ans (Value.int .i64) 93 #[s.v] w (fst? (outAt l) l.length) := by
  refine c93 ?_
  unfold f93
  refine Lp.mk (fun i w' => ∃ k : Nat, i = k ∧ k ≤ l.length ∧ Ext w w' ∧ ∀ j, j < k → outAt l j = false) (fun i => l.length - i.toNat) ⟨0, rfl, Nat.zero_le _, Ext.refl _, fun j hj => absurd hj (Nat.not_lt_zero _)⟩ ?_
  rintro i w1 K ⟨k, rfl, hk, hE, hall⟩ hK
  by_cases hlt : k < l.length
  · rw [if_pos (by rw [h.n]; omega)]
    refine (h.ext hE).idx hlt rfl fun p r _ hp hr => ?_
    refine rn_ldN (x := r) many48 hp rfl rfl ?_
    refine New.var (TResource.cells r) sz48 rfl (oc_res r) rfl fun b4 w2 e2 hb hn => ?_
    replace hE := hE.trans e2; replace hr := hr.ext e2
    refine Jn.dup ?_
    have hout : outAt l k = (decide (l[k].kind < 1) || (decide (4 < l[k].kind) || (l[k].del || (decide (0 < k) && match l[k - 1]? with
        | none => false
        | some c => !kLt c.kind c.name l[k].kind l[k].name)))) := by
      unfold outAt; rw [List.getElem?_eq_getElem hlt]
    have yes : ∀ w', outAt l k = true → Ext w w' → Ext w w' ∧ ((k : Int) = fst? (outAt l) l.length) := fun w' ho hE => ⟨hE, (fst?_some hlt ho hall).symm⟩
    have no : ∀ w', outAt l k = false → Ext w w' → K (IntKind.i64.wrap ((k : Int) + 1)) w' := fun w' ho hE => by
      rw [h.wr hlt]
      refine hK _ _ ⟨k + 1, rfl, hlt, hE, fun j hj => ?_⟩ (by omega)
      by_cases e : j = k
      · subst e; exact ho
      · exact hall j (by omega)
    refine Dr.mk fun w3 hD _ => ?_
    replace hE := hE.trans hD; replace hb := hb.ext hD; replace hr := hr.ext hD
    refine rnl_blk one3 hb rfl rfl ?_
    rw [hr.kind]
    by_cases c1 : l[k].kind < 1
    · rw [if_pos c1]; exact iteT rfl (yes _ (by rw [hout]; simp [c1]) hE)
    rw [if_neg c1]
    refine rnl_blk one3 hb rfl rfl ?_
    rw [hr.kind]
    by_cases c2 : 4 < l[k].kind
    · rw [if_pos c2]; exact iteT rfl (yes _ (by rw [hout]; simp [c2]) hE)
    rw [if_neg c2]
    refine rnl_blk one4 hb rfl rfl ?_
    rw [hr.del]
    by_cases c3 : l[k].del = true
    · rw [if_pos c3]; exact iteT rfl (yes _ (by rw [hout]; simp [c3]) hE)
    rw [if_neg c3]
    by_cases c4 : 0 < k
    · rw [if_pos (by omega)]
      have e1 : IntKind.i64.wrap ((k : Int) - 1) = ((k - 1 : Nat) : Int) := by
        have := h.rd.lim; have := h.n; have := h.rd.cap; unfold maxLen at *
        rw [wrap_in ⟨by omega, by omega⟩]; omega
      rw [e1]
      refine (h.ext hE).idx (k := k - 1) (by omega) rfl fun q r' _ hq hr' => ?_
      refine rnl_ldN (x := r') many48 hq rfl rfl ?_
      refine rnl_ldN (x := r) many48 hb.whole rfl rfl ?_
      refine (of_ok r').mono ?_; rintro _ w4 ⟨e4, rfl⟩
      refine ⟨e4, ?_⟩
      refine (of_ok r).mono ?_; rintro _ w5 ⟨e5, rfl⟩
      refine ⟨e5, ?_⟩
      refine (order_ok _ _).mono ?_; rintro x w6 ⟨e6, hx⟩
      refine ⟨e6, ?_⟩
      show if decide (0 ≤ x) = true then _ else _
      rw [hx, hr.kind, hr.name, hr'.kind, hr'.name]
      have hE := hE.trans (e4.trans (e5.trans e6))
      have hout' : outAt l k = !kLt l[k - 1].kind l[k - 1].name l[k].kind l[k].name := by
        rw [hout, List.getElem?_eq_getElem (by omega : k - 1 < l.length)]; simp [c1, c2, c3, c4]
      rw [← hout']
      cases ho : outAt l k with
      | true => exact iteT rfl (yes _ ho hE)
      | false => exact iteF (by simp) (no _ ho hE)
    · rw [if_neg (by omega)]
      exact iteF (by simp) (no _ (by rw [hout]; simp [c1, c2, c3, c4]) hE)
  · rw [if_neg (by rw [h.n]; omega)]
    exact ⟨hE, (fst?_none fun j hj => hall j (by omega)).symm⟩
end
end Go.Proofs.Ytdoeegfcmbcbkaa.Ct

/- Contracts: what is out of order and where a resource stands, as the document's package says it; keys in maps. -/
namespace Go.Proofs.Ytdoeegfcmbcbkaa.Ct
open Go Go.Eng Tr
set_option linter.unusedVariables false
set_option maxRecDepth 100000

section
variable {w : World} {F G : Nat → Prop} {s : Sl} {rs : List TResource} {l : List DRes}
theorem less_ok (a b : TResource) : Ans Value.bool 47 #[a.v, b.v] w (kLt a.Kind a.Name b.Kind b.Name) := by
  refine c47 ?_
  unfold f47
  refine New.mk fun b2 w1 e1 h2 _ _ => ?_
  refine New.mk fun b3 w2 e2 h3 _ _ => ?_
  replace h2 := h2.ext e2; replace e1 := e1.trans e2
  refine Jn.dup ?_
  refine rn_blk one3 h2 rfl rfl ?_
  refine rn_blk one3 h3 rfl rfl ?_
  unfold kLt
  by_cases h : a.Kind < b.Kind
  · rw [if_pos h]; exact ⟨e1, by simp [h]⟩
  · rw [if_neg h]
    refine rn_blk one3 h2 rfl rfl ?_
    refine rn_blk one3 h3 rfl rfl ?_
    by_cases h' : a.Kind = b.Kind
    · rw [if_pos h']
      refine rn_blk one9 h2 rfl rfl ?_
      refine rn_blk one9 h3 rfl rfl ?_
      exact ⟨e1, by simp [h']⟩
    · rw [if_neg h']; exact ⟨e1, by simp [h, h']⟩
theorem ConfD.wr1 (h : ConfD F w s rs l) {k : Nat} (hk : k ≤ l.length) (h0 : 0 < k) : IntKind.i64.wrap ((k : Int) - 1) = ((k - 1 : Nat) : Int) := by
  have := h.rd.lim; have := h.n; have := h.rd.cap; unfold maxLen at *
  rw [wrap_in ⟨by omega, by omega⟩]; omega
theorem outAt_eq {k : Nat} (hlt : k < l.length) : outAt l k = (decide (l[k].kind < 1) || (decide (4 < l[k].kind) || (l[k].del || (decide (0 < k) && match l[k - 1]? with
        | none => false
        | some c => !kLt c.kind c.name l[k].kind l[k].name)))) := by
  simp only [outAt, List.getElem?_eq_getElem hlt]
  cases l[k - 1]? <;> rfl
/-- one more number of which p does not hold -/
theorem all_succ {p : Nat → Bool} {k : Nat} (h : ∀ j, j < k → p j = false) (hk : p k = false) : ∀ j, j < k + 1 → p j = false := fun j hj => by
  by_cases e : j = k
  · subst e; exact hk
  · exact h j (by omega)
theorem refOut_ok (h : ConfD F w s rs l) : Ans (Value.int .i64) 65 #[s.v] w (fst? (outAt l) l.length) := by
  refine c65 ?_
  unfold f65
  refine Lp.mk (fun i w' => ∃ k : Nat, i = k ∧ k ≤ l.length ∧ Ext w w' ∧ ∀ j, j < k → outAt l j = false) (fun i => l.length - i.toNat) ⟨0, rfl, Nat.zero_le _, Ext.refl _, fun j hj => absurd hj (Nat.not_lt_zero _)⟩ ?_
  rintro i w1 K ⟨k, rfl, hk, hE, hall⟩ hK
  by_cases hlt : k < l.length
  · rw [if_pos (by rw [h.n]; omega)]
    refine Jn.dup ?_
    have hout := outAt_eq hlt
    have yes : ∀ w', outAt l k = true → Ext w w' → Ext w w' ∧ ((k : Int) = fst? (outAt l) l.length) := fun w' ho hE => ⟨hE, (fst?_some hlt ho hall).symm⟩
    have no : ∀ w', outAt l k = false → Ext w w' → K (IntKind.i64.wrap ((k : Int) + 1)) w' := fun w' ho hE => by
      rw [h.wr hlt]
      exact hK _ _ ⟨k + 1, rfl, hlt, hE, all_succ hall ho⟩ (by omega)
    refine Dr.mk fun w3 hD _ => ?_
    replace hE := hE.trans hD
    refine (h.ext hE).idx hlt rfl fun p r _ hp hr => ?_
    refine rnl_at one3 hp rfl ?_
    rw [hr.kind]
    by_cases c1 : l[k].kind < 1
    · rw [if_pos c1]; exact iteT rfl (yes _ (by rw [hout]; simp [c1]) hE)
    rw [if_neg c1]
    refine (h.ext hE).idx hlt rfl fun p r _ hp hr => ?_
    refine rnl_at one3 hp rfl ?_
    rw [hr.kind]
    by_cases c2 : 4 < l[k].kind
    · rw [if_pos c2]; exact iteT rfl (yes _ (by rw [hout]; simp [c2]) hE)
    rw [if_neg c2]
    refine (h.ext hE).idx hlt rfl fun p r _ hp hr => ?_
    refine rnl_at one4 hp rfl ?_
    rw [hr.del]
    by_cases c3 : l[k].del = true
    · rw [if_pos c3]; exact iteT rfl (yes _ (by rw [hout]; simp [c3]) hE)
    rw [if_neg c3]
    by_cases c4 : 0 < k
    · rw [if_pos (by omega), h.wr1 hk c4]
      refine (h.ext hE).idx (k := k - 1) (by omega) rfl fun q r' _ hq hr' => ?_
      refine rnl_ldN (x := r') many48 hq rfl rfl ?_
      refine (h.ext hE).idx hlt rfl fun p r _ hp hr => ?_
      refine rnl_ldN (x := r) many48 hp rfl rfl ?_
      refine (less_ok r' r).mono ?_; rintro _ w4 ⟨e4, rfl⟩
      refine ⟨e4, ?_⟩
      rw [hr.kind, hr.name, hr'.kind, hr'.name]
      have hE := hE.trans e4
      have hout' : outAt l k = !kLt l[k - 1].kind l[k - 1].name l[k].kind l[k].name := by
        rw [hout, List.getElem?_eq_getElem (by omega : k - 1 < l.length)]; simp [c1, c2, c3, c4]
      show if (!kLt l[k - 1].kind l[k - 1].name l[k].kind l[k].name) = true then _ else _
      rw [← hout']
      cases ho : outAt l k with
      | true => exact iteT rfl (yes _ ho hE)
      | false => exact iteF (by simp) (no _ ho hE)
    · rw [if_neg (by omega)]
      exact iteF (by simp) (no _ (by rw [hout]; simp [c1, c2, c3, c4]) hE)
  · rw [if_neg (by rw [h.n]; omega)]
    exact ⟨hE, (fst?_none fun j hj => hall j (by omega)).symm⟩
/-- the resource at place i has the key -/
def isAt (l : List DRes) (kind : Int) (name : ByteArray) (i : Nat) : Bool :=
  match l[i]? with
  | none => false
  | some d => decide (d.kind = kind) && decide (d.name = name)
theorem isAt_eq {k : Nat} (hlt : k < l.length) (kind : Int) (name : ByteArray) : isAt l kind name k = (decide (l[k].kind = kind) && decide (l[k].name = name)) := by
  simp only [isAt, List.getElem?_eq_getElem hlt]
theorem find_ok (h : ConfD F w s rs l) (kind : Int) (name : ByteArray) : Ans (Value.int .i64) 66 #[s.v, .int .i64 kind, .string name] w (fst? (isAt l kind name) l.length) := by
  refine c66 ?_
  unfold f66
  refine Lp.mk (fun i w' => ∃ k : Nat, i = k ∧ k ≤ l.length ∧ Ext w w' ∧ ∀ j, j < k → isAt l kind name j = false) (fun i => l.length - i.toNat) ⟨0, rfl, Nat.zero_le _, Ext.refl _, fun j hj => absurd hj (Nat.not_lt_zero _)⟩ ?_
  rintro i w1 K ⟨k, rfl, hk, hE, hall⟩ hK
  by_cases hlt : k < l.length
  · rw [if_pos (by rw [h.n]; omega)]
    refine Jn.dup ?_
    have hout := isAt_eq hlt kind name
    have yes : ∀ w', isAt l kind name k = true → Ext w w' → Ext w w' ∧ ((k : Int) = fst? (isAt l kind name) l.length) := fun w' ho hE => ⟨hE, (fst?_some hlt ho hall).symm⟩
    have no : ∀ w', isAt l kind name k = false → Ext w w' → K (IntKind.i64.wrap ((k : Int) + 1)) w' := fun w' ho hE => by
      rw [h.wr hlt]
      exact hK _ _ ⟨k + 1, rfl, hlt, hE, all_succ hall ho⟩ (by omega)
    refine (h.ext hE).idx hlt rfl fun p r _ hp hr => ?_
    refine rn_at one3 hp rfl ?_
    rw [hr.kind]
    by_cases c1 : l[k].kind = kind
    · rw [if_pos c1]
      refine (h.ext hE).idx hlt rfl fun p r _ hp hr => ?_
      refine rn_at one9 hp rfl ?_
      rw [hr.name]
      by_cases c2 : l[k].name = name
      · exact iteT (by simp [c2]) (yes _ (by rw [hout]; simp [c1, c2]) hE)
      · exact iteF (by simp [c2]) (no _ (by rw [hout]; simp [c1, c2]) hE)
    · rw [if_neg c1]; exact iteF (by simp) (no _ (by rw [hout]; simp [c1]) hE)
  · rw [if_neg (by rw [h.n]; omega)]
    exact ⟨hE, (fst?_none fun j hj => hall j (by omega)).symm⟩
end
/-! ### Keys in maps -/
instance : DecidableEq TKey := fun a b => match a, b with
  | ⟨k, n⟩, ⟨k', n'⟩ => if h : k = k' ∧ n = n' then isTrue (by rw [h.1, h.2]) else isFalse (fun e => h (by cases e; exact ⟨rfl, rfl⟩))
theorem eqKey_run (x y : TKey) (w : World) : (Op.equal 113 x.v y.v).run PP w = .ok (decide (x = y)) w := by
  have h1 : ∀ (w : World) (a b : ByteArray), (Op.equalIn (9998 + 1) 9 (.string a) (.string b)).run PP w = .ok (a == b) w := fun w a b => by
    rw [run_equalIn_string w 9998 9 a b Try.underlying9, beq_toListBytes]
  have hp : ∀ (w : World) (o : Nat) (t : TypeId) (v : Value) (cs : Array Value), One PP t → cs[o]? = some v → (part t cs o).run PP w = .ok v w := fun w o t v cs h hv => part_one h hv
  show (Op.equalIn (9999 + 1) 113 (.agg (Array.mk x.cells)) (.agg (Array.mk y.cells))).run PP w = _
  rw [run_equalIn_struct w 9999 113 _ _ (by kernel_rfl) (by kernel_rfl)]
  have h0 : ∀ (w : World) (a b : Int), (Op.equalIn (9998 + 1) 3 (.int .i64 a) (.int .i64 b)).run PP w = .ok (a == b) w := fun w a b => run_equalIn_int w 9998 3 .i64 .i64 a b Try.underlying3
  have hf : (Program.fieldsOf PP 113).toList = [⟨ "kind", 3, 0, false, "", "turnpike/check", 0⟩, ⟨ "name", 9, 1, false, "", "turnpike/check", 8⟩] := by kernel_rfl
  rw [hf]
  have n1 : ("kind" : String) ≠ "_" := by decide
  have n2 : ("name" : String) ≠ "_" := by decide
  simp only [Op.eqFields, if_pos n1, if_pos n2, Sem.run_bind]
  rw [hp w 0 3 (.int .i64 x.kind) _ one3 rfl, Result.andThen_ok, hp w 0 3 (.int .i64 y.kind) _ one3 rfl, Result.andThen_ok, h0, Result.andThen_ok]
  obtain ⟨k, n⟩ := x
  obtain ⟨k', n'⟩ := y
  by_cases hk : k = k'
  · subst hk
    rw [if_neg (by simp), Sem.run_bind, hp w 1 9 (.string n) _ one9 rfl, Result.andThen_ok, Sem.run_bind, hp w 1 9 (.string n') _ one9 rfl, Result.andThen_ok, Sem.run_bind, h1, Result.andThen_ok, beq_bytes]
    by_cases hn : n = n'
    · subst hn; simp
    · simp [hn]
  · rw [if_pos (by simp [hk])]
    simp [hk]
theorem checkKey_key (e : Bool) (k : TKey) (w : World) : (Instr.checkKey e 10000 113 k.v).run PP w = .ok () w := by
  have hp : ∀ (w : World) (o : Nat) (t : TypeId) (v : Value) (cs : Array Value), One PP t → cs[o]? = some v → (part t cs o).run PP w = .ok v w := fun w o t v cs h hv => part_one h hv
  have h1 : ∀ (n : Nat) (a : ByteArray) (w : World), (Instr.checkKey e (n + 1) 9 (.string a)).run PP w = .ok () w := fun n a w => checkKey_string Try.underlying9 e a n w
  have h0 : ∀ (n : Nat) (a : Int) (w : World), (Instr.checkKey e (n + 1) 3 (.int .i64 a)).run PP w = .ok () w := fun n a w => by simp [Instr.checkKey, run_underlying Try.underlying3]
  show (Instr.checkKey e (9998 + 1 + 1) 113 (.agg (Array.mk k.cells))).run PP w = _
  rw [Instr.checkKey]
  have n1 : ("kind" : String) ≠ "_" := by decide
  have n2 : ("name" : String) ≠ "_" := by decide
  simp only [Sem.run_bind, run_underlying Try.underlying113, Result.andThen_ok]
  have p0 := hp w 0 3 (.int .i64 k.kind) (Array.mk k.cells) one3 rfl
  have p1 := hp w 1 9 (.string k.name) (Array.mk k.cells) one9 rfl
  simp only [List.forIn_toArray, List.forIn_cons, List.forIn_nil, if_pos n1, if_pos n2, Sem.run_bind, p0, p1, Result.andThen_ok, h0, h1, Sem.run_pure]
theorem keyT113 : KeyT PP 113 TKey.v where
  chk e k w := checkKey_key e k w
  find k ks es w he := by
    cases es with
    | nil =>
      cases ks with
      | nil => simp [Instr.findKey, run_underlying Try.underlying113, Instr.findNow, Eng.look]
      | cons _ _ => cases he
    | cons e es =>
      cases ks with
      | nil => cases he
      | cons k' ks =>
        have hn : ∀ d, Instr.sameNow (.struct d) k.v e.key = none := fun d => by simp [Instr.sameNow]
        have h2 := findAsking_run (P := PP) (kt := 113) (ek := TKey.v) (fun a b w => eqKey_run a b w) k w (k' :: ks) (e :: es) 0 he
        simp only [Instr.findKey, Sem.run_bind, run_underlying Try.underlying113, Result.andThen_ok, Instr.findNow, hn]
        exact h2
  same k := by
    have : ∀ n, Instr.sameBits (n + 1 + 1) k.v k.v = true := fun n => by
      show Instr.sameBits (n + 1 + 1) (.agg (Array.mk k.cells)) (.agg (Array.mk k.cells)) = true
      simp [Instr.sameBits, TKey.cells, beq_bytes]
    exact this 9998
  inj a b h := by
    obtain ⟨k, n⟩ := a; obtain ⟨k', n'⟩ := b
    simp only [TKey.v, TKey.cells, Value.agg.injEq, Array.mk.injEq, List.cons.injEq, Value.int.injEq, Value.string.injEq, and_true, true_and] at h
    obtain ⟨rfl, rfl⟩ := h; rfl
end Go.Proofs.Ytdoeegfcmbcbkaa.Ct

/- Contracts: what leads nowhere, in both packages for layer 14. -/
namespace Go.Proofs.Ytdoeegfcmbcbkaa.Ct
open Go Go.Eng Tr
set_option linter.unusedVariables false
set_option maxRecDepth 100000

theorem mapT115 : MapT PP 115 113 4 TKey.v Value.bool false := ⟨Try.underlying115, keyT113, by kernel_rfl⟩
theorem mapT149 : MapT PP 149 9 4 Value.string Value.bool false := ⟨Try.underlying149, keyT_string Try.underlying9, by kernel_rfl⟩
def nil? : ByteArray := ⟨#[]⟩
/-- a target that leads nowhere -/
def badT (has : Int → ByteArray → Bool) (ts : List TTarget) (i : Nat) : Bool :=
  match ts[i]? with
  | none => false
  | some t => if t.Service = ⟨#[]⟩ then !has 2 t.Split else !has 1 t.Service
/-- a rule that leads nowhere -/
def badR (has : Int → ByteArray → Bool) (rs : List TRule) (i : Nat) : Bool :=
  match rs[i]? with
  | none => false
  | some r => !has 2 r.Split
def line? (i : Int) : Int := if i < 0 then -1 else i + 1
/-- the line of a resource that leads nowhere, or -1 -/
def dang (has : Int → ByteArray → Bool) (d : DRes) : Int :=
  if d.kind = 2 then line? (fst? (badT has d.targets) d.targets.length)
  else if d.kind = 3 then line? (fst? (badR has d.rules) d.rules.length)
  else if d.kind = 4 then (if has 3 d.route then -1 else 0)
  else -1
theorem badT_eq {has : Int → ByteArray → Bool} {ts : List TTarget} {k : Nat} (hlt : k < ts.length) : badT has ts k = if ts[k].Service = ⟨#[]⟩ then !has 2 ts[k].Split else !has 1 ts[k].Service := by
  simp only [badT, List.getElem?_eq_getElem hlt]
theorem badR_eq {has : Int → ByteArray → Bool} {ts : List TRule} {k : Nat} (hlt : k < ts.length) : badR has ts k = !has 2 ts[k].Split := by
  simp only [badR, List.getElem?_eq_getElem hlt]
theorem line_some {p : Nat → Bool} {n k : Nat} (hk : k < n) (hp : p k = true) (hj : ∀ j, j < k → p j = false) : line? (fst? p n) = ((k + 1 : Nat) : Int) := by
  rw [fst?_some hk hp hj]; unfold line?; rw [if_neg (by omega)]; omega
theorem line_none {p : Nat → Bool} {n : Nat} (hj : ∀ j, j < n → p j = false) : line? (fst? p n) = -1 := by
  rw [fst?_none hj]; rfl
section
variable {w : World} {F G : Nat → Prop} {s : Sl} {rs : List TResource} {l : List DRes}
theorem dangling_ok {r : TResource} {d : DRes} (h : ResD F w r d) {b : Nat} {m : List (TKey × Bool)} (hm : Mp TKey.v Value.bool w b m) {has : Int → ByteArray → Bool} (hh : ∀ k n, (mget m ⟨k, n⟩).getD false = has k n) :
    Ans (Value.int .i64) 94 #[r.v, .map (some b)] w (dang has d) := by
  refine c94 ?_
  unfold f94
  refine New.mk fun b2 w1 e1 h2 _ _ => ?_
  refine Jn.dup ?_
  refine rn_blk one3 h2 rfl rfl ?_
  rw [h.kind]
  have get : ∀ {w' : World} {K : Bool → World → Prop} (k : Int) (n : ByteArray), Ext w w' → K (has k n) w' → Rn PP Value.bool (Instr.lookup 115 (.map (some b)) (TKey.v ⟨k, n⟩) false) w' K := fun k n e hK =>
    rn_get mapT115 (hm.ext e) (by rw [hh]; exact hK)
  by_cases c2 : d.kind = 2
  · rw [if_pos c2]
    refine rn_blk one45 h2 rfl rfl ?_
    have ht := h.targets
    have hd : dang has d = line? (fst? (badT has d.targets) d.targets.length) := by unfold dang; rw [if_pos c2]
    refine Lp.mk (fun i w' => ∃ k : Nat, i = k ∧ k ≤ d.targets.length ∧ Ext w w' ∧ ∀ j, j < k → badT has d.targets j = false) (fun i => d.targets.length - i.toNat) ⟨0, rfl, Nat.zero_le _, e1, fun j hj => absurd hj (Nat.not_lt_zero _)⟩ ?_
    rintro i w1 K ⟨k, rfl, hk, hE, hall⟩ hK
    by_cases hlt : k < d.targets.length
    · rw [if_pos (by rw [ht.len]; omega)]
      refine rnp_idx sl45 (ht.ext hE) hlt rfl fun p _ hp => ?_
      refine rn_ldN (x := d.targets[k]) many84 hp rfl rfl ?_
      refine New.var (TTarget.cells d.targets[k]) sz84 rfl (oc_target _) rfl fun b6 w2 e2 hb hn => ?_
      replace hE := hE.trans e2
      refine Jn.dup ?_
      have yes : ∀ w', badT has d.targets k = true → Ext w w' → Ext w w' ∧ (IntKind.i64.wrap ((k : Int) + 1) = dang has d) := fun w' ho hE => ⟨hE, by rw [hd, ht.wr hlt, line_some hlt ho hall]⟩
      have no : ∀ w', badT has d.targets k = false → Ext w w' → K (IntKind.i64.wrap ((k : Int) + 1)) w' := fun w' ho hE => by
        rw [ht.wr hlt]; exact hK _ _ ⟨k + 1, rfl, hlt, hE, all_succ hall ho⟩ (by omega)
      have fin : ∀ (x : Bool) w', badT has d.targets k = x → Ext w w' → if x = true then (Ext w w' ∧ (IntKind.i64.wrap ((k : Int) + 1) = dang has d)) else K (IntKind.i64.wrap ((k : Int) + 1)) w' := fun x w' ho hE => by
        cases x with
        | true => exact iteT rfl (yes _ ho hE)
        | false => exact iteF (by simp) (no _ ho hE)
      refine rn_blk one9 hb rfl rfl ?_
      by_cases c : d.targets[k].Service = ⟨#[]⟩
      · rw [if_neg (fun h => h c)]
        refine rn_blk one9 hb rfl rfl ?_
        rw [if_pos c]
        refine rn_blk one9 hb rfl rfl ?_
        refine get _ _ hE ?_
        exact fin _ _ (by rw [badT_eq hlt, if_pos c]) hE
      · rw [if_pos c]
        refine rn_blk one9 hb rfl rfl ?_
        refine get _ _ hE ?_
        cases hx : has 1 d.targets[k].Service with
        | false => exact iteT rfl (fin _ _ (by rw [badT_eq hlt, if_neg c, hx]; rfl) hE)
        | true =>
          refine iteF (by simp) ?_
          refine rn_blk one9 hb rfl rfl ?_
          rw [if_neg c]
          exact fin _ _ (by rw [badT_eq hlt, if_neg c, hx]; rfl) hE
    · rw [if_neg (by rw [ht.len]; omega)]
      exact ⟨hE, by rw [hd, line_none fun j hj => hall j (by omega)]⟩
  · rw [if_neg c2]
    by_cases c3 : d.kind = 3
    · rw [if_pos c3]
      refine rn_blk one46 h2 rfl rfl ?_
      have ht := h.rules
      have hd : dang has d = line? (fst? (badR has d.rules) d.rules.length) := by unfold dang; rw [if_neg c2, if_pos c3]
      refine Lp.mk (fun i w' => ∃ k : Nat, i = k ∧ k ≤ d.rules.length ∧ Ext w w' ∧ ∀ j, j < k → badR has d.rules j = false) (fun i => d.rules.length - i.toNat) ⟨0, rfl, Nat.zero_le _, e1, fun j hj => absurd hj (Nat.not_lt_zero _)⟩ ?_
      rintro i w1 K ⟨k, rfl, hk, hE, hall⟩ hK
      by_cases hlt : k < d.rules.length
      · rw [if_pos (by rw [ht.len]; omega)]
        refine rnp_idx sl46 (ht.ext hE) hlt rfl fun p _ hp => ?_
        refine rn_ldN (x := d.rules[k]) many91 hp rfl rfl ?_
        refine New.var (TRule.cells d.rules[k]) sz91 rfl (oc_rule _) rfl fun b6 w2 e2 hb hn => ?_
        replace hE := hE.trans e2
        refine rn_blk one9 hb rfl rfl ?_
        refine get _ _ hE ?_
        have hb := badR_eq (has := has) hlt
        cases hx : has 2 d.rules[k].Split with
        | false => exact iteT rfl ⟨hE, by rw [hd, ht.wr hlt, line_some hlt (by rw [hb, hx]; rfl) hall]⟩
        | true =>
          refine iteF (by simp) ?_
          rw [ht.wr hlt]
          exact hK _ _ ⟨k + 1, rfl, hlt, hE, all_succ hall (by rw [hb, hx]; rfl)⟩ (by omega)
      · rw [if_neg (by rw [ht.len]; omega)]
        exact ⟨hE, by rw [hd, line_none fun j hj => hall j (by omega)]⟩
    · rw [if_neg c3]
      by_cases c4 : d.kind = 4
      · rw [if_pos c4]
        have hd : dang has d = if has 3 d.route then -1 else 0 := by unfold dang; rw [if_neg c2, if_neg c3, if_pos c4]
        refine rn_blk one9 h2 rfl rfl ?_
        rw [h.route]
        refine get _ _ e1 ?_
        cases hx : has 3 d.route with
        | false => exact iteT rfl ⟨e1, by rw [hd, hx]; rfl⟩
        | true => exact iteF (by simp) ⟨e1, by rw [hd, hx]; rfl⟩
      · rw [if_neg c4]
        exact ⟨e1, by unfold dang; rw [if_neg c2, if_neg c3, if_neg c4]⟩
/-- the key stands in the list -/
def has (l : List DRes) (kind : Int) (name : ByteArray) : Bool := decide (0 ≤ fst? (isAt l kind name) l.length)
theorem has_neg {l : List DRes} {kind : Int} {name : ByteArray} : decide (fst? (isAt l kind name) l.length < 0) = !has l kind name := by
  unfold has; by_cases h : 0 ≤ fst? (isAt l kind name) l.length <;> simp [h] <;> omega
theorem refDangling_ok (hc : ConfD F w s rs l) {r : TResource} {d : DRes} (h : ResD F w r d) : Ans (Value.int .i64) 101 #[s.v, r.v] w (dang (has l) d) := by
  refine c101 ?_
  unfold f101
  refine New.mk fun b3 w1 e1 h2 _ _ => ?_
  have get : ∀ {w' : World} {K : Int → World → Prop} (k : Int) (n : ByteArray), Ext w w' → (∀ w'', Ext w w'' → Ext w' w'' → K (fst? (isAt l k n) l.length) w'') → Cal PP (Value.int .i64) 66 #[s.v, .int .i64 k, .string n] w' K := fun k n e hK =>
    (find_ok (hc.ext e) k n).mono fun x w'' ⟨e2, hx⟩ => by subst hx; exact hK _ (e.trans e2) e2
  have D2 : d.kind = 2 → dang (has l) d = line? (fst? (badT (has l) d.targets) d.targets.length) := fun c => by unfold dang; rw [if_pos c]
  have D3 : d.kind = 3 → dang (has l) d = line? (fst? (badR (has l) d.rules) d.rules.length) := fun c => by unfold dang; rw [if_neg (by omega), if_pos c]
  have D4 : d.kind = 4 → dang (has l) d = if has l 3 d.route then -1 else 0 := fun c => by unfold dang; rw [if_neg (by omega), if_neg (by omega), if_pos c]
  have D0 : d.kind ≠ 2 → d.kind ≠ 3 → d.kind ≠ 4 → dang (has l) d = -1 := fun a b c => by unfold dang; rw [if_neg a, if_neg b, if_neg c]
  refine ⟨fun _ w' => Ext w w' ∧ Ext w1 w' ∧ (d.kind = 2 → dang (has l) d = -1), ?_, ?_⟩
  · refine rn_blk one3 h2 rfl rfl ?_
    rw [h.kind]
    by_cases c2 : d.kind = 2
    · rw [if_pos c2]
      have ht := h.targets
      refine Lp.mk (fun i w' => ∃ k : Nat, i = k ∧ k ≤ d.targets.length ∧ Ext w w' ∧ Ext w1 w' ∧ ∀ j, j < k → badT (has l) d.targets j = false) (fun i => d.targets.length - i.toNat) ⟨0, rfl, Nat.zero_le _, e1, Ext.refl _, fun j hj => absurd hj (Nat.not_lt_zero _)⟩ ?_
      rintro i w2 K ⟨k, rfl, hk, hE, hE1, hall⟩ hK
      replace h2 := h2.ext hE1
      refine rn_blk one45 h2 rfl rfl ?_
      by_cases hlt : k < d.targets.length
      · rw [if_pos (by rw [ht.len]; omega)]
        refine rn_blk one45 h2 rfl rfl ?_
        refine rnp_idx sl45 (ht.ext hE) hlt rfl fun p _ hp => ?_
        refine rn_ldN (x := d.targets[k]) many84 hp rfl rfl ?_
        refine New.var (TTarget.cells d.targets[k]) sz84 rfl (oc_target _) rfl fun b6 w3 e2 hb hn => ?_
        replace hE := hE.trans e2; replace hE1 := hE1.trans e2
        refine Jn.dup ?_
        have fin : ∀ (x : Bool) w', badT (has l) d.targets k = x → Ext w w' → Ext w1 w' → if x = true then (Ext w w' ∧ (IntKind.i64.wrap ((k : Int) + 1) = dang (has l) d)) else K (IntKind.i64.wrap ((k : Int) + 1)) w' := fun x w' ho hE hE1 => by
          cases x with
          | true => exact iteT rfl ⟨hE, by rw [D2 c2, ht.wr hlt, line_some hlt ho hall]⟩
          | false => exact iteF (by simp) (by rw [ht.wr hlt]; exact hK _ _ ⟨k + 1, rfl, hlt, hE, hE1, all_succ hall ho⟩ (by omega))
        refine rn_blk one9 hb rfl rfl ?_
        by_cases c : d.targets[k].Service = ⟨#[]⟩
        · rw [if_neg (fun h => h c)]
          refine rn_blk one9 hb rfl rfl ?_
          rw [if_pos c]
          refine rn_blk one9 hb rfl rfl ?_
          refine get _ _ hE fun w4 e4 e4' => ?_
          exact fin _ _ (by rw [badT_eq hlt, if_pos c, has_neg]) e4 (hE1.trans e4')
        · rw [if_pos c]
          refine rn_blk one9 hb rfl rfl ?_
          refine get _ _ hE fun w4 e4 e4' => ?_
          have hn := has_neg (l := l) (kind := 1) (name := d.targets[k].Service)
          cases hx : has l 1 d.targets[k].Service with
          | false =>
            rw [hx] at hn
            exact iteT (by simpa using hn) (fin _ _ (by rw [badT_eq hlt, if_neg c, hx]; rfl) e4 (hE1.trans e4'))
          | true =>
            rw [hx] at hn
            refine iteF (by simpa using hn) ?_
            refine rn_blk one9 (hb.ext e4') rfl rfl ?_
            exact iteF c (fin _ _ (by rw [badT_eq hlt, if_neg c, hx]; rfl) e4 (hE1.trans e4'))
      · rw [if_neg (by rw [ht.len]; omega)]
        exact ⟨hE, hE1, fun c => by rw [D2 c, line_none fun j hj => hall j (by omega)]⟩
    · rw [if_neg c2]
      exact ⟨e1, Ext.refl _, fun c => absurd c c2⟩
  rintro _ w2 ⟨hE, hE1, N2⟩
  refine ⟨fun _ w' => Ext w w' ∧ Ext w1 w' ∧ (d.kind = 3 → dang (has l) d = -1), ?_, ?_⟩
  · have h2 := h2.ext hE1
    refine rn_blk one3 h2 rfl rfl ?_
    rw [h.kind]
    by_cases c3 : d.kind = 3
    · rw [if_pos c3]
      have ht := h.rules
      refine Lp.mk (fun i w' => ∃ k : Nat, i = k ∧ k ≤ d.rules.length ∧ Ext w w' ∧ Ext w2 w' ∧ ∀ j, j < k → badR (has l) d.rules j = false) (fun i => d.rules.length - i.toNat) ⟨0, rfl, Nat.zero_le _, hE, Ext.refl _, fun j hj => absurd hj (Nat.not_lt_zero _)⟩ ?_
      rintro i w3 K ⟨k, rfl, hk, hE, hE2, hall⟩ hK
      replace h2 := h2.ext hE2
      refine rn_blk one46 h2 rfl rfl ?_
      by_cases hlt : k < d.rules.length
      · rw [if_pos (by rw [ht.len]; omega)]
        refine rn_blk one46 h2 rfl rfl ?_
        refine rnp_idx sl46 (ht.ext hE) hlt rfl fun p _ hp => ?_
        refine rn_at one9 hp rfl ?_
        refine get _ _ hE fun w4 e4 e4' => ?_
        have hn := has_neg (l := l) (kind := 2) (name := d.rules[k].Split)
        cases hx : has l 2 d.rules[k].Split with
        | false =>
          rw [hx] at hn
          exact iteT (by simpa using hn) ⟨e4, by rw [D3 c3, ht.wr hlt, line_some hlt (by rw [badR_eq hlt, hx]; rfl) hall]⟩
        | true =>
          rw [hx] at hn
          refine iteF (by simpa using hn) ?_
          rw [ht.wr hlt]
          exact hK _ _ ⟨k + 1, rfl, hlt, e4, hE2.trans e4', all_succ hall (by rw [badR_eq hlt, hx]; rfl)⟩ (by omega)
      · rw [if_neg (by rw [ht.len]; omega)]
        exact ⟨hE, hE1.trans hE2, fun c => by rw [D3 c, line_none fun j hj => hall j (by omega)]⟩
    · rw [if_neg c3]
      exact ⟨hE, hE1, fun c => absurd c c3⟩
  rintro _ w3 ⟨hE, hE1, N3⟩
  refine Jn.dup ?_
  have h2 := h2.ext hE1
  refine rn_blk one3 h2 rfl rfl ?_
  rw [h.kind]
  by_cases c4 : d.kind = 4
  · rw [if_pos c4]
    refine rn_blk one9 h2 rfl rfl ?_
    rw [h.route]
    refine get _ _ hE fun w4 e4 e4' => ?_
    have hn := has_neg (l := l) (kind := 3) (name := d.route)
    cases hx : has l 3 d.route with
    | false => rw [hx] at hn; exact iteT (by simpa using hn) ⟨e4, by rw [D4 c4, hx]; rfl⟩
    | true => rw [hx] at hn; exact iteF (by simpa using hn) ⟨e4, by rw [D4 c4, hx]; rfl⟩
  · rw [if_neg c4]
    refine iteF (by simp) ⟨hE, ?_⟩
    by_cases c2 : d.kind = 2
    · exact (N2 c2).symm
    · by_cases c3 : d.kind = 3
      · exact (N3 c3).symm
      · exact (D0 c2 c3 c4).symm
end
end Go.Proofs.Ytdoeegfcmbcbkaa.Ct

/- Contracts: weights, in both packages for layer 14. -/
namespace Go.Proofs.Ytdoeegfcmbcbkaa.Ct
open Go Go.Eng Tr
set_option linter.unusedVariables false
set_option maxRecDepth 100000

def okW (y : Nat) : Bool := fGe y 0 && fLe y 4636737291354636288
def fsum (ts : List TTarget) : Option Nat := ts.foldl (fun o t => oadd o t.Weight) (some 0)
theorem fsum_succ {ts : List TTarget} {k : Nat} (h : k < ts.length) : fsum (ts.take (k + 1)) = oadd (fsum (ts.take k)) ts[k].Weight := by
  unfold fsum; rw [List.take_add_one, List.getElem?_eq_getElem h, List.foldl_append]; rfl
theorem any_succ {α : Type} {p : α → Bool} {ts : List α} {k : Nat} (h : k < ts.length) : (ts.take (k + 1)).any p = ((ts.take k).any p || p ts[k]) := by
  rw [List.take_add_one, List.getElem?_eq_getElem h, List.any_append]; simp
def badW (t : TTarget) : Bool := !okW t.Weight
def heavyS (ts : List TTarget) : Bool := ts.any badW || !(oGe (fsum ts) 4636737291287527424 && oLe (fsum ts) 4636737291421745152)
section
variable {w : World} {F G : Nat → Prop} {s : Sl} {rs : List TResource} {l : List DRes}
theorem heavy_ok {r : TResource} {d : DRes} (h : ResD F w r d) : Ans Value.bool 95 #[r.v] w (heavyS d.targets) := by
  refine c95 ?_
  unfold f95
  refine New.mk fun b1 w1 e1 h1 _ _ => ?_
  refine rn_blk one45 h1 rfl rfl ?_
  have ht := h.targets
  refine Lp.mk (fun (x : Nat × Int) w' => ∃ k : Nat, x.2 = k ∧ k ≤ d.targets.length ∧ Ext w w' ∧ Fl (fsum (d.targets.take k)) x.1 ∧ (d.targets.take k).any badW = false) (fun x => d.targets.length - x.2.toNat) ⟨0, rfl, Nat.zero_le _, e1, rfl, rfl⟩ ?_
  rintro ⟨x, i⟩ w2 K ⟨k, rfl, hk, hE, hf, hall⟩ hK
  dsimp only at hf ⊢
  by_cases hlt : k < d.targets.length
  · rw [if_pos (by rw [ht.len]; omega)]
    refine rnp_idx sl45 (ht.ext hE) hlt rfl fun p _ hp => ?_
    refine rn_ldN (x := d.targets[k]) many84 hp rfl rfl ?_
    refine New.var (TTarget.cells d.targets[k]) sz84 rfl (oc_target _) rfl fun b6 w3 e2 hb hn => ?_
    replace hE := hE.trans e2
    refine ⟨fun x w' => x = badW d.targets[k] ∧ Ext w w' ∧ Blk w' b6 84 (TTarget.cells d.targets[k]), ?_, ?_⟩
    · refine rn_blk one30 hb rfl rfl ?_
      cases c : fGe d.targets[k].Weight 0 with
      | true =>
        refine iteT rfl ?_
        refine rn_blk one30 hb rfl rfl ?_
        exact ⟨by simp [badW, okW, c], hE, hb⟩
      | false => exact iteF (by simp) ⟨by simp [badW, okW, c], hE, hb⟩
    rintro _ w4 ⟨rfl, hE, hb⟩
    cases c : badW d.targets[k] with
    | true =>
      refine iteT rfl ⟨hE, ?_⟩
      have : d.targets.any badW = true := List.any_eq_true.2 ⟨_, List.getElem_mem hlt, c⟩
      simp [heavyS, this]
    | false =>
      refine iteF (by simp) ?_
      refine rn_blk one30 hb rfl rfl ?_
      refine rn_add hf fun v w5 hv e5 _ => ?_
      rw [ht.wr hlt]
      exact hK _ _ ⟨k + 1, rfl, hlt, hE.trans e5, by rw [fsum_succ hlt]; exact hv, by rw [any_succ hlt, hall, c]; rfl⟩ (by dsimp only; omega)
  · rw [if_neg (by rw [ht.len]; omega)]
    obtain rfl : k = d.targets.length := by omega
    rw [List.take_length] at hf hall
    refine Jn.dup ?_
    rw [hf.ge, hf.le]
    cases c : oGe (fsum d.targets) 4636737291287527424 with
    | true => exact iteT rfl ⟨hE, by simp [heavyS, hall, c]⟩
    | false => exact iteF (by simp) ⟨hE, by simp [heavyS, hall, c]⟩
end
end Go.Proofs.Ytdoeegfcmbcbkaa.Ct

/- The plain law of depths: how deep a split leads, counted up to a bound. -/
namespace Go.Proofs.Ytdoeegfcmbcbkaa.Ct
open Go Go.Eng Tr
set_option linter.unusedVariables false

def maxl : List Nat → Nat
  | [] => 0
  | x :: xs => max x (maxl xs)
theorem maxl_app (xs : List Nat) (x : Nat) : maxl (xs ++ [x]) = max (maxl xs) x := by
  induction xs with
  | nil => simp [maxl]
  | cons y xs ih => simp only [List.cons_append, maxl, ih]; omega
theorem le_maxl {xs : List Nat} {x : Nat} (h : x ∈ xs) : x ≤ maxl xs := by
  induction xs with
  | nil => cases h
  | cons y xs ih =>
    simp only [maxl]
    rcases List.mem_cons.1 h with rfl | h
    · omega
    · have := ih h; omega
theorem maxl_le {xs : List Nat} {b : Nat} (h : ∀ x ∈ xs, x ≤ b) : maxl xs ≤ b := by
  induction xs with
  | nil => exact Nat.zero_le _
  | cons y xs ih =>
    simp only [maxl]
    have := h y (by simp); have := ih (fun x hx => h x (by simp [hx])); omega
theorem min_maxl {α : Type} (f : α → Nat) (b : Nat) : ∀ xs : List α, min (maxl (xs.map f)) b = maxl (xs.map fun x => min (f x) b)
  | [] => by simp [maxl]
  | x :: xs => by
    have := min_maxl f b xs
    simp only [List.map_cons, maxl]; omega
/-- the splits that a split leads to -/
def kidsOf (d : DRes) : List ByteArray := (d.targets.filter fun t => decide (t.Service = ⟨#[]⟩)).map (·.Split)
def splitOf (l : List DRes) (n : ByteArray) : Option DRes := l.find? fun d => decide (d.kind = 2) && decide (d.name = n)
def kids (l : List DRes) (n : ByteArray) : List ByteArray := match splitOf l n with
  | none => []
  | some d => kidsOf d
/-- how deep a split leads, counted up to k + 1 -/
def hd (l : List DRes) : Nat → ByteArray → Nat
  | 0, _ => 1
  | k + 1, n => 1 + maxl ((kids l n).map (hd l k))
theorem hd_bounds (l : List DRes) : ∀ k n, 1 ≤ hd l k n ∧ hd l k n ≤ k + 1
  | 0, n => ⟨Nat.le_refl _, Nat.le_refl _⟩
  | k + 1, n => by
    have : maxl ((kids l n).map (hd l k)) ≤ k + 1 := maxl_le fun x hx => by
      obtain ⟨y, _, rfl⟩ := List.mem_map.1 hx; exact (hd_bounds l k y).2
    simp only [hd]; omega
theorem hd_step (l : List DRes) : ∀ k n, min (hd l (k + 1) n) (k + 1) = hd l k n
  | 0, n => by have := (hd_bounds l 1 n).1; simp only [hd] at this ⊢; omega
  | k + 1, n => by
    have h1 : hd l (k + 1 + 1) n = 1 + maxl ((kids l n).map (hd l (k + 1))) := rfl
    have h2 : hd l (k + 1) n = 1 + maxl ((kids l n).map (hd l k)) := rfl
    have h3 := min_maxl (hd l (k + 1)) (k + 1) (kids l n)
    have h4 : (fun x => min (hd l (k + 1) x) (k + 1)) = hd l k := funext (hd_step l k)
    rw [h4] at h3
    rw [h1, h2, ← h3]; omega
/-- one split leads to another -/
inductive Rch (l : List DRes) : ByteArray → ByteArray → Prop
  | one {a b} : b ∈ kids l a → Rch l a b
  | step {a b c} : b ∈ kids l a → Rch l b c → Rch l a c
theorem Rch.snoc {l : List DRes} {a b c : ByteArray} (h : Rch l a b) (k : c ∈ kids l b) : Rch l a c := by
  induction h with
  | one h => exact .step h (.one k)
  | step h _ ih => exact .step h (ih k)
theorem hd_cyc {l : List DRes} {t : ByteArray} (h0 : Rch l t t) : ∀ k y, (Rch l t y ∨ y = t) → Rch l y t → hd l k y = k + 1
  | 0, _, _, _ => rfl
  | k + 1, y, hy, h => by
    have up : ∀ b, b ∈ kids l y → hd l k b = k + 1 → hd l (k + 1) y = k + 2 := fun b hb he => by
      have h1 : hd l k b ≤ maxl ((kids l y).map (hd l k)) := le_maxl (List.mem_map.2 ⟨b, hb, rfl⟩)
      have h2 := (hd_bounds l (k + 1) y).2
      have h3 : hd l (k + 1) y = 1 + maxl ((kids l y).map (hd l k)) := rfl
      omega
    cases h with
    | one hb => exact up _ hb (hd_cyc h0 k t (.inr rfl) h0)
    | step hb hr =>
      refine up _ hb (hd_cyc h0 k _ (.inl ?_) hr)
      rcases hy with hy | rfl
      · exact hy.snoc hb
      · exact .one hb
/-- what the splits that one leads to come to -/
theorem hd_min (l : List DRes) (n : ByteArray) : min (maxl ((kids l n).map (hd l 8)) + 1) 9 = hd l 8 n := by
  have := hd_step l 8 n
  have h : hd l (8 + 1) n = 1 + maxl ((kids l n).map (hd l 8)) := rfl
  omega
theorem cnt_le {α : Type} {p q : α → Bool} : ∀ l : List α, (∀ x ∈ l, q x = true → p x = true) → l.countP q ≤ l.countP p
  | [], _ => Nat.le_refl _
  | x :: l, h => by
    have := cnt_le l fun y hy => h y (by simp [hy])
    have h0 := h x (by simp)
    simp only [List.countP_cons]
    cases hq : q x <;> cases hp : p x <;> simp_all <;> omega
theorem cnt_lt {α : Type} {p q : α → Bool} : ∀ l : List α, (∀ x ∈ l, q x = true → p x = true) → (∃ x ∈ l, p x = true ∧ q x = false) → l.countP q < l.countP p
  | [], _, ⟨x, h, _⟩ => by cases h
  | x :: l, h, ⟨y, hy, h1, h2⟩ => by
    have hle := cnt_le l fun y hy => h y (by simp [hy])
    have h0 := h x (by simp)
    simp only [List.countP_cons]
    rcases List.mem_cons.1 hy with rfl | hy
    · simp [h1, h2]; omega
    · have := cnt_lt l (fun y hy => h y (by simp [hy])) ⟨y, hy, h1, h2⟩
      cases hq : q x <;> cases hp : p x <;> simp_all <;> omega
end Go.Proofs.Ytdoeegfcmbcbkaa.Ct

/- Contracts: how deep a split leads (the program's package for layer 14: each name looked at once). -/
namespace Go.Proofs.Ytdoeegfcmbcbkaa.Ct
open Go Go.Eng Tr
set_option linter.unusedVariables false
set_option maxRecDepth 100000

theorem field_targets (r : TResource) (w : World) : (Instr.field 48 (TResource.v r) 3).run PP w = .ok (Sl.v r.Targets) w := by
  simp only [Instr.field, Sem.run_bind, run_underlying Try.underlying48, Result.andThen_ok]
  exact part_one (cs := Array.mk r.cells) (o := 3) one45 rfl
theorem mapT146 : MapT PP 146 9 3 Value.string (Value.int .i64) 0 := ⟨Try.underlying146, keyT_string Try.underlying9, by kernel_rfl⟩
theorem mapT145 : MapT PP 145 9 48 Value.string TResource.v ⟨0, ⟨#[]⟩, Sl.nil, Sl.nil, ⟨#[]⟩, Sl.nil, ⟨#[]⟩, false⟩ := ⟨Try.underlying145, keyT_string Try.underlying9, by kernel_rfl⟩
def kt (ts : List TTarget) : List ByteArray := (ts.filter fun t => decide (t.Service = ⟨#[]⟩)).map (·.Split)
theorem kt_yes {ts : List TTarget} {k : Nat} (h : k < ts.length) (hs : ts[k].Service = ⟨#[]⟩) : kt (ts.take (k + 1)) = kt (ts.take k) ++ [ts[k].Split] := by
  unfold kt; rw [List.take_add_one, List.getElem?_eq_getElem h, List.filter_append, List.map_append]; simp [hs]
theorem kt_no {ts : List TTarget} {k : Nat} (h : k < ts.length) (hs : ts[k].Service ≠ ⟨#[]⟩) : kt (ts.take (k + 1)) = kt (ts.take k) := by
  unfold kt; rw [List.take_add_one, List.getElem?_eq_getElem h, List.filter_append, List.map_append]; simp [hs]
theorem mem_kt {ts : List TTarget} {k : Nat} (h : k < ts.length) (hs : ts[k].Service = ⟨#[]⟩) : ts[k].Split ∈ kt ts := by
  unfold kt; exact List.mem_map.2 ⟨ts[k], List.mem_filter.2 ⟨List.getElem_mem h, by simp [hs]⟩, rfl⟩
def Inv (l : List DRes) (m : List (ByteArray × Int)) (stack : ByteArray → Prop) : Prop := ∀ n v, mget m n = some v → (v = -1 ∧ stack n) ∨ v = (hd l 8 n : Nat)
def unk (m : List (ByteArray × Int)) (d : DRes) : Bool := decide (d.kind = 2) && (mget m d.name).isNone
section
variable {F : Nat → Prop} {s : Sl} {rs : List TResource} {l : List DRes} {b30 b31 b33 : Nat} {ms : List (ByteArray × TResource)}
/-- what the search stands on -/
structure DepW (F : Nat → Prop) (s : Sl) (rs : List TResource) (l : List DRes) (b30 b31 b33 : Nat) (ms : List (ByteArray × TResource)) (w : World) : Prop where
  conf : ConfD F w s rs l
  off : ∀ b, F b → b ≠ b31
  blk : Blk w b33 148 [.map (some b30), .map (some b31)]
  maps : Mp Value.string TResource.v w b30 ms
  n33 : b33 ≠ b31
  n30 : b30 ≠ b31
theorem DepW.chg {w w' : World} (h : DepW F s rs l b30 b31 b33 ms w) (k : Chg (fun b => b = b31) w w') : DepW F s rs l b30 b31 b33 ms w' :=
  ⟨h.conf.chg k (fun b hb _ => h.off b hb), h.off, h.blk.chg k h.n33, h.maps.chg k h.n30, h.n33, h.n30⟩
theorem of_dep (hms : ∀ n d, splitOf l n = some d → ∃ i, ∃ h : i < rs.length, l[i]? = some d ∧ mget ms n = some rs[i])
    (hnd : ∀ n d t, splitOf l n = some d → t ∈ kidsOf d → (splitOf l t).isSome = true) : ∀ (N : Nat) (w : World) (m : List (ByteArray × Int)) (stack : ByteArray → Prop) (x : ByteArray),
    l.countP (unk m) ≤ N → DepW F s rs l b30 b31 b33 ms w → Mp Value.string (Value.int .i64) w b31 m → Inv l m stack → (∀ n, stack n → Rch l n x) → (splitOf l x).isSome = true →
    Cal PP (Value.int .i64) 96 #[.pointer (some ⟨b33, 0, none⟩), .string x] w fun v w' => v = (hd l 8 x : Nat) ∧ Chg (fun b => b = b31) w w' ∧
      ∃ m', Mp Value.string (Value.int .i64) w' b31 m' ∧ Inv l m' stack ∧ ∀ n, n ∈ mkeys m → n ∈ mkeys m' := by
  intro N
  induction N using Nat.strongRecOn with
  | ind N ih =>
  intro w m stack x hN hW hm hI hst hx
  refine c96 ?_
  unfold f96
  refine ⟨_, rfl, ?_⟩
  refine rn_blk one146 hW.blk rfl rfl ?_
  refine rn_get2 (k := x) (fun _ => rfl) mapT146 hm ?_
  cases hg : mget m x with
  | some v =>
    refine iteT rfl ?_
    rcases hI x v hg with ⟨rfl, hs⟩ | rfl
    · refine iteT (by simp) ⟨?_, Chg.refl _ _, m, hm, hI, fun _ h => h⟩
      have := hd_cyc (hst x hs) 8 x (.inr rfl) (hst x hs)
      rw [this]; rfl
    · refine iteF (by simp) ⟨rfl, Chg.refl _ _, m, hm, hI, fun _ h => h⟩
  | none =>
    refine iteF (by simp) ?_
    obtain ⟨d, hd0⟩ := Option.isSome_iff_exists.1 hx
    refine ⟨_, rfl, ?_⟩
    refine rn_blk one146 hW.blk rfl rfl ?_
    refine rnu_put (k := x) (v := (-1 : Int)) mapT146 hm fun w1 c1 hm1 _ => ?_
    have hW1 := hW.chg c1
    refine ⟨_, rfl, ?_⟩
    refine rn_blk one145 hW1.blk rfl rfl ?_
    refine rn_get (k := x) mapT145 hW1.maps ?_
    obtain ⟨i, hi, hli, hgi⟩ := hms x d hd0
    rw [hgi]
    have hi' : i < l.length := (List.getElem?_eq_some_iff.1 hli).1
    have hld : l[i] = d := (List.getElem?_eq_some_iff.1 hli).2
    have hres : ∀ w', DepW F s rs l b30 b31 b33 ms w' → ResD F w' rs[i] d := fun w' h => by
      have := h.conf.el i hi hi'; rw [hld] at this; exact this
    refine RnP.of (x := rs[i].Targets) (fun w => ?_) ?_
    · exact field_targets rs[i] w
    have hkids : kids l x = kt d.targets := by unfold kids; rw [hd0]; rfl
    -- while the targets are looked at
    have hI1 : Inv l (mput m x (-1)) (fun n => stack n ∨ n = x) := fun n v hv => by
      rw [mget_put] at hv
      by_cases e : x = n
      · rw [if_pos e] at hv; cases hv; exact .inl ⟨rfl, .inr e.symm⟩
      · rw [if_neg e] at hv
        rcases hI n v hv with ⟨h1, h2⟩ | h
        · exact .inl ⟨h1, .inl h2⟩
        · exact .inr h
    refine Lp.mk (fun (y : Int × Int) w' => ∃ (k : Nat) (m' : List (ByteArray × Int)), y.2 = k ∧ k ≤ d.targets.length ∧ y.1 = (maxl ((kt (d.targets.take k)).map (hd l 8)) : Nat) ∧ Chg (fun b => b = b31) w w' ∧
        Mp Value.string (Value.int .i64) w' b31 m' ∧ Inv l m' (fun n => stack n ∨ n = x) ∧ ∀ n, n ∈ mkeys (mput m x (-1)) → n ∈ mkeys m') (fun y => d.targets.length - y.2.toNat)
      ⟨0, mput m x (-1), rfl, Nat.zero_le _, rfl, c1, hm1, hI1, fun _ h => h⟩ ?_
    rintro ⟨n, _⟩ w2 K ⟨k, m2, rfl, hk, rfl, hC, hm2, hI2, hg2⟩ hK
    dsimp only
    have hW2 := hW.chg hC
    have ht := (hres _ hW2).targets
    by_cases hlt : k < d.targets.length
    · rw [if_pos (by rw [ht.len]; omega)]
      refine ⟨fun y w' => y = (maxl ((kt (d.targets.take (k + 1))).map (hd l 8)) : Nat) ∧ Chg (fun b => b = b31) w w' ∧ ∃ m', Mp Value.string (Value.int .i64) w' b31 m' ∧ Inv l m' (fun n => stack n ∨ n = x) ∧ ∀ n, n ∈ mkeys (mput m x (-1)) → n ∈ mkeys m', ?_, ?_⟩
      · refine rnp_idx sl45 ht hlt rfl fun p _ hp => ?_
        refine rn_ldN (x := d.targets[k]) many84 hp rfl rfl ?_
        refine New.var (TTarget.cells d.targets[k]) sz84 rfl (oc_target _) rfl fun b9 w3 e3 hb _ => ?_
        have hC3 := hC.thenE e3
        refine rn_blk one9 hb rfl rfl ?_
        by_cases c : d.targets[k].Service = ⟨#[]⟩
        · refine iteT c ?_
          refine rn_blk one9 hb rfl rfl ?_
          have hkid : d.targets[k].Split ∈ kids l x := by rw [hkids]; exact mem_kt hlt c
          have hcnt : l.countP (unk m2) < l.countP (unk m) := by
            have hmono : ∀ n, n ∈ mkeys m → n ∈ mkeys m2 := fun n hn => hg2 n (mem_mkeys_put.2 (.inr hn))
            have hxin : x ∈ mkeys m2 := hg2 x (mem_mkeys_put.2 (.inl rfl))
            have hdm : d ∈ l := List.mem_of_getElem? hli
            have hdp := List.find?_some hd0
            simp only [Bool.and_eq_true, decide_eq_true_eq] at hdp
            refine cnt_lt l (fun y _ hy => ?_) ⟨d, hdm, ?_, ?_⟩
            · simp only [unk, Bool.and_eq_true, decide_eq_true_eq, Option.isNone_iff_eq_none] at hy ⊢
              exact ⟨hy.1, mget_none.2 fun h => mget_none.1 hy.2 (hmono _ h)⟩
            · simp only [unk, hdp.1, hdp.2, decide_true, Bool.true_and, hg, Option.isNone_none]
            · have : (mget m2 x).isNone = false := by
                cases he : mget m2 x with
                | none => exact absurd hxin (mget_none.1 he)
                | some _ => rfl
              simp only [unk, hdp.2, this, Bool.and_false]
          refine (ih (l.countP (unk m2)) (by omega) w3 m2 (fun n => stack n ∨ n = x) d.targets[k].Split (Nat.le_refl _) (hW.chg hC3) (hm2.ext e3) hI2 (fun n hn => ?_) ?_).mono ?_
          · rcases hn with hn | rfl
            · exact (hst n hn).snoc hkid
            · exact .one hkid
          · exact hnd x d _ hd0 (by rw [← show kids l x = kidsOf d by unfold kids; rw [hd0]]; exact hkid)
          · rintro v w4 ⟨rfl, c4, m4, hm4, hI4, hg4⟩
            refine ⟨?_, hC3.trans c4, m4, hm4, hI4, fun n hn => hg4 n (hg2 n hn)⟩
            rw [kt_yes hlt c, List.map_append, List.map_cons, List.map_nil, maxl_app]
            omega
        · refine iteF c ⟨?_, hC3, m2, hm2.ext e3, hI2, hg2⟩
          rw [kt_no hlt c]
      · rintro _ w3 ⟨rfl, hC3, m3, hm3, hI3, hg3⟩
        rw [ht.wr hlt]
        exact hK _ _ ⟨k + 1, m3, rfl, hlt, rfl, hC3, hm3, hI3, hg3⟩ (by dsimp only; omega)
    · rw [if_neg (by rw [ht.len]; omega)]
      obtain rfl : k = d.targets.length := by omega
      rw [List.take_length]
      have hmin := hd_min l x
      rw [hkids] at hmin
      have hb9 : maxl ((kt d.targets).map (hd l 8)) ≤ 9 := maxl_le fun y hy => by
        obtain ⟨z, _, rfl⟩ := List.mem_map.1 hy; exact (hd_bounds l 8 z).2
      have hval : min (IntKind.i64.wrap (((maxl ((kt d.targets).map (hd l 8)) : Nat) : Int) + 1)) 9 = ((hd l 8 x : Nat) : Int) := by
        rw [wrap_in ⟨by omega, by omega⟩, ← hmin]; omega
      refine ⟨_, rfl, ?_⟩
      refine rn_blk one146 hW2.blk rfl rfl ?_
      rw [hval]
      refine rnu_put (k := x) (v := ((hd l 8 x : Nat) : Int)) mapT146 hm2 fun w3 c3 hm3 _ => ?_
      refine ⟨rfl, hC.trans c3, _, hm3, fun n v hv => ?_, fun n hn => mem_mkeys_put.2 (.inr (hg2 n (mem_mkeys_put.2 (.inr hn))))⟩
      rw [mget_put] at hv
      by_cases e : x = n
      · rw [if_pos e] at hv; cases hv; rw [← e]; exact .inr rfl
      · rw [if_neg e] at hv
        rcases hI2 n v hv with ⟨h1, h2 | h2⟩ | h
        · exact .inl ⟨h1, h2⟩
        · exact absurd h2.symm e
        · exact .inr h
end
end Go.Proofs.Ytdoeegfcmbcbkaa.Ct

/- Contracts: how deep a split leads (the document's package for layer 14: eight rounds). -/
namespace Go.Proofs.Ytdoeegfcmbcbkaa.Ct
open Go Go.Eng Tr
set_option linter.unusedVariables false
set_option maxRecDepth 100000

def ints (x : Int) : List Value := [.int .i64 x]
/-- what a round says of the resource at place i: how deep it leads, or 0 -/
def dv (l : List DRes) (r i : Nat) : Nat :=
  match l[i]? with
  | none => 0
  | some d => if d.kind = 2 then (if hd l r d.name ≤ r then hd l r d.name else 0) else 0
def pv (l : List DRes) (r : Nat) (ts : List TTarget) : Nat := if maxl ((kt ts).map (hd l r)) ≤ r then 1 + maxl ((kt ts).map (hd l r)) else 0
def row (l : List DRes) (r : Nat) : List Int := (List.range l.length).map fun i => (dv l r i : Int)
theorem row_get {l : List DRes} {r i : Nat} (h : i < l.length) : (row l r)[i]? = some ((dv l r i : Nat) : Int) := by
  simp [row, h]
theorem row_len (l : List DRes) (r : Nat) : (row l r).length = l.length := by simp [row]
section
variable {w : World} {F G : Nat → Prop} {s : Sl} {rs : List TResource} {l : List DRes}
theorem pv_dv (huq : ∀ d ∈ l, d.kind = 2 → splitOf l d.name = some d) {i : Nat} (hi : i < l.length) (hk : l[i].kind = 2) (r : Nat) : pv l r l[i].targets = dv l (r + 1) i := by
  have h1 : kids l l[i].name = kt l[i].targets := by unfold kids; rw [huq _ (List.getElem_mem hi) hk]; rfl
  have h2 : hd l (r + 1) l[i].name = 1 + maxl ((kt l[i].targets).map (hd l r)) := by rw [← h1]; rfl
  unfold pv dv
  simp only [List.getElem?_eq_getElem hi, if_pos hk, h2]
  by_cases h : maxl ((kt l[i].targets).map (hd l r)) ≤ r
  · rw [if_pos h, if_pos (by omega)]
  · rw [if_neg h, if_neg (by omega)]
theorem pv_yes {r : Nat} {ts : List TTarget} {k : Nat} (h : k < ts.length) (hs : ts[k].Service = ⟨#[]⟩) (h0 : 0 < pv l r (ts.take k)) :
    pv l r (ts.take (k + 1)) = if hd l r ts[k].Split ≤ r then max (pv l r (ts.take k)) (hd l r ts[k].Split + 1) else 0 := by
  unfold pv at h0 ⊢
  rw [kt_yes h hs, List.map_append, List.map_cons, List.map_nil, maxl_app]
  by_cases c : maxl ((kt (ts.take k)).map (hd l r)) ≤ r
  · rw [if_pos c]
    by_cases c2 : hd l r ts[k].Split ≤ r
    · rw [if_pos c2, if_pos (by omega)]; omega
    · rw [if_neg c2, if_neg (by omega)]
  · rw [if_neg c] at h0; omega
theorem pv_zero {r : Nat} {ts : List TTarget} {k : Nat} (h0 : pv l r (ts.take k) = 0) : pv l r ts = 0 := by
  have : ∀ j, pv l r (ts.take (k + j)) = 0 := fun j => by
    induction j with
    | zero => exact h0
    | succ j ih =>
      by_cases hj : k + j < ts.length
      · unfold pv at ih ⊢
        by_cases c : maxl ((kt (ts.take (k + j))).map (hd l r)) ≤ r
        · rw [if_pos c] at ih; omega
        · rw [if_neg]
          by_cases hs : ts[k + j].Service = ⟨#[]⟩
          · rw [show k + (j + 1) = k + j + 1 by omega, kt_yes hj hs, List.map_append, List.map_cons, List.map_nil, maxl_app]; omega
          · rw [show k + (j + 1) = k + j + 1 by omega, kt_no hj hs]; exact c
      · rw [List.take_of_length_le (by omega)]; rwa [List.take_of_length_le (by omega)] at ih
  have h := this ts.length
  rwa [List.take_of_length_le (by omega)] at h
theorem ints_flat (xs : List Int) : xs.flatMap ints = xs.map (Value.int .i64) := by
  induction xs with
  | nil => rfl
  | cons x xs ih => simp [List.flatMap_cons, ih, ints]
/-- a round half done -/
def mix (l : List DRes) (r j : Nat) : List Value := (List.range l.length).map fun i => Value.int .i64 ((if i < j then dv l (r + 1) i else 0 : Nat) : Int)
theorem mix_len (r j : Nat) : (mix l r j).length = l.length := by simp [mix]
theorem mix_set {r j : Nat} (hj : j < l.length) : (mix l r j).set j (.int .i64 ((dv l (r + 1) j : Nat) : Int)) = mix l r (j + 1) := by
  apply List.ext_getElem (by simp [mix])
  intro i h1 h2
  simp only [mix, List.length_set, List.length_map, List.length_range] at h1
  by_cases e : j = i
  · subst e; simp [mix]
  · rw [List.getElem_set_ne e]
    simp only [mix, List.getElem_map, List.getElem_range]
    by_cases h : i < j
    · rw [if_pos h, if_pos (by omega)]
    · rw [if_neg h, if_neg (by omega)]
theorem mix_skip {r j : Nat} (hj : j < l.length) (h0 : dv l (r + 1) j = 0) : mix l r j = mix l r (j + 1) := by
  apply List.ext_getElem (by simp [mix])
  intro i h1 h2
  simp only [mix, List.getElem_map, List.getElem_range]
  by_cases h : i < j
  · rw [if_pos h, if_pos (by omega)]
  · rw [if_neg h]
    by_cases e : i = j
    · subst e; rw [if_pos (by omega), h0]
    · rw [if_neg (by omega)]
theorem mix_zero (r : Nat) : List.replicate l.length (Value.int .i64 0) = mix l r 0 := by
  apply List.ext_getElem (by simp [mix])
  intro i h1 h2
  simp [mix]
theorem mix_full (r : Nat) : mix l r l.length = (row l (r + 1)).flatMap ints := by
  rw [ints_flat]
  apply List.ext_getElem (by simp [mix, row])
  intro i h1 h2
  simp only [mix, List.length_map, List.length_range] at h1
  simp [mix, row, h1]
theorem row_zero : List.replicate l.length (Value.int .i64 0) = (row l 0).flatMap ints := by
  rw [ints_flat]
  apply List.ext_getElem (by simp [row])
  intro i h1 h2
  simp only [row, List.length_replicate] at h1
  simp only [row, List.getElem_replicate, List.getElem_map, List.getElem_range]
  have : dv l 0 i = 0 := by simp [dv, h1, hd]
  rw [this]; rfl
theorem fst?_le {p : Nat → Bool} {n : Nat} : fst? p n = -1 ∨ ∃ k, fst? p n = (k : Nat) ∧ k < n ∧ p k = true := by
  unfold fst?
  cases h : (List.range n).find? p with
  | none => exact .inl rfl
  | some k =>
    right
    have h1 := List.mem_of_find?_eq_some h
    have h2 := List.find?_some h
    exact ⟨k, rfl, by simpa using h1, h2⟩
theorem has_at {kind : Int} {n : ByteArray} (h : has l kind n = true) : ∃ k : Nat, fst? (isAt l kind n) l.length = k ∧ ∃ hk : k < l.length, l[k].kind = kind ∧ l[k].name = n := by
  unfold has at h
  simp only [decide_eq_true_eq] at h
  rcases fst?_le (p := isAt l kind n) (n := l.length) with h' | ⟨k, h1, h2, h3⟩
  · omega
  · rw [isAt_eq h2] at h3
    simp only [Bool.and_eq_true, decide_eq_true_eq] at h3
    exact ⟨k, h1, h2, h3⟩
theorem depths_ok (h : ConfD F w s rs l) (hlen : l.length ≤ 64) (huq : ∀ d ∈ l, d.kind = 2 → splitOf l d.name = some d)
    (hnd : ∀ n d t, splitOf l n = some d → t ∈ kidsOf d → has l 2 t = true) :
    Cal PP Sl.v 102 #[s.v] w fun x w' => Ext w w' ∧ Rd ints 1 (fun b => w.heap.size ≤ b) w' x (row l 8) := by
  refine c102 ?_
  unfold f102
  rw [h.n]
  refine rn_make1 el77 rfl (by omega) (by unfold maxLen; omega) fun b13 w1 e1 h13 hn => ?_
  refine Lp.mk (fun (y : Sl × Int) w' => ∃ (r b : Nat), y.2 = r ∧ r ≤ 8 ∧ y.1 = ⟨some ⟨b, 0, none⟩, l.length, l.length⟩ ∧ w.heap.size ≤ b ∧ Ext w w' ∧ Blk w' b 3 ((row l r).flatMap ints)) (fun y => 8 - y.2.toNat)
    ⟨0, b13, rfl, by omega, rfl, by omega, e1, by rw [← row_zero]; exact h13⟩ ?_
  rintro ⟨y, i⟩ w2 K ⟨r, b, rfl, hr, rfl, hbn, hE, hb⟩ hK
  dsimp only
  by_cases hr8 : r < 8
  · rw [if_pos (by omega)]
    refine rn_make1 el77 rfl (by omega) (by unfold maxLen; omega) fun b20 w3 e3 h20 hn20 => ?_
    have hbl := hb.lt
    replace hE := hE.trans e3; replace hb := hb.ext e3
    have hrow : ∀ {w' : World}, Blk w' b 3 ((row l r).flatMap ints) → Rd ints 1 (fun _ => True) w' ⟨some ⟨b, 0, none⟩, l.length, l.length⟩ (row l r) := fun h => h.rd rfl (fun _ _ => rfl) trivial (row_len l r).symm (by unfold maxLen; omega)
    refine Lp.mk (fun (y : Int) w' => ∃ j : Nat, y = j ∧ j ≤ l.length ∧ Ext w w' ∧ Blk w' b 3 ((row l r).flatMap ints) ∧ Blk w' b20 3 (mix l r j)) (fun y => l.length - y.toNat)
      ⟨0, rfl, Nat.zero_le _, hE, hb, by rw [← mix_zero]; exact h20⟩ ?_
    rintro y w4 K2 ⟨j, rfl, hj, hE, hb, h20⟩ hK2
    by_cases hlt : j < l.length
    · rw [if_pos (by omega)]
      refine ⟨fun _ w' => Ext w w' ∧ Blk w' b 3 ((row l r).flatMap ints) ∧ Blk w' b20 3 (mix l r (j + 1)), ?_, ?_⟩
      · refine (h.ext hE).idx hlt rfl fun p q _ hp hq => ?_
        refine rn_at one3 hp rfl ?_
        rw [hq.kind]
        by_cases c2 : l[j].kind = 2
        · refine iteF (fun h => h c2) ?_
          have hpd := pv_dv huq hlt c2 r
          have hsp := huq _ (List.getElem_mem hlt) c2
          refine Lp.mk (fun (y : Int × Int) w' => ∃ k : Nat, y.2 = k ∧ k ≤ l[j].targets.length ∧ y.1 = (pv l r (l[j].targets.take k) : Nat) ∧ Ext w w' ∧ Blk w' b 3 ((row l r).flatMap ints) ∧ Blk w' b20 3 (mix l r j)) (fun y => l[j].targets.length - y.2.toNat)
            ⟨0, rfl, Nat.zero_le _, by simp [pv, kt, maxl], hE, hb, h20⟩ ?_
          rintro ⟨n, _⟩ w5 K3 ⟨k, rfl, hk, rfl, hE, hb, h20⟩ hK3
          dsimp only
          refine ⟨fun x w' => w' = w5 ∧ x = (decide (k < l[j].targets.length) && decide (0 < pv l r (l[j].targets.take k))), ?_, ?_⟩
          · refine (h.ext hE).idx hlt rfl fun p q _ hp hq => ?_
            refine rn_at one45 hp rfl ?_
            by_cases hkl : k < l[j].targets.length
            · refine iteT (by rw [hq.targets.len]; omega) ⟨rfl, ?_⟩
              simp [hkl]
            · refine iteF (by rw [hq.targets.len]; omega) ⟨rfl, by simp [hkl]⟩
          rintro _ _ ⟨rfl, rfl⟩
          by_cases hgo : k < l[j].targets.length ∧ 0 < pv l r (l[j].targets.take k)
          · obtain ⟨hkl, hpos⟩ := hgo
            refine iteT (by simp [hkl, hpos]) ?_
            refine ⟨fun x w' => x = (pv l r (l[j].targets.take (k + 1)) : Nat) ∧ Ext w w' ∧ Blk w' b 3 ((row l r).flatMap ints) ∧ Blk w' b20 3 (mix l r j), ?_, ?_⟩
            · refine (h.ext hE).idx hlt rfl fun p q _ hp hq => ?_
              refine rn_at one45 hp rfl ?_
              refine rnp_idx sl45 hq.targets hkl rfl fun p _ hp => ?_
              refine rn_ldN (x := l[j].targets[k]) many84 hp rfl rfl ?_
              refine New.var (TTarget.cells l[j].targets[k]) sz84 rfl (oc_target _) rfl fun b9 w6 e6 h9 _ => ?_
              replace hE := hE.trans e6; replace hb := hb.ext e6; replace h20 := h20.ext e6
              refine rn_blk one9 h9 rfl rfl ?_
              by_cases cs : l[j].targets[k].Service = ⟨#[]⟩
              · refine iteF (fun h => h cs) ?_
                refine rn_blk one9 h9 rfl rfl ?_
                refine (find_ok (h.ext hE) 2 _).mono ?_
                rintro _ w7 ⟨e7, rfl⟩
                replace hE := hE.trans e7; replace hb := hb.ext e7; replace h20 := h20.ext e7
                have hin : l[j].targets[k].Split ∈ kidsOf l[j] := mem_kt hkl cs
                obtain ⟨at_, hat, hatl, hak, han⟩ := has_at (hnd _ _ _ hsp hin)
                have hdv : dv l r at_ = if hd l r l[j].targets[k].Split ≤ r then hd l r l[j].targets[k].Split else 0 := by
                  simp only [dv, List.getElem?_eq_getElem hatl, if_pos hak, han]
                have hb1 := hd_bounds l r l[j].targets[k].Split
                have hyes := pv_yes (l := l) hkl cs hpos
                rw [hat]
                have rd : ∀ {w' : World} {K : Int → World → Prop}, Blk w' b 3 ((row l r).flatMap ints) → K ((dv l r at_ : Nat) : Int) w' →
                    RnP PP Ptr (Instr.indexAt 77 (Sl.v ⟨some ⟨b, 0, none⟩, l.length, l.length⟩) (.int .i64 (at_ : Int))) fun p => Rn PP (Value.int .i64) (Instr.loadAt 3 (Ptr p)) w' K := fun hb hK =>
                  rnp_own sl77 hatl rfl (rn_blk one3 hb rfl (by rw [ints_flat, List.getElem?_map, row_get hatl]; rfl) hK)
                refine ⟨fun x w' => w' = w7 ∧ x = decide (dv l r at_ = 0), ?_, ?_⟩
                · refine iteF (by omega) ?_
                  refine rd hb ⟨rfl, ?_⟩
                  by_cases h0 : dv l r at_ = 0
                  · simp [h0]
                  · have : ((dv l r at_ : Nat) : Int) ≠ 0 := by omega
                    simp [h0]
                rintro _ _ ⟨rfl, rfl⟩
                by_cases h0 : dv l r at_ = 0
                · refine iteT (by simp [h0]) ⟨?_, hE, hb, h20⟩
                  rw [hyes, if_neg]; rfl
                  intro hle; rw [if_pos hle] at hdv; omega
                · refine iteF (by simp [h0]) ?_
                  have hle : hd l r l[j].targets[k].Split ≤ r := by
                    by_cases hle : hd l r l[j].targets[k].Split ≤ r
                    · exact hle
                    · rw [if_neg hle] at hdv; exact absurd hdv h0
                  rw [if_pos hle] at hdv
                  rw [if_pos hle] at hyes
                  have hw : IntKind.i64.wrap (((dv l r at_ : Nat) : Int) + 1) = ((dv l r at_ + 1 : Nat) : Int) := by
                    rw [wrap_in ⟨by omega, by omega⟩]; omega
                  refine rd hb ?_
                  rw [hw]
                  by_cases cm : pv l r (l[j].targets.take k) < dv l r at_ + 1
                  · refine iteT (by omega) ?_
                    refine rd hb ⟨?_, hE, hb, h20⟩
                    rw [hw, hyes, hdv]; omega
                  · refine iteF (by omega) ⟨?_, hE, hb, h20⟩
                    rw [hyes]; omega
              · refine iteT cs ⟨?_, hE, hb, h20⟩
                unfold pv; rw [kt_no hkl cs]
            rintro _ w6 ⟨rfl, hE, hb, h20⟩
            have hwr : IntKind.i64.wrap ((k : Int) + 1) = ((k + 1 : Nat) : Int) := by
              obtain ⟨q, hq⟩ : ∃ q, ResD F w6 q l[j] := ⟨_, (h.ext hE).el j (by rw [h.len]; exact hlt) hlt⟩
              exact hq.targets.wr hkl
            rw [hwr]
            exact hK3 _ _ ⟨k + 1, rfl, hkl, rfl, hE, hb, h20⟩ (by dsimp only; omega)
          · refine iteF (by simpa using hgo) ?_
            have hfin : pv l r (l[j].targets.take k) = dv l (r + 1) j := by
              rw [← hpd]
              by_cases hkl : k < l[j].targets.length
              · have : pv l r (l[j].targets.take k) = 0 := by
                  by_cases hz : pv l r (l[j].targets.take k) = 0
                  · exact hz
                  · exact absurd ⟨hkl, by omega⟩ hgo
                rw [this, pv_zero this]
              · rw [List.take_of_length_le (by omega)]
            refine rnp_own sl77 hlt rfl ?_
            refine rnu_st1 sz3 h20 (by rw [mix_len]; exact hlt) rfl rfl fun w6 c6 h20 _ => ?_
            refine ⟨hE.then c6 (fun x hx => by omega), hb.chg c6 (by omega), ?_⟩
            rw [← mix_set hlt, ← hfin]; exact h20
        · refine iteT c2 ⟨hE, hb, ?_⟩
          rw [← mix_skip hlt]
          · exact h20
          · simp [dv, hlt, c2]
      · rintro _ w5 ⟨hE, hb, h20⟩
        rw [h.wr hlt]
        exact hK2 _ _ ⟨j + 1, rfl, hlt, hE, hb, h20⟩ (by omega)
    · rw [if_neg (by omega)]
      obtain rfl : j = l.length := by omega
      have hw : IntKind.i64.wrap ((r : Int) + 1) = ((r + 1 : Nat) : Int) := by rw [wrap_in ⟨by omega, by omega⟩]; rfl
      rw [hw]
      exact hK _ _ ⟨r + 1, b20, rfl, by omega, rfl, by omega, hE, by rw [← mix_full]; exact h20⟩ (by dsimp only; omega)
  · rw [if_neg (by omega)]
    obtain rfl : r = 8 := by omega
    refine ⟨hE, ?_⟩
    exact hb.rd rfl (fun _ _ => rfl) hbn (row_len l 8).symm (by unfold maxLen; omega)
end
end Go.Proofs.Ytdoeegfcmbcbkaa.Ct

/- Contracts: what covers what among paths, in both packages (that it answers, and makes nothing of what stood another thing). -/
namespace Go.Proofs.Ytdoeegfcmbcbkaa.Ct
open Go Go.Eng Tr
set_option linter.unusedVariables false
set_option maxRecDepth 100000

/-- it answers, whatever -/
def Rets {α : Type} (enc : α → Value) (f : FuncId) (args : Array Value) (w : World) : Prop := Cal PP enc f args w fun x w' => Ext w w'
section
variable {w : World} {x y : ByteArray}
theorem begins13_ok (x y : ByteArray) : Rets Value.bool 128 #[.string x, .string y] w := by
  refine c128 ?_
  unfold f128
  refine Jn.dup ?_
  by_cases c : (y.size : Int) ≤ (x.size : Int)
  · rw [if_pos c]
    exact rnp_str_to Try.underlying9 rfl (by omega) (Ext.refl _)
  · rw [if_neg c]; exact Ext.refl _
theorem hasPrefix_ok (x y : ByteArray) : Rets Value.bool 116 #[.string x, .string y] w := by
  refine c116 ?_
  unfold f116
  refine Cal.mono (K := fun _ w' => Ext w w') ?_ (fun _ _ h => h)
  refine c138 ?_
  unfold f138
  refine Jn.dup ?_
  by_cases c : (y.size : Int) ≤ (x.size : Int)
  · rw [if_pos c]
    exact rnp_str_to Try.underlying9 rfl (by omega) (Ext.refl _)
  · rw [if_neg c]; exact Ext.refl _
theorem ends_ok (x y : ByteArray) (hx : x.size ≤ maxLen) : Cal PP Value.bool 143 #[.string x, .string y] w fun r w' => Ext w w' ∧ (r = true → y.size ≤ x.size) := by
  refine c143 ?_
  unfold f143
  refine Jn.dup ?_
  by_cases c : (y.size : Int) ≤ (x.size : Int)
  · rw [if_pos c]
    refine rnp_str_from (k := x.size - y.size) Try.underlying9 ?_ (by omega) ⟨Ext.refl _, fun _ => by omega⟩
    rw [wrap_sub hx (by omega)]
  · rw [if_neg c]; exact ⟨Ext.refl _, fun h => by simp at h⟩
theorem star_ok (x : ByteArray) (hx : x.size ≤ maxLen) : Cal PP (fun x : ByteArray × Bool => Value.tuple #[.string x.1, .bool x.2]) 127 #[.string x] w fun r w' => Ext w w' ∧ r.1.size ≤ x.size := by
  refine c127 ?_
  unfold f127
  refine (ends_ok x _ hx).mono ?_; rintro r w1 ⟨e1, h1⟩
  cases r with
  | true =>
    refine iteT rfl ?_
    have : 1 ≤ x.size := h1 rfl
    refine rnp_str_to (k := x.size - 1) Try.underlying9 (by have := wrap_sub hx this; simpa using this) (by omega) ⟨e1, ?_⟩
    simp only [ByteArray.size_extract]; omega
  | false => exact iteF (by simp) ⟨e1, Nat.le_refl _⟩
theorem isPath_ok (x : ByteArray) (hx : x.size ≤ maxLen) : Rets Value.bool 142 #[.string x] w := by
  refine c142 ?_
  unfold f142
  refine Lp.mk (fun (i : Int) w' => ∃ k : Nat, i = k ∧ k ≤ x.size ∧ Ext w w') (fun i => x.size - i.toNat) ⟨0, rfl, Nat.zero_le _, Ext.refl _⟩ ?_
  rintro i w1 K ⟨k, rfl, hk, hE⟩ hK
  by_cases hlt : k < x.size
  · rw [if_pos (by omega)]
    have no : K (IntKind.i64.wrap ((k : Int) + 1)) w1 := by
      rw [wrap_succ (by omega)]; exact hK _ _ ⟨k + 1, rfl, hlt, hE⟩ (by omega)
    have fin : ∀ b : Bool, if b = true then Ext w w1 else K (IntKind.i64.wrap ((k : Int) + 1)) w1 := fun b => by
      cases b
      · exact iteF (by simp) no
      · exact iteT rfl hE
    refine Jn.dup ?_
    refine rnp_byte Try.underlying9 rfl hlt ?_
    by_cases c : ((x[k].toNat : Nat) : Int) < 33
    · rw [if_pos c]; exact fin true
    · rw [if_neg c]
      exact rnp_byte Try.underlying9 rfl hlt (fin _)
  · rw [if_neg (by omega)]
    refine Jn.dup ?_
    by_cases c1 : 1 ≤ (x.size : Int)
    · rw [if_pos c1]
      by_cases c2 : (x.size : Int) ≤ 256
      · rw [if_pos c2]
        exact rnp_byte (k := 0) Try.underlying9 rfl (by omega) hE
      · rw [if_neg c2]; exact hE
    · rw [if_neg c1]; exact hE
theorem pattern13_ok (x : ByteArray) (hx : x.size ≤ maxLen) : Rets Value.bool 126 #[.string x] w := by
  refine c126 ?_
  unfold f126
  refine (star_ok x hx).mono ?_; rintro ⟨p, b⟩ w1 ⟨e1, h1⟩
  refine Jn.dup ?_
  have fin : Cal PP Value.bool 142 #[.string p] w1 fun _ w' => Ext w w' := (isPath_ok p (Nat.le_trans h1 hx)).mono fun _ _ h => e1.trans h
  cases b with
  | true =>
    refine iteT rfl ?_
    by_cases c : p = ⟨#[]⟩
    · exact iteT c e1
    · exact iteF c fin
  | false => exact iteF (by simp) fin
theorem covers13_ok (x y : ByteArray) (hx : x.size ≤ maxLen) (hy : y.size ≤ maxLen) : Rets Value.bool 103 #[.string x, .string y] w := by
  refine c103 ?_
  unfold f103
  refine ⟨fun _ w' => Ext w w', ?_, ?_⟩
  · refine (pattern13_ok x hx).mono ?_; rintro r w1 e1
    cases r with
    | true => exact iteF (by simp) ((pattern13_ok y hy).mono fun _ _ h => e1.trans h)
    | false => exact iteT rfl e1
  rintro b w1 e1
  cases b with
  | true => exact iteT rfl e1
  | false =>
    refine iteF (by simp) ?_
    refine (star_ok x hx).mono ?_; rintro ⟨p, b⟩ w2 ⟨e2, h2⟩
    refine (star_ok y hy).mono ?_; rintro ⟨q, b'⟩ w3 ⟨e3, h3⟩
    have e := e1.trans (e2.trans e3)
    refine Jn.dup ?_
    by_cases c : x = y
    · rw [if_pos c]; exact e
    · rw [if_neg c]
      cases b with
      | true => exact iteT rfl ((begins13_ok q p).mono fun _ _ h => e.trans h)
      | false => exact iteF (by simp) e
end
end Go.Proofs.Ytdoeegfcmbcbkaa.Ct

/- Contracts: what covers what among paths in the program's package, and what rules are shadowed (that it answers). -/
namespace Go.Proofs.Ytdoeegfcmbcbkaa.Ct
open Go Go.Eng Tr
set_option linter.unusedVariables false
set_option maxRecDepth 100000

section
variable {w : World} {F : Nat → Prop}
theorem suffix_ok (x y : ByteArray) (hx : x.size ≤ maxLen) : Cal PP Value.bool 139 #[.string x, .string y] w fun r w' => Ext w w' ∧ (r = true → y.size ≤ x.size) := by
  refine c139 ?_
  unfold f139
  refine Jn.dup ?_
  by_cases c : (y.size : Int) ≤ (x.size : Int)
  · rw [if_pos c]
    refine rnp_str_from (k := x.size - y.size) Try.underlying9 ?_ (by omega) ⟨Ext.refl _, fun _ => by omega⟩
    rw [wrap_sub hx (by omega)]
  · rw [if_neg c]; exact ⟨Ext.refl _, fun h => by simp at h⟩
theorem cut_ok (x y : ByteArray) (hx : x.size ≤ maxLen) : Cal PP (fun x : ByteArray × Bool => Value.tuple #[.string x.1, .bool x.2]) 156 #[.string x, .string y] w fun r w' => Ext w w' ∧ r.1.size ≤ x.size := by
  refine c156 ?_
  unfold f156
  refine Cal.mono (K := fun r w' => Ext w w' ∧ r.1.size ≤ x.size) ?_ (fun r w' h => h)
  refine c165 ?_
  unfold f165
  refine (suffix_ok x y hx).mono ?_; rintro r w1 ⟨e1, h1⟩
  cases r with
  | false => exact iteT rfl ⟨e1, Nat.le_refl _⟩
  | true =>
    refine iteF (by simp) ?_
    have : y.size ≤ x.size := h1 rfl
    refine rnp_str_to (k := x.size - y.size) Try.underlying9 (wrap_sub hx this) (by omega) ⟨e1, ?_⟩
    simp only [ByteArray.size_extract]; omega
theorem begins_ok (x : ByteArray) (hx : x.size ≤ maxLen) : Cal PP (fun x : ByteArray × Bool => Value.tuple #[.string x.1, .bool x.2]) 140 #[.string x] w fun r w' => Ext w w' ∧ r.1.size ≤ x.size := by
  refine c140 ?_
  unfold f140
  exact (cut_ok x _ hx).mono fun r w' h => h
theorem path_ok (x : ByteArray) (hx : x.size ≤ maxLen) : Rets Value.bool 157 #[.string x] w := by
  refine c157 ?_
  unfold f157
  refine ⟨fun b w' => Ext w w', ?_, ?_⟩
  · by_cases c1 : (x.size : Int) < 1
    · exact iteT c1 (Ext.refl _)
    · refine iteF c1 ?_
      by_cases c2 : 256 < (x.size : Int)
      · exact iteT c2 (Ext.refl _)
      · refine iteF c2 ?_
        exact rnp_byte (k := 0) Try.underlying9 rfl (by omega) (Ext.refl _)
  rintro b w1 e1
  cases b with
  | true => exact iteT rfl e1
  | false =>
    refine iteF (by simp) ?_
    refine Lp.mk (fun (i : Int) w' => ∃ k : Nat, i = k ∧ k ≤ x.size ∧ Ext w w') (fun i => x.size - i.toNat) ⟨0, rfl, Nat.zero_le _, e1⟩ ?_
    rintro i w1 K ⟨k, rfl, hk, hE⟩ hK
    by_cases hlt : k < x.size
    · rw [if_pos (by omega)]
      have no : K (IntKind.i64.wrap ((k : Int) + 1)) w1 := by
        rw [wrap_succ (by omega)]; exact hK _ _ ⟨k + 1, rfl, hlt, hE⟩ (by omega)
      have fin : ∀ b : Bool, if b = true then Ext w w1 else K (IntKind.i64.wrap ((k : Int) + 1)) w1 := fun b => by
        cases b
        · exact iteF (by simp) no
        · exact iteT rfl hE
      refine Jn.dup ?_
      refine rnp_byte Try.underlying9 rfl hlt ?_
      by_cases c : ((x[k].toNat : Nat) : Int) < 33
      · rw [if_pos c]; exact fin true
      · rw [if_neg c]
        exact rnp_byte Try.underlying9 rfl hlt (fin _)
    · rw [if_neg (by omega)]; exact hE
theorem pattern_ok (x : ByteArray) (hx : x.size ≤ maxLen) : Rets Value.bool 141 #[.string x] w := by
  refine c141 ?_
  unfold f141
  refine (begins_ok x hx).mono ?_; rintro ⟨p, b⟩ w1 ⟨e1, h1⟩
  refine Jn.dup ?_
  have fin : Cal PP Value.bool 157 #[.string p] w1 fun _ w' => Ext w w' := (path_ok p (Nat.le_trans h1 hx)).mono fun _ _ h => e1.trans h
  cases b with
  | true =>
    refine iteT rfl ?_
    by_cases c : p = ⟨#[]⟩
    · exact iteT c e1
    · exact iteF c fin
  | false => exact iteF (by simp) fin
theorem covers_ok (x y : ByteArray) (hx : x.size ≤ maxLen) (hy : y.size ≤ maxLen) : Rets Value.bool 123 #[.string x, .string y] w := by
  refine c123 ?_
  unfold f123
  refine (begins_ok x hx).mono ?_; rintro ⟨p, b⟩ w1 ⟨e1, h1⟩
  refine (begins_ok y hy).mono ?_; rintro ⟨q, b'⟩ w2 ⟨e2, h2⟩
  refine Jn.dup ?_
  refine (pattern_ok x hx).mono ?_; rintro r w3 e3
  have e := (e1.trans e2).trans e3
  cases r with
  | false => exact iteF (by simp) e
  | true =>
    refine iteT rfl ?_
    refine (pattern_ok y hy).mono ?_; rintro r w4 e4
    replace e := e.trans e4
    cases r with
    | false => exact iteF (by simp) e
    | true =>
      refine iteT rfl ?_
      by_cases c : x = y
      · rw [if_pos c]; exact e
      · rw [if_neg c]
        cases b with
        | true => exact iteT rfl ((hasPrefix_ok q p).mono fun _ _ h => e.trans h)
        | false => exact iteF (by simp) e
theorem shadow1_ok {y r : TRule} {b : Nat} (hb : Blk w b 91 (TRule.cells r)) (hy : y.Path.size ≤ maxLen) (hr : r.Path.size ≤ maxLen) : Rets Value.bool 122 #[y.v, Ptr ⟨b, 0, none⟩] w := by
  refine c122 ?_
  unfold f122
  refine New.mk fun b2 w1 e1 h1 _ _ => ?_
  replace hb := hb.ext e1
  refine Jn.dup ?_
  refine rn_blk one9 h1 rfl rfl ?_
  have fin : Cal PP Value.bool 123 #[.string y.Path, .string r.Path] w1 fun _ w' => Ext w w' := (covers_ok _ _ hy hr).mono fun _ _ h => e1.trans h
  by_cases c : y.Method = ⟨#[42]⟩
  · refine iteT c ?_
    refine rn_blk one9 h1 rfl rfl ?_
    refine rn_blk one9 hb rfl rfl ?_
    exact fin
  · refine iteF c ?_
    refine rn_blk one9 h1 rfl rfl ?_
    refine rn_blk one9 hb rfl rfl ?_
    by_cases c2 : y.Method = r.Method
    · refine iteT c2 ?_
      refine rn_blk one9 h1 rfl rfl ?_
      refine rn_blk one9 hb rfl rfl ?_
      exact fin
    · exact iteF c2 e1
theorem index121_ok {s : Sl} {l : List TRule} (h : Rd TRule.cells 4 F w s l) {r : TRule} {b : Nat} (hb : Blk w b 91 (TRule.cells r)) (hl : ∀ y ∈ l, y.Path.size ≤ maxLen) (hr : r.Path.size ≤ maxLen) :
    Rets (Value.int .i64) 121 #[s.v, .func (.func 122) #[] #[Ptr ⟨b, 0, none⟩]] w := by
  refine c121 ?_
  unfold f121
  refine Lp.mk (fun (i : Int) w' => ∃ k : Nat, i = k ∧ k ≤ l.length ∧ Ext w w') (fun i => l.length - i.toNat) ⟨0, rfl, Nat.zero_le _, Ext.refl _⟩ ?_
  rintro i w1 K ⟨k, rfl, hk, hE⟩ hK
  by_cases hlt : k < l.length
  · rw [if_pos (by rw [h.len]; omega)]
    refine rnp_idx sl46 (h.ext hE) hlt rfl fun p _ hp => ?_
    refine rn_ldN (x := l[k]) many91 hp rfl rfl ?_
    refine ⟨122, #[], #[Ptr ⟨b, 0, none⟩], rfl, fun vs w => enters Try.func122 rfl rfl vs w, ?_⟩
    refine Cal.mono (shadow1_ok (y := l[k]) (hb.ext hE) (hl _ (List.getElem_mem hlt)) hr) ?_
    rintro x w2 e2
    cases x with
    | true => exact iteT rfl (hE.trans e2)
    | false =>
      refine iteF (by simp) ?_
      rw [h.wr hlt]; exact hK _ _ ⟨k + 1, rfl, hlt, hE.trans e2⟩ (by omega)
  · rw [if_neg (by rw [h.len]; omega)]; exact hE
/-- how many rules there are in all -/
def tot (l : List DRes) : Nat := (l.map fun d => d.rules.length).sum
theorem tot_take {l : List DRes} {k : Nat} (h : k < l.length) : tot (l.take (k + 1)) = tot (l.take k) + l[k].rules.length := by
  unfold tot; rw [List.take_add_one, List.getElem?_eq_getElem h, List.map_append, List.sum_append]; simp
theorem tot_le (l : List DRes) : ∀ k, tot (l.take k) ≤ tot l := fun k => by
  have : tot l = tot (l.take k) + tot (l.drop k) := by
    unfold tot; rw [← List.sum_append, ← List.map_append, List.take_append_drop]
  omega
theorem oc_warn (x : TWarning) : ∀ u ∈ TWarning.cells x, u.oneCell' = true := by simp [TWarning.cells, Value.oneCell']
theorem shadows_ok {s : Sl} {rs : List TResource} {l : List DRes} (h : ConfD F w s rs l) (hp : ∀ d ∈ l, ∀ r ∈ d.rules, r.Path.size ≤ maxLen) (ht : (tot l + 1) * 24 ≤ 140737488355328) : Rets Sl.v 97 #[s.v] w := by
  refine c97 ?_
  unfold f97
  refine Lp.mk (fun (y : Sl × Int) w' => ∃ (k : Nat) (ws : List TWarning), y.2 = k ∧ k ≤ l.length ∧ Ext w w' ∧ Own TWarning.cells 3 177 w.heap.size w' y.1 ws ∧ ws.length ≤ tot (l.take k)) (fun y => l.length - y.2.toNat)
    ⟨0, [], rfl, Nat.zero_le _, Ext.refl _, Own.nil_ _ _, Nat.zero_le _⟩ ?_
  rintro ⟨y, _⟩ w1 K ⟨k, ws, rfl, hk, hE, hO, hn⟩ hK
  dsimp only at hO ⊢
  by_cases hlt : k < l.length
  · rw [if_pos (by rw [h.n]; omega)]
    have htot := tot_take hlt
    have htl := tot_le l (k + 1)
    refine ⟨fun y w' => ∃ ws, Ext w w' ∧ Own TWarning.cells 3 177 w.heap.size w' y ws ∧ ws.length ≤ tot (l.take (k + 1)), ?_, ?_⟩
    · have hlr : k < rs.length := by rw [h.len]; exact hlt
      have hr0 := h.el k hlr hlt
      refine rnp_idx sl22 (h.ext hE).rd hlr rfl fun p _ hp' => ?_
      generalize rs[k] = r at hr0 hp'
      refine rn_ldN (x := r) many48 hp' rfl rfl ?_
      have hlow : ∀ b, own? y b → b < w1.heap.size := fun b hb => (hO.ge hb).2
      refine New.var (TResource.cells r) sz48 rfl (oc_res r) rfl fun b4 w2 e2 h4 hb4 => ?_
      replace hE := hE.trans e2; replace hO := hO.ext e2
      refine ⟨fun b w' => w' = w2, ?_, ?_⟩
      · refine rn_blk one3 h4 rfl rfl ?_
        by_cases c : r.Kind ≠ 3
        · exact iteT c (rn_blk one3 h4 rfl rfl rfl)
        · exact iteF c rfl
      rintro b _ rfl
      cases b with
      | true => exact iteT rfl ⟨ws, hE, hO, by omega⟩
      | false =>
        refine iteF (by simp) ?_
        refine rn_blk one46 h4 rfl rfl ?_
        have hru := hr0.rules
        have hpr := hp _ (List.getElem_mem hlt)
        refine Lp.mk (fun (z : Sl × Int) w' => ∃ (j : Nat) (ws : List TWarning), z.2 = j ∧ j ≤ l[k].rules.length ∧ Ext w w' ∧ Blk w' b4 48 (TResource.cells r) ∧ Own TWarning.cells 3 177 w.heap.size w' z.1 ws ∧
            (∀ b, own? z.1 b → b ≠ b4) ∧ ws.length ≤ tot (l.take k) + j) (fun z => l[k].rules.length - z.2.toNat)
          ⟨0, ws, rfl, Nat.zero_le _, hE, h4, hO, fun b hb => by have := hlow b hb; omega, by omega⟩ ?_
        rintro ⟨z, _⟩ w3 K2 ⟨j, ws, rfl, hj, hE, h4, hO, hne, hn⟩ hK2
        dsimp only at hO hne ⊢
        have hru3 := hru.ext hE
        by_cases hjl : j < l[k].rules.length
        · rw [if_pos (by rw [hru.len]; omega)]
          refine ⟨fun z w' => ∃ ws, Ext w w' ∧ Blk w' b4 48 (TResource.cells r) ∧ Own TWarning.cells 3 177 w.heap.size w' z ws ∧ (∀ b, own? z b → b ≠ b4) ∧ ws.length ≤ tot (l.take k) + (j + 1), ?_, ?_⟩
          · refine rnp_idx sl46 hru3 hjl rfl fun p _ hp' => ?_
            refine rn_ldN (x := l[k].rules[j]) many91 hp' rfl rfl ?_
            refine New.var (TRule.cells l[k].rules[j]) sz91 rfl (oc_rule _) rfl fun b6 w4 e4 h6 _ => ?_
            replace hE := hE.trans e4; replace h4 := h4.ext e4; replace hO := hO.ext e4
            refine rn_blk one46 h4 rfl rfl ?_
            refine rnp_slice sl46 none (some j) rfl rfl (Nat.zero_le _) (by have := hru.cap; have := hru.len; simp; omega) ?_
            simp only [Option.getD_none, Option.getD_some, Sl.cut_zero]
            refine Cal.mono (index121_ok ((hru.ext hE).take (by omega)) h6 (fun y hy => hpr y (List.mem_of_mem_take hy)) (hpr _ (List.getElem_mem hjl))) ?_
            rintro x w5 e5
            replace hE := hE.trans e5; replace h4 := h4.ext e5; replace hO := hO.ext e5
            by_cases cx : 0 ≤ x
            · refine iteT cx ?_
              have hl4 := h4.lt
              refine New.mk fun b44 w6 e6 h44 hb44 s6 => ?_
              replace hE := hE.trans e6; replace h4 := h4.ext e6; replace hO := hO.ext e6
              have hsz := hE.size
              refine rn_app1 (x := (⟨k, j, x⟩ : TWarning)) el78 hO h44 rfl rfl (oc_warn _) (by omega) (by decide) hsz fun z' w7 hO' c7 n7 => ?_
              have hl4 := h4.lt
              exact ⟨_, hE.then c7 (fun b hb => (hO.ge hb).1), h4.chg c7 (fun hb => hne _ hb rfl), hO', fun b hb => by
                rcases n7 b hb with h | h
                · exact hne b h
                · omega, by simp; omega⟩
            · exact iteF cx ⟨ws, hE, h4, hO, hne, by omega⟩
          · rintro z w4 ⟨ws, hE, h4, hO, hne, hn⟩
            rw [hru.wr hjl]
            exact hK2 _ _ ⟨j + 1, ws, rfl, hjl, hE, h4, hO, hne, hn⟩ (by dsimp only; omega)
        · rw [if_neg (by rw [hru.len]; omega)]
          exact ⟨ws, hE, hO, by omega⟩
    · rintro y w2 ⟨ws, hE, hO, hn⟩
      rw [h.wr hlt]
      exact hK _ _ ⟨k + 1, ws, rfl, hlt, hE, hO, hn⟩ (by dsimp only; omega)
  · rw [if_neg (by rw [h.n]; omega)]; exact hE
end
end Go.Proofs.Ytdoeegfcmbcbkaa.Ct

/- The plain law of what may stand: keys in order are apart; what a check says. -/
namespace Go.Proofs.Ytdoeegfcmbcbkaa.Ct
open Go Go.Eng Tr
set_option linter.unusedVariables false

theorem kLt_irrefl (k : Int) (n : ByteArray) : kLt k n k n = false := by simp [kLt, sLt_irrefl]
theorem kLt_trans {a b c : Int} {x y z : ByteArray} (h : kLt a x b y = true) (k : kLt b y c z = true) : kLt a x c z = true := by
  simp only [kLt, Bool.or_eq_true, decide_eq_true_eq, Bool.and_eq_true] at h k ⊢
  rcases h with h | ⟨rfl, h⟩
  · rcases k with k | ⟨rfl, k⟩
    · exact .inl (by omega)
    · exact .inl h
  · rcases k with k | ⟨rfl, k⟩
    · exact .inl k
    · exact .inr ⟨rfl, sLt_trans h k⟩
section
variable {l : List DRes}
theorem out_next (h : ∀ i, i < l.length → outAt l i = false) {j : Nat} (hj : j + 1 < l.length) : kLt l[j].kind l[j].name l[j + 1].kind l[j + 1].name = true := by
  have := h (j + 1) hj
  rw [outAt_eq hj] at this
  simp only [Bool.or_eq_false_iff, Nat.add_sub_cancel, List.getElem?_eq_getElem (show j < l.length by omega)] at this
  obtain ⟨_, _, _, h4⟩ := this
  simpa using h4
theorem out_lt (h : ∀ i, i < l.length → outAt l i = false) {i : Nat} : ∀ {j : Nat} (hj : j < l.length) (hij : i < j), kLt (l[i]'(by omega)).kind (l[i]'(by omega)).name l[j].kind l[j].name = true
  | j + 1, hj, hij => by
    by_cases e : i = j
    · subst e; exact out_next h hj
    · exact kLt_trans (out_lt h (j := j) (by omega) (by omega)) (out_next h hj)
theorem out_uniq (h : ∀ i, i < l.length → outAt l i = false) {i j : Nat} (hi : i < l.length) (hj : j < l.length) (hk : l[i].kind = l[j].kind) (hn : l[i].name = l[j].name) : i = j := by
  rcases Nat.lt_trichotomy i j with c | c | c
  · have := out_lt h hj c; rw [hk, hn, kLt_irrefl] at this; cases this
  · exact c
  · have := out_lt h hi c; rw [hk, hn, kLt_irrefl] at this; cases this
theorem fst?_neg {p : Nat → Bool} {n : Nat} (h : fst? p n < 0) : ∀ i, i < n → p i = false := fun i hi => by
  rcases fst?_le (p := p) (n := n) with h' | ⟨k, h1, _⟩
  · unfold fst? at h'
    cases hf : (List.range n).find? p with
    | none =>
      have := List.find?_eq_none.1 hf i (by simpa using hi)
      simpa using this
    | some k => rw [hf] at h'; simp only at h'; omega
  · omega
theorem splitOf_self (h : ∀ i, i < l.length → outAt l i = false) : ∀ d ∈ l, d.kind = 2 → splitOf l d.name = some d := fun d hd hk => by
  obtain ⟨i, hi, rfl⟩ := List.mem_iff_getElem.1 hd
  cases hf : splitOf l l[i].name with
  | none =>
    have := List.find?_eq_none.1 hf l[i] (List.getElem_mem hi)
    simp [hk] at this
  | some d' =>
    have h1 := List.find?_some hf
    have h2 := List.mem_of_find?_eq_some hf
    obtain ⟨j, hj, rfl⟩ := List.mem_iff_getElem.1 h2
    simp only [Bool.and_eq_true, decide_eq_true_eq] at h1
    have := out_uniq h hj hi (by rw [h1.1, hk]) h1.2
    subst this; rfl
theorem has_any (kind : Int) (n : ByteArray) : has l kind n = l.any fun d => decide (d.kind = kind) && decide (d.name = n) := by
  cases ha : l.any fun d => decide (d.kind = kind) && decide (d.name = n) with
  | true =>
    obtain ⟨d, hd, h⟩ := List.any_eq_true.1 ha
    obtain ⟨i, hi, rfl⟩ := List.mem_iff_getElem.1 hd
    unfold has
    rw [decide_eq_true_eq]
    by_cases c : 0 ≤ fst? (isAt l kind n) l.length
    · exact c
    · have := fst?_neg (by omega : fst? (isAt l kind n) l.length < 0) i hi
      rw [isAt_eq hi, h] at this; cases this
  | false =>
    unfold has
    rw [decide_eq_false_iff_not]
    rcases fst?_le (p := isAt l kind n) (n := l.length) with h' | ⟨k, h1, h2, h3⟩
    · omega
    · rw [isAt_eq h2] at h3
      have := List.any_eq_false.1 ha l[k] (List.getElem_mem h2)
      exact absurd h3 this
theorem has_split {n : ByteArray} (h : has l 2 n = true) : (splitOf l n).isSome = true := by
  obtain ⟨k, _, hk, h1, h2⟩ := has_at h
  unfold splitOf
  rw [List.find?_isSome]
  exact ⟨l[k], List.getElem_mem hk, by simp [h1, h2]⟩
/-! ### What a check says -/
def dangAt (l : List DRes) (i : Nat) : Bool := match l[i]? with
  | none => false
  | some d => decide (0 ≤ dang (has l) d)
def lineAt (l : List DRes) (i : Int) : Int := match l[i.toNat]? with
  | none => 0
  | some d => dang (has l) d
def twinAt (l : List DRes) (i : Nat) : Bool := match l[i]? with
  | none => false
  | some d => decide (d.kind = 3) && (l.take i).any fun c => decide (c.kind = 3) && decide (c.host = d.host)
def heavyAt (l : List DRes) (i : Nat) : Bool := match l[i]? with
  | none => false
  | some d => decide (d.kind = 2) && heavyS d.targets
def deepAt (l : List DRes) (i : Nat) : Bool := match l[i]? with
  | none => false
  | some d => decide (d.kind = 2) && decide (8 < hd l 8 d.name)
/-- the document, the line and the error that a check says -/
def faultS (l : List DRes) : Int × Int × Int :=
  let n := l.length
  if 0 ≤ fst? (outAt l) n then (fst? (outAt l) n, 0, 2)
  else if 64 < n then (0, 0, 124)
  else if 0 ≤ fst? (dangAt l) n then (fst? (dangAt l) n, lineAt l (fst? (dangAt l) n), 140)
  else if 0 ≤ fst? (twinAt l) n then (fst? (twinAt l) n, 0, 141)
  else if 0 ≤ fst? (heavyAt l) n then (fst? (heavyAt l) n, 0, 142)
  else if 0 ≤ fst? (deepAt l) n then (fst? (deepAt l) n, 0, 143)
  else (0, 0, 0)
theorem dangAt_eq {i : Nat} (h : i < l.length) : dangAt l i = decide (0 ≤ dang (has l) l[i]) := by simp only [dangAt, List.getElem?_eq_getElem h]
theorem lineAt_eq {i : Nat} (h : i < l.length) : lineAt l i = dang (has l) l[i] := by simp only [lineAt, Int.toNat_natCast, List.getElem?_eq_getElem h]
theorem twinAt_eq {i : Nat} (h : i < l.length) : twinAt l i = (decide (l[i].kind = 3) && (l.take i).any fun c => decide (c.kind = 3) && decide (c.host = l[i].host)) := by simp only [twinAt, List.getElem?_eq_getElem h]
theorem heavyAt_eq {i : Nat} (h : i < l.length) : heavyAt l i = (decide (l[i].kind = 2) && heavyS l[i].targets) := by simp only [heavyAt, List.getElem?_eq_getElem h]
theorem deepAt_eq {i : Nat} (h : i < l.length) : deepAt l i = (decide (l[i].kind = 2) && decide (8 < hd l 8 l[i].name)) := by simp only [deepAt, List.getElem?_eq_getElem h]
/-- where nothing leads nowhere, every split that is named stands -/
theorem no_dang (h : ∀ i, i < l.length → dangAt l i = false) : ∀ n d t, splitOf l n = some d → t ∈ kidsOf d → has l 2 t = true := fun n d t hs ht => by
  have h1 := List.find?_some hs
  have h2 := List.mem_of_find?_eq_some hs
  simp only [Bool.and_eq_true, decide_eq_true_eq] at h1
  obtain ⟨i, hi, rfl⟩ := List.mem_iff_getElem.1 h2
  have h3 := h i hi
  rw [dangAt_eq hi, decide_eq_false_iff_not] at h3
  unfold dang at h3
  rw [if_pos h1.1] at h3
  have h4 : fst? (badT (has l) l[i].targets) l[i].targets.length < 0 := by
    by_cases c : fst? (badT (has l) l[i].targets) l[i].targets.length < 0
    · exact c
    · unfold line? at h3; rw [if_neg c] at h3; omega
  have h5 := fst?_neg h4
  unfold kidsOf at ht
  obtain ⟨tt, htt, rfl⟩ := List.mem_map.1 ht
  obtain ⟨h6, h7⟩ := List.mem_filter.1 htt
  obtain ⟨k, hk, rfl⟩ := List.mem_iff_getElem.1 h6
  have h8 := h5 k hk
  rw [badT_eq hk, if_pos (by simpa using h7)] at h8
  simpa using h8
end
end Go.Proofs.Ytdoeegfcmbcbkaa.Ct

/- Contracts: the check of the program's package for layer 14. -/
namespace Go.Proofs.Ytdoeegfcmbcbkaa.Ct
open Go Go.Eng Tr
set_option linter.unusedVariables false
set_option maxRecDepth 100000

theorem Rd.low {α : Type} {cells : α → List Value} {sz : Nat} {F : Nat → Prop} {w : World} {s : Sl} {l : List α} (h : Rd cells sz F w s l) (h0 : ∀ x, 0 < (cells x).length) : Rd cells sz (fun b => F b ∧ b < w.heap.size) w s l :=
  ⟨h.len, h.cap, h.lim, fun k hk => let ⟨a, h1, h2, h3⟩ := h.el k hk; ⟨a, h1, ⟨h2, by
    have h4 := h3 0 (h0 _)
    have := World.block_lt_of_cell? w _ h4
    rwa [add_block, add_block] at this⟩, h3⟩⟩
theorem ConfD.low {F : Nat → Prop} {w : World} {s : Sl} {rs : List TResource} {l : List DRes} (h : ConfD F w s rs l) : ConfD (fun b => F b ∧ b < w.heap.size) w s rs l :=
  ⟨Rd.low h.rd (fun _ => by simp [TResource.cells]), h.len, fun i a b => let r := h.el i a b; ⟨r.kind, r.name, Rd.low r.ends (fun _ => by simp [bs]), Rd.low r.targets (fun _ => by simp [TTarget.cells]), r.host, Rd.low r.rules (fun _ => by simp [TRule.cells]), r.route, r.del⟩⟩
theorem oc_fault (x : TFault) : ∀ u ∈ TFault.cells x, u.oneCell' = true := by simp [TFault.cells, Value.oneCell']
theorem fault_out {w w' : World} {b : Nat} {g f : TFault} {K : TFault → World → Prop} (h3 : Blk w' b 80 (TFault.cells g)) (hE : Ext w w') (hb : w.heap.size ≤ b) (hk : ∀ w'', Ext w w'' → K f w'') :
    RnU PP (Instr.storeAt 80 (Ptr ⟨b, 0, none⟩) (TFault.v f)) w' fun w => RnR PP TFault.v (loadVar 80 ⟨b, 0, none⟩) w fun r => K r w :=
  rnu_st (b := b) (o := 0) rfl h3 (TFault.cells f) sz80 rfl (oc_fault f) (by simp [TFault.cells]) fun w2 c2 _ hb2 =>
    rnr_ldN (x := f) many80 (show Blk w2 b 80 (TFault.cells f) from hb2).whole rfl rfl (hk w2 (hE.then c2 fun x hx => by omega))
def faultM (l : List DRes) : TFault := ⟨(faultS l).1, (faultS l).2.1, (faultS l).2.2⟩
section
variable {l : List DRes} {k : Nat}
theorem fs_out (h : 0 ≤ fst? (outAt l) l.length) : faultM l = ⟨fst? (outAt l) l.length, 0, 2⟩ := by simp [faultM, faultS, h]
theorem fs_big (h : ¬ 0 ≤ fst? (outAt l) l.length) (h2 : 64 < l.length) : faultM l = ⟨0, 0, 124⟩ := by simp [faultM, faultS, h, h2]
theorem fs_dang (h : ¬ 0 ≤ fst? (outAt l) l.length) (h2 : ¬ 64 < l.length) (hk : k < l.length) (hp : dangAt l k = true) (ha : ∀ j, j < k → dangAt l j = false) : faultM l = ⟨k, dang (has l) l[k], 140⟩ := by
  have h3 := fst?_some hk hp ha
  simp [faultM, faultS, h, h2, h3, lineAt_eq hk]
theorem fs_twin (h : ¬ 0 ≤ fst? (outAt l) l.length) (h2 : ¬ 64 < l.length) (h3 : ∀ j, j < l.length → dangAt l j = false) (hk : k < l.length) (hp : twinAt l k = true) (ha : ∀ j, j < k → twinAt l j = false) : faultM l = ⟨k, 0, 141⟩ := by
  have e3 := fst?_none h3
  have h4 := fst?_some hk hp ha
  simp [faultM, faultS, h, h2, e3, h4]
theorem fs_heavy (h : ¬ 0 ≤ fst? (outAt l) l.length) (h2 : ¬ 64 < l.length) (h3 : ∀ j, j < l.length → dangAt l j = false) (h4 : ∀ j, j < l.length → twinAt l j = false) (hk : k < l.length) (hp : heavyAt l k = true) (ha : ∀ j, j < k → heavyAt l j = false) : faultM l = ⟨k, 0, 142⟩ := by
  have e3 := fst?_none h3
  have e4 := fst?_none h4
  have h5 := fst?_some hk hp ha
  simp [faultM, faultS, h, h2, e3, e4, h5]
theorem fs_deep (h : ¬ 0 ≤ fst? (outAt l) l.length) (h2 : ¬ 64 < l.length) (h3 : ∀ j, j < l.length → dangAt l j = false) (h4 : ∀ j, j < l.length → twinAt l j = false) (h5 : ∀ j, j < l.length → heavyAt l j = false) (hk : k < l.length) (hp : deepAt l k = true) (ha : ∀ j, j < k → deepAt l j = false) : faultM l = ⟨k, 0, 143⟩ := by
  have e3 := fst?_none h3
  have e4 := fst?_none h4
  have e5 := fst?_none h5
  have h6 := fst?_some hk hp ha
  simp [faultM, faultS, h, h2, e3, e4, e5, h6]
theorem fs_none (h : ¬ 0 ≤ fst? (outAt l) l.length) (h2 : ¬ 64 < l.length) (h3 : ∀ j, j < l.length → dangAt l j = false) (h4 : ∀ j, j < l.length → twinAt l j = false) (h5 : ∀ j, j < l.length → heavyAt l j = false) (h6 : ∀ j, j < l.length → deepAt l j = false) : faultM l = ⟨0, 0, 0⟩ := by
  have e3 := fst?_none h3
  have e4 := fst?_none h4
  have e5 := fst?_none h5
  have e6 := fst?_none h6
  simp [faultM, faultS, h, h2, e3, e4, e5, e6]
end
end Go.Proofs.Ytdoeegfcmbcbkaa.Ct

/- Contracts: the check of the program's package for layer 14, whole. -/
namespace Go.Proofs.Ytdoeegfcmbcbkaa.Ct
open Go Go.Eng Tr
set_option linter.unusedVariables false
set_option maxRecDepth 100000

/-- what is asked of a list of resources: texts and lists of sizes that memory has -/
structure Fit (l : List DRes) : Prop where
  paths : ∀ d ∈ l, ∀ r ∈ d.rules, r.Path.size ≤ maxLen
  tot : (tot l + 1) * 24 ≤ 140737488355328
section
variable {w : World} {F : Nat → Prop} {s : Sl} {rs : List TResource} {l : List DRes}
/-- the maps that a check fills first -/
structure Filled (l : List DRes) (rs : List TResource) (b3 b29 b30 b31 b33 : Nat) (k : Nat) (w : World) : Prop where
  b3 : Blk w b3 80 (TFault.cells ⟨0, 0, 0⟩)
  b33 : Blk w b33 148 [.map (some b30), .map (some b31)]
  known : Mp Value.string (Value.int .i64) w b31 []
  there : ∃ m, Mp TKey.v Value.bool w b29 m ∧ ∀ kd n, (mget m ⟨kd, n⟩).getD false = (l.take k).any fun d => decide (d.kind = kd) && decide (d.name = n)
  splits : ∃ ms, Mp Value.string TResource.v w b30 ms ∧ ∀ j (h : j < l.length) (h' : j < rs.length), j < k → l[j].kind = 2 → mget ms l[j].name = some rs[j]
theorem check_ok (h : ConfD F w s rs l) (hf : Fit l) :
    Cal PP (fun x : Sl × TFault => Value.tuple #[Sl.v x.1, TFault.v x.2]) 46 #[s.v] w fun x w' => Ext w w' ∧ x.2 = faultM l := by
  have hlow := h.low
  refine c46 ?_
  unfold f46
  refine New.mk fun b3 w1 e1 h3 n3 s3 => ?_
  refine (outs_ok (h.ext e1)).mono ?_; rintro _ w2 ⟨e2, rfl⟩
  replace h3 := h3.ext e2
  replace e1 := e1.trans e2
  have hsz := e1.size
  have g2 := e2.size
  by_cases c1 : 0 ≤ fst? (outAt l) l.length
  · exact iteT c1 (fault_out h3 e1 (by omega) fun w'' e => ⟨e, (fs_out c1).symm⟩)
  refine iteF c1 ?_
  by_cases c2 : 64 < l.length
  · exact iteT (by rw [h.n]; omega) (fault_out h3 e1 (by omega) fun w'' e => ⟨e, (fs_big c1 c2).symm⟩)
  refine iteF (by rw [h.n]; omega) ?_
  have hord := fst?_neg (by omega : fst? (outAt l) l.length < 0)
  refine NewM.mk fun b29 w3 e3 h29 n29 s29 => ?_
  refine NewM.mk fun b30 w4 e4 h30 n30 s30 => ?_
  refine NewM.mk fun b31 w5 e5 h31 n31 s31 => ?_
  refine New.mk fun b33 w6 e6 h33 n33 s33 => ?_
  have m29 : Mp TKey.v Value.bool w6 b29 [] := ((Mp.new h29).ext ((e4.trans e5).trans e6))
  have m30 : Mp Value.string TResource.v w6 b30 [] := ((Mp.new h30).ext (e5.trans e6))
  have m31 : Mp Value.string (Value.int .i64) w6 b31 [] := ((Mp.new h31).ext e6)
  have E6 := ((e3.trans e4).trans e5).trans e6
  have h3' := h3.ext E6
  have hl3 := h3.lt
  have E := e1.trans E6
  refine Lp.mk (fun (i : Int) w' => ∃ k : Nat, i = k ∧ k ≤ l.length ∧ Ext w w' ∧ w6.heap.size ≤ w'.heap.size ∧ Filled l rs b3 b29 b30 b31 b33 k w') (fun i => l.length - i.toNat)
    ⟨0, rfl, Nat.zero_le _, E, Nat.le_refl _, h3', h33, m31, ⟨[], m29, fun _ _ => rfl⟩, ⟨[], m30, fun j _ _ hj => absurd hj (Nat.not_lt_zero _)⟩⟩ ?_
  rintro i w7 K ⟨k, rfl, hk, hE, hge, hF⟩ hK
  by_cases hlt : k < l.length
  · rw [if_pos (by rw [h.n]; omega)]
    refine ⟨fun _ w' => Ext w w' ∧ w6.heap.size ≤ w'.heap.size ∧ Filled l rs b3 b29 b30 b31 b33 (k + 1) w', ?_, ?_⟩
    · have hlr : k < rs.length := by rw [h.len]; exact hlt
      have hr := h.el k hlr hlt
      refine rnp_idx sl22 (h.ext hE).rd hlr rfl fun p _ hp => ?_
      refine rn_ldN (x := rs[k]) many48 hp rfl rfl ?_
      refine New.var (TResource.cells rs[k]) sz48 rfl (oc_res _) rfl fun b8 w8 e8 h8 nb8 => ?_
      refine rn_blkN (x := rs[k]) many48 h8 rfl rfl ?_
      refine (of_ok _).mono ?_; rintro _ w9 ⟨e9, rfl⟩
      have e89 := e8.trans e9
      replace h8 := h8.ext e9
      replace hE := hE.trans e89
      obtain ⟨m, hm, hmm⟩ := hF.there
      obtain ⟨ms, hms, hmss⟩ := hF.splits
      have f3 := hF.b3.ext e89; have f33 := hF.b33.ext e89; have fk := hF.known.ext e89
      replace hm := hm.ext e89; replace hms := hms.ext e89
      have gsz := e8.size
      refine rnu_put (k := (⟨rs[k].Kind, rs[k].Name⟩ : TKey)) (v := true) mapT115 hm fun w10 c10 hm10 s10 => ?_
      have E10 := hE.then c10 (fun b hb => by omega)
      replace f3 := f3.chg c10 (by omega); replace f33 := f33.chg c10 (by omega); replace fk := fk.chg c10 (by omega)
      replace hms := hms.chg c10 (by omega); replace h8 := h8.chg c10 (by omega)
      have gsz9 := e9.size
      have there : ∀ kd n, (mget (mput m ⟨rs[k].Kind, rs[k].Name⟩ true) ⟨kd, n⟩).getD false = (l.take (k + 1)).any fun d => decide (d.kind = kd) && decide (d.name = n) := fun kd n => by
        rw [any_succ hlt, mget_put, ← hmm kd n, hr.kind, hr.name]
        by_cases c : (⟨l[k].kind, l[k].name⟩ : TKey) = ⟨kd, n⟩
        · rw [if_pos c]; cases c; simp
        · rw [if_neg c]
          have : (decide (l[k].kind = kd) && decide (l[k].name = n)) = false := by
            by_cases c3 : l[k].kind = kd
            · by_cases c4 : l[k].name = n
              · exact absurd (by rw [c3, c4]) c
              · simp [c4]
            · simp [c3]
          rw [this, Bool.or_false]
      refine rn_blk one3 h8 rfl rfl ?_
      rw [hr.kind]
      by_cases c : l[k].kind = 2
      · refine iteT c ?_
        refine Dr.mk fun w11 e11 hh11 => ?_
        have E11 := E10.trans e11
        replace f3 := f3.ext e11; replace f33 := f33.ext e11; replace fk := fk.ext e11; replace hms := hms.ext e11; replace h8 := h8.ext e11; replace hm10 := hm10.ext e11
        refine rnl_blk one145 f33 rfl rfl ?_
        refine rnl_blk one9 h8 rfl rfl ?_
        refine rnl_ldN (x := rs[k]) many48 h8.whole rfl rfl ?_
        refine rnu_put (k := rs[k].Name) (v := rs[k]) mapT145 hms fun w12 c12 hms12 s12 => ?_
        have g11 := e11.size
        refine ⟨E11.then c12 (fun b hb => by omega), by omega, f3.chg c12 (by omega), f33.chg c12 (by omega), fk.chg c12 (by omega), ⟨_, hm10.chg c12 (by omega), there⟩, ⟨_, hms12, fun j hj hj' hjk hk2 => ?_⟩⟩
        rw [mget_put, hr.name]
        by_cases ce : l[k].name = l[j].name
        · rw [if_pos ce]
          have : k = j := out_uniq hord hlt hj (by rw [c, hk2]) ce
          subst this; rfl
        · rw [if_neg ce]
          exact hmss j hj hj' (by
            by_cases e : j = k
            · subst e; exact absurd rfl ce
            · omega) hk2
      · refine iteF c ⟨E10, by omega, f3, f33, fk, ⟨_, hm10, there⟩, ⟨_, hms, fun j hj hj' hjk hk2 => hmss j hj hj' (by
            by_cases e : j = k
            · subst e; exact absurd hk2 c
            · omega) hk2⟩⟩
    · rintro _ w8 ⟨hE, hge, hF⟩
      rw [h.wr hlt]
      exact hK _ _ ⟨k + 1, rfl, hlt, hE, hge, hF⟩ (by omega)
  rw [if_neg (by rw [h.n]; omega)]
  obtain rfl : k = l.length := by omega
  clear hK
  obtain ⟨m, hm, hmm⟩ := hF.there
  obtain ⟨ms, hms, hmss⟩ := hF.splits
  have hh : ∀ kd n, (mget m ⟨kd, n⟩).getD false = has l kd n := fun kd n => by rw [hmm, has_any, List.take_length]
  have f3 := hF.b3; have f33 := hF.b33; have fk := hF.known
  refine NewM.mk fun b54 w8 e8 h54 n54 s54 => ?_
  replace f3 := f3.ext e8; replace f33 := f33.ext e8; replace fk := fk.ext e8; replace hm := hm.ext e8; replace hms := hms.ext e8
  have m54 : Mp Value.string Value.bool w8 b54 [] := Mp.new h54
  replace hE := hE.trans e8
  clear hF
  -- what leads nowhere
  refine Lp.mk (fun (i : Int) w' => ∃ k : Nat, i = k ∧ k ≤ l.length ∧ Ext w8 w' ∧ ∀ j, j < k → dangAt l j = false) (fun i => l.length - i.toNat) ⟨0, rfl, Nat.zero_le _, Ext.refl _, fun j hj => absurd hj (Nat.not_lt_zero _)⟩ ?_
  rintro i w9 K ⟨k, rfl, hk, E9, hall⟩ hK
  by_cases hlt : k < l.length
  · rw [if_pos (by rw [h.n]; omega)]
    have hlr : k < rs.length := by rw [h.len]; exact hlt
    have hr := h.el k hlr hlt
    have hE9 := hE.trans E9
    refine rnp_idx sl22 (h.ext hE9).rd hlr rfl fun p _ hp => ?_
    refine rn_ldN (x := rs[k]) many48 hp rfl rfl ?_
    refine New.var (TResource.cells rs[k]) sz48 rfl (oc_res _) rfl fun b11 w10 e10 h11 nb11 => ?_
    refine rn_blkN (x := rs[k]) many48 h11 rfl rfl ?_
    have E10 := E9.trans e10
    refine (dangling_ok (hr.ext (hE.trans E10)) (hm.ext E10) hh).mono ?_; rintro _ w11 ⟨e11, rfl⟩
    have E11 := E10.trans e11
    have hd := dangAt_eq hlt
    by_cases c : 0 ≤ dang (has l) l[k]
    · exact iteT c (fault_out (f3.ext E11) (hE.trans E11) (by omega) fun w'' e => ⟨e, (fs_dang c1 c2 hlt (by rw [hd]; simpa using c) hall).symm⟩)
    · refine iteF c ?_
      rw [h.wr hlt]
      exact hK _ _ ⟨k + 1, rfl, hlt, E11, all_succ hall (by rw [hd]; simpa using c)⟩ (by omega)
  rw [if_neg (by rw [h.n]; omega)]
  obtain rfl : k = l.length := by omega
  clear hK
  have hdang := hall
  clear hall
  replace f3 := f3.ext E9; replace f33 := f33.ext E9; replace fk := fk.ext E9; replace hms := hms.ext E9; replace m54 := m54.ext E9; replace hE := hE.trans E9
  clear hm
  -- hosts
  refine Lp.mk (fun (i : Int) w' => ∃ k : Nat, i = k ∧ k ≤ l.length ∧ Ext w w' ∧ w9.heap.size ≤ w'.heap.size ∧ Blk w' b3 80 (TFault.cells ⟨0, 0, 0⟩) ∧ Blk w' b33 148 [.map (some b30), .map (some b31)] ∧ Mp Value.string (Value.int .i64) w' b31 [] ∧ Mp Value.string TResource.v w' b30 ms ∧
      (∃ m, Mp Value.string Value.bool w' b54 m ∧ ∀ n, (mget m n).getD false = (l.take k).any fun d => decide (d.kind = 3) && decide (d.host = n)) ∧ ∀ j, j < k → twinAt l j = false) (fun i => l.length - i.toNat)
    ⟨0, rfl, Nat.zero_le _, hE, Nat.le_refl _, f3, f33, fk, hms, ⟨[], m54, fun _ => rfl⟩, fun j hj => absurd hj (Nat.not_lt_zero _)⟩ ?_
  have g9 := E9.size
  clear f3 f33 fk hms m54 hE
  rintro i w10 K ⟨k, rfl, hk, hE, hg, f3, f33, fk, hms, ⟨m, hm, hmm⟩, hall⟩ hK
  by_cases hlt : k < l.length
  · rw [if_pos (by rw [h.n]; omega)]
    have hlr : k < rs.length := by rw [h.len]; exact hlt
    have hr := h.el k hlr hlt
    have ht := twinAt_eq hlt
    refine Jn.dup ?_
    refine rnp_idx sl22 (h.ext hE).rd hlr rfl fun p _ hp => ?_
    refine rn_ldN (x := rs[k]) many48 hp rfl rfl ?_
    refine New.var (TResource.cells rs[k]) sz48 rfl (oc_res _) rfl fun b14 w11 e11 h14 nb14 => ?_
    replace hE := hE.trans e11; replace f3 := f3.ext e11; replace f33 := f33.ext e11; replace fk := fk.ext e11; replace hms := hms.ext e11; replace hm := hm.ext e11
    have g11 := e11.size
    refine ⟨fun x w' => w' = w11 ∧ x = twinAt l k, ?_, ?_⟩
    · refine rn_blk one3 h14 rfl rfl ?_
      rw [hr.kind]
      by_cases c : l[k].kind = 3
      · refine iteT c ?_
        refine rn_blk one9 h14 rfl rfl ?_
        refine rn_get mapT149 hm ⟨rfl, ?_⟩
        rw [ht, hmm, hr.host]; simp [c]
      · exact iteF c ⟨rfl, by rw [ht]; simp [c]⟩
    rintro x w11 ⟨rfl, rfl⟩
    cases c : twinAt l k with
    | true => exact iteT rfl (fault_out f3 hE (by omega) fun w'' e => ⟨e, (fs_twin c1 c2 hdang hlt c hall).symm⟩)
    | false =>
      refine iteF (by simp) ?_
      refine rn_blk one9 h14 rfl rfl ?_
      refine rn_blk one9 h14 rfl rfl ?_
      refine rn_get mapT149 hm ?_
      have fin : ∀ v : Bool, v = ((mget m l[k].host).getD false || decide (l[k].kind = 3)) → RnU PP (Instr.mapUpdate 149 (.map (some b54)) (.string rs[k].Host) (.bool v)) w11 fun w => K (IntKind.i64.wrap ((k : Int) + 1)) w := fun v hv =>
        rnu_put (k := rs[k].Host) (v := v) mapT149 hm fun w12 c12 hm12 s12 => by
          rw [h.wr hlt]
          refine hK _ _ ⟨k + 1, rfl, hlt, hE.then c12 (fun b hb => by omega), by omega, f3.chg c12 (by omega), f33.chg c12 (by omega), fk.chg c12 (by omega), hms.chg c12 (by omega), ⟨_, hm12, fun n => ?_⟩, all_succ hall c⟩ (by omega)
          rw [any_succ hlt, mget_put, ← hmm n, hr.host]
          by_cases ce : l[k].host = n
          · rw [if_pos ce, hv, ce]; simp
          · rw [if_neg ce]; simp [ce]
      rw [hr.host]
      rw [hr.host] at fin
      cases cg : (mget m l[k].host).getD false with
      | true => exact iteT rfl (fin true (by rw [cg]; rfl))
      | false =>
        refine iteF (by simp) ?_
        refine rn_blk one3 h14 rfl rfl ?_
        rw [hr.kind]
        exact fin _ (by rw [cg]; rfl)
  rw [if_neg (by rw [h.n]; omega)]
  obtain rfl : k = l.length := by omega
  clear hK
  have htwin := hall
  clear hall hm hmm
  -- weights
  refine Lp.mk (fun (i : Int) w' => ∃ k : Nat, i = k ∧ k ≤ l.length ∧ Ext w10 w' ∧ ∀ j, j < k → heavyAt l j = false) (fun i => l.length - i.toNat) ⟨0, rfl, Nat.zero_le _, Ext.refl _, fun j hj => absurd hj (Nat.not_lt_zero _)⟩ ?_
  rintro i w11 K ⟨k, rfl, hk, E11, hall⟩ hK
  by_cases hlt : k < l.length
  · rw [if_pos (by rw [h.n]; omega)]
    have hlr : k < rs.length := by rw [h.len]; exact hlt
    have hr := h.el k hlr hlt
    have ht := heavyAt_eq hlt
    refine rnp_idx sl22 (h.ext (hE.trans E11)).rd hlr rfl fun p _ hp => ?_
    refine rn_ldN (x := rs[k]) many48 hp rfl rfl ?_
    refine New.var (TResource.cells rs[k]) sz48 rfl (oc_res _) rfl fun b16 w12 e12 h16 _ => ?_
    have E12 := E11.trans e12
    refine ⟨fun x w' => Ext w10 w' ∧ x = heavyAt l k, ?_, ?_⟩
    · refine rn_blk one3 h16 rfl rfl ?_
      rw [hr.kind]
      by_cases c : l[k].kind = 2
      · refine iteT c ?_
        refine rn_blkN (x := rs[k]) many48 h16 rfl rfl ?_
        refine (heavy_ok (hr.ext (hE.trans E12))).mono ?_; rintro _ w13 ⟨e13, rfl⟩
        exact ⟨E12.trans e13, by rw [ht]; simp [c]⟩
      · exact iteF c ⟨E12, by rw [ht]; simp [c]⟩
    rintro x w13 ⟨E13, rfl⟩
    cases c : heavyAt l k with
    | true => exact iteT rfl (fault_out (f3.ext E13) (hE.trans E13) (by omega) fun w'' e => ⟨e, (fs_heavy c1 c2 hdang htwin hlt c hall).symm⟩)
    | false =>
      refine iteF (by simp) ?_
      rw [h.wr hlt]
      exact hK _ _ ⟨k + 1, rfl, hlt, E13, all_succ hall c⟩ (by omega)
  rw [if_neg (by rw [h.n]; omega)]
  obtain rfl : k = l.length := by omega
  clear hK
  have hheavy := hall
  clear hall
  -- depths
  replace hE := hE.trans E11; replace f3 := f3.ext E11; replace f33 := f33.ext E11; replace fk := fk.ext E11; replace hms := hms.ext E11
  have hnd := no_dang hdang
  have hms' : ∀ n d, splitOf l n = some d → ∃ i, ∃ h : i < rs.length, l[i]? = some d ∧ mget ms n = some rs[i] := fun n d hs => by
    have h1 := List.find?_some hs
    simp only [Bool.and_eq_true, decide_eq_true_eq] at h1
    obtain ⟨i, hi, rfl⟩ := List.mem_iff_getElem.1 (List.mem_of_find?_eq_some hs)
    have hir : i < rs.length := by rw [h.len]; exact hi
    exact ⟨i, hir, List.getElem?_eq_getElem hi, by rw [← h1.2]; exact hmss i hi hir hi h1.1⟩
  have hlowE := hlow.ext hE
  have hW : DepW (fun b => F b ∧ b < w.heap.size) s rs l b30 b31 b33 ms w11 := ⟨hlowE, fun b hb => by have := hb.2; omega, f33, hms, by omega, by omega⟩
  refine Lp.mk (fun (i : Int) w' => ∃ k : Nat, i = k ∧ k ≤ l.length ∧ Ext w w' ∧ DepW (fun b => F b ∧ b < w.heap.size) s rs l b30 b31 b33 ms w' ∧ Blk w' b3 80 (TFault.cells ⟨0, 0, 0⟩) ∧
      (∃ m, Mp Value.string (Value.int .i64) w' b31 m ∧ Inv l m (fun _ => False)) ∧ ∀ j, j < k → deepAt l j = false) (fun i => l.length - i.toNat)
    ⟨0, rfl, Nat.zero_le _, hE, hW, f3, ⟨[], fk, fun n v hv => by cases hv⟩, fun j hj => absurd hj (Nat.not_lt_zero _)⟩ ?_
  clear hW f3 hE hlowE
  rintro i w12 K ⟨k, rfl, hk, hE, hW, f3, ⟨m, hm, hI⟩, hall⟩ hK
  by_cases hlt : k < l.length
  · rw [if_pos (by rw [h.n]; omega)]
    have hlr : k < rs.length := by rw [h.len]; exact hlt
    have hr := h.el k hlr hlt
    have ht := deepAt_eq hlt
    refine rnp_idx sl22 (h.ext hE).rd hlr rfl fun p _ hp => ?_
    refine rn_ldN (x := rs[k]) many48 hp rfl rfl ?_
    refine New.var (TResource.cells rs[k]) sz48 rfl (oc_res _) rfl fun b18 w13 e13 h18 nb18 => ?_
    replace hE := hE.trans e13; replace hm := hm.ext e13; replace f3 := f3.ext e13
    have hW13 := hW.chg (e13.chg _)
    refine ⟨fun x w' => Ext w w' ∧ DepW (fun b => F b ∧ b < w.heap.size) s rs l b30 b31 b33 ms w' ∧ Blk w' b3 80 (TFault.cells ⟨0, 0, 0⟩) ∧ (∃ m, Mp Value.string (Value.int .i64) w' b31 m ∧ Inv l m (fun _ => False)) ∧ x = deepAt l k, ?_, ?_⟩
    · refine rn_blk one3 h18 rfl rfl ?_
      rw [hr.kind]
      by_cases c : l[k].kind = 2
      · refine iteT c ?_
        refine rn_blk one9 h18 rfl rfl ?_
        rw [hr.name]
        have hsp := splitOf_self hord _ (List.getElem_mem hlt) c
        refine (of_dep hms' (fun n d t a b => has_split (hnd n d t a b)) _ w13 m (fun _ => False) l[k].name (Nat.le_refl _) hW13 hm hI (fun _ h => h.elim) (by rw [hsp]; rfl)).mono ?_
        rintro v w14 ⟨rfl, c14, m', hm', hI', _⟩
        refine ⟨hE.then c14 (fun b hb => by omega), hW13.chg c14, f3.chg c14 (by omega), ⟨m', hm', hI'⟩, ?_⟩
        rw [ht]; simp [c]; omega
      · exact iteF c ⟨hE, hW13, f3, ⟨m, hm, hI⟩, by rw [ht]; simp [c]⟩
    rintro x w14 ⟨hE, hW, f3, hmI, rfl⟩
    cases c : deepAt l k with
    | true => exact iteT rfl (fault_out f3 hE (by omega) fun w'' e => ⟨e, (fs_deep c1 c2 hdang htwin hheavy hlt c hall).symm⟩)
    | false =>
      refine iteF (by simp) ?_
      rw [h.wr hlt]
      exact hK _ _ ⟨k + 1, rfl, hlt, hE, hW, f3, hmI, all_succ hall c⟩ (by omega)
  rw [if_neg (by rw [h.n]; omega)]
  obtain rfl : k = l.length := by omega
  refine (shadows_ok (h.ext hE) hf.paths hf.tot).mono ?_
  rintro x w13 e13
  exact fault_out (f3.ext e13) (hE.trans e13) (by omega) fun w'' e => ⟨e, (fs_none c1 c2 hdang htwin hheavy hall).symm⟩
end
end Go.Proofs.Ytdoeegfcmbcbkaa.Ct

/- Contracts: the check of the document's package for layer 14, whole. -/
namespace Go.Proofs.Ytdoeegfcmbcbkaa.Ct
open Go Go.Eng Tr
set_option linter.unusedVariables false
set_option maxRecDepth 100000

def toRef (f : TFault) : TFault14 := ⟨f.Doc, f.Line, f.Err⟩
theorem oc_fault14 (x : TFault14) : ∀ u ∈ TFault14.cells x, u.oneCell' = true := by simp [TFault14.cells, Value.oneCell']
theorem fault_out14 {w w' : World} {b : Nat} {g f : TFault14} {K : TFault14 → World → Prop} (h3 : Blk w' b 101 (TFault14.cells g)) (hE : Ext w w') (hb : w.heap.size ≤ b) (hk : ∀ w'', Ext w w'' → K f w'') :
    RnU PP (Instr.storeAt 101 (Ptr ⟨b, 0, none⟩) (TFault14.v f)) w' fun w => RnR PP TFault14.v (loadVar 101 ⟨b, 0, none⟩) w fun r => K r w :=
  rnu_st (b := b) (o := 0) rfl h3 (TFault14.cells f) sz101 rfl (oc_fault14 f) (by simp [TFault14.cells]) fun w2 c2 _ hb2 =>
    rnr_ldN (x := f) many101 (show Blk w2 b 101 (TFault14.cells f) from hb2).whole rfl rfl (hk w2 (hE.then c2 fun x hx => by omega))
theorem oc_warn14 (x : TWarning14) : ∀ u ∈ TWarning14.cells x, u.oneCell' = true := by simp [TWarning14.cells, Value.oneCell']
/-- the bounds of a sum that is one hundred -/
theorem lo_run : FloatKind.f64.format.sub 4636737291354636288 4517110426252607488 = some 4636737291287527424 := by decide +kernel
theorem hi_run : FloatKind.f64.format.add 4636737291354636288 4517110426252607488 = some 4636737291421745152 := by decide +kernel
section
variable {w : World} {F : Nat → Prop} {s : Sl} {rs : List TResource} {l : List DRes}
/-- a pair of hosts: place j ahead of place i -/
def pairAt (l : List DRes) (i j : Nat) : Bool := match l[i]?, l[j]? with
  | some d, some c => decide (d.kind = 3) && (decide (c.kind = 3) && decide (d.host = c.host))
  | _, _ => false
theorem pairAt_eq {i j : Nat} (hi : i < l.length) (hj : j < l.length) : pairAt l i j = (decide (l[i].kind = 3) && (decide (l[j].kind = 3) && decide (l[i].host = l[j].host))) := by
  simp only [pairAt, List.getElem?_eq_getElem hi, List.getElem?_eq_getElem hj]
theorem twin_yes {i j : Nat} (hi : i < l.length) (hj : j < i) (h : pairAt l i j = true) : twinAt l i = true := by
  rw [pairAt_eq hi (by omega)] at h
  simp only [Bool.and_eq_true, decide_eq_true_eq] at h
  rw [twinAt_eq hi]
  simp only [Bool.and_eq_true, decide_eq_true_eq]
  refine ⟨h.1, List.any_eq_true.2 ⟨l[j]'(by omega), ?_, by simp [h.2.1, h.2.2]⟩⟩
  rw [List.mem_take_iff_getElem]
  exact ⟨j, by omega, rfl⟩
theorem twin_no {i : Nat} (hi : i < l.length) (h : ∀ j, j < i → pairAt l i j = false) : twinAt l i = false := by
  rw [twinAt_eq hi]
  by_cases c : l[i].kind = 3
  · simp only [c, decide_true, Bool.true_and]
    rw [List.any_eq_false]
    intro x hx
    obtain ⟨j, hj, rfl⟩ := List.mem_take_iff_getElem.1 hx
    have := h j (by omega)
    rw [pairAt_eq hi (by omega)] at this
    simp only [c, decide_true, Bool.true_and] at this
    simp only [Bool.not_eq_true]
    rw [← this, decide_eq_decide.2 (eq_comm : l[j].host = l[i].host ↔ l[i].host = l[j].host)]
  · simp [c]
end
end Go.Proofs.Ytdoeegfcmbcbkaa.Ct

/- Contracts: the check of the document's package for layer 14, whole (walk). -/
namespace Go.Proofs.Ytdoeegfcmbcbkaa.Ct
open Go Go.Eng Tr
set_option linter.unusedVariables false
set_option maxRecDepth 100000

section
variable {w : World} {F : Nat → Prop} {s : Sl} {rs : List TResource} {l : List DRes}
theorem refCheck_ok (h : ConfD F w s rs l) (hf : Fit l) :
    Cal PP (fun x : Sl × TFault14 => Value.tuple #[Sl.v x.1, TFault14.v x.2]) 58 #[s.v] w fun x w' => Ext w w' ∧ x.2 = toRef (faultM l) := by
  refine c58 ?_
  unfold f58
  refine New.mk fun b3 w1 e1 h3 n3 s3 => ?_
  refine (refOut_ok (h.ext e1)).mono ?_; rintro _ w2 ⟨e2, rfl⟩
  replace h3 := h3.ext e2
  replace e1 := e1.trans e2
  by_cases c1 : 0 ≤ fst? (outAt l) l.length
  · exact iteT c1 (fault_out14 h3 e1 (by omega) fun w'' e => ⟨e, by rw [fs_out c1]; rfl⟩)
  refine iteF c1 ?_
  by_cases c2 : 64 < l.length
  · exact iteT (by rw [h.n]; omega) (fault_out14 h3 e1 (by omega) fun w'' e => ⟨e, by rw [fs_big c1 c2]; rfl⟩)
  refine iteF (by rw [h.n]; omega) ?_
  have hord := fst?_neg (by omega : fst? (outAt l) l.length < 0)
  -- what leads nowhere
  refine Lp.mk (fun (i : Int) w' => ∃ k : Nat, i = k ∧ k ≤ l.length ∧ Ext w w' ∧ Ext w2 w' ∧ ∀ j, j < k → dangAt l j = false) (fun i => l.length - i.toNat) ⟨0, rfl, Nat.zero_le _, e1, Ext.refl _, fun j hj => absurd hj (Nat.not_lt_zero _)⟩ ?_
  rintro i w9 K ⟨k, rfl, hk, hE, E9, hall⟩ hK
  by_cases hlt : k < l.length
  · rw [if_pos (by rw [h.n]; omega)]
    refine (h.ext hE).idx hlt rfl fun p r _ hp hr => ?_
    refine rn_ldN (x := r) many48 hp rfl rfl ?_
    refine (refDangling_ok (h.ext hE) hr).mono ?_; rintro _ w11 ⟨e11, rfl⟩
    have hd := dangAt_eq hlt
    by_cases c : 0 ≤ dang (has l) l[k]
    · exact iteT c (fault_out14 (h3.ext (E9.trans e11)) (hE.trans e11) (by omega) fun w'' e => ⟨e, by rw [fs_dang c1 c2 hlt (by rw [hd]; simpa using c) hall]; rfl⟩)
    · refine iteF c ?_
      rw [h.wr hlt]
      exact hK _ _ ⟨k + 1, rfl, hlt, hE.trans e11, E9.trans e11, all_succ hall (by rw [hd]; simpa using c)⟩ (by omega)
  rw [if_neg (by rw [h.n]; omega)]
  obtain rfl : k = l.length := by omega
  clear hK
  have hdang := hall
  clear hall
  replace h3 := h3.ext E9
  -- hosts
  refine Lp.mk (fun (i : Int) w' => ∃ k : Nat, i = k ∧ k ≤ l.length ∧ Ext w w' ∧ Ext w9 w' ∧ ∀ j, j < k → twinAt l j = false) (fun i => l.length - i.toNat) ⟨0, rfl, Nat.zero_le _, hE, Ext.refl _, fun j hj => absurd hj (Nat.not_lt_zero _)⟩ ?_
  clear hE E9
  rintro i w10 K ⟨k, rfl, hk, hE, E10, hall⟩ hK
  by_cases hlt : k < l.length
  · rw [if_pos (by rw [h.n]; omega)]
    refine Lp.mk (fun (i : Int) w' => ∃ q : Nat, i = q ∧ q ≤ k ∧ Ext w w' ∧ Ext w9 w' ∧ ∀ j, j < q → pairAt l k j = false) (fun i => k - i.toNat) ⟨0, rfl, Nat.zero_le _, hE, E10, fun j hj => absurd hj (Nat.not_lt_zero _)⟩ ?_
    clear hE E10
    rintro i w11 K2 ⟨q, rfl, hq, hE, E11, hall2⟩ hK2
    by_cases hqk : q < k
    · rw [if_pos (by omega)]
      have hp := pairAt_eq hlt (by omega : q < l.length)
      refine ⟨fun x w' => Ext w w' ∧ Ext w9 w' ∧ x = pairAt l k q, ?_, ?_⟩
      · refine Dr.mk fun w12 e12 _ => ?_
        replace hE := hE.trans e12; replace E11 := E11.trans e12
        refine (h.ext hE).idx hlt rfl fun p r _ hp' hr => ?_
        refine rnl_at one3 hp' rfl ?_
        rw [hr.kind]
        by_cases c : l[k].kind = 3
        · refine iteT c ?_
          refine (h.ext hE).idx (k := q) (by omega) rfl fun p r _ hp' hr => ?_
          refine rnl_at one3 hp' rfl ?_
          rw [hr.kind]
          by_cases c' : l[q].kind = 3
          · refine iteT c' ?_
            refine (h.ext hE).idx hlt rfl fun p r _ hp' hr => ?_
            refine rnl_at one9 hp' rfl ?_
            refine (h.ext hE).idx (k := q) (by omega) rfl fun p r' _ hp' hr' => ?_
            refine rnl_at one9 hp' rfl ?_
            exact ⟨hE, E11, by rw [hp, hr.host, hr'.host]; simp [c, c']⟩
          · exact iteF c' ⟨hE, E11, by rw [hp]; simp [c']⟩
        · exact iteF c ⟨hE, E11, by rw [hp]; simp [c]⟩
      rintro x w12 ⟨hE, E12, rfl⟩
      cases c : pairAt l k q with
      | true => exact iteT rfl (fault_out14 (h3.ext E12) hE (by omega) fun w'' e => ⟨e, by rw [fs_twin c1 c2 hdang hlt (twin_yes hlt hqk c) hall]; rfl⟩)
      | false =>
        refine iteF (by simp) ?_
        rw [h.wr (by omega : q < l.length)]
        exact hK2 _ _ ⟨q + 1, rfl, hqk, hE, E12, all_succ hall2 c⟩ (by omega)
    · rw [if_neg (by omega), h.wr hlt]
      exact hK _ _ ⟨k + 1, rfl, hlt, hE, E11, all_succ hall (twin_no hlt fun j hj => hall2 j (by omega))⟩ (by omega)
  rw [if_neg (by rw [h.n]; omega)]
  obtain rfl : k = l.length := by omega
  clear hK
  have htwin := hall
  clear hall
  replace h3 := h3.ext E10
  -- weights
  refine Lp.mk (fun (i : Int) w' => ∃ k : Nat, i = k ∧ k ≤ l.length ∧ Ext w w' ∧ Ext w10 w' ∧ ∀ j, j < k → heavyAt l j = false) (fun i => l.length - i.toNat) ⟨0, rfl, Nat.zero_le _, hE, Ext.refl _, fun j hj => absurd hj (Nat.not_lt_zero _)⟩ ?_
  clear hE E10
  rintro i w11 K ⟨k, rfl, hk, hE, E11, hall⟩ hK
  by_cases hlt : k < l.length
  · rw [if_pos (by rw [h.n]; omega)]
    have ht := heavyAt_eq hlt
    refine Lp.mk (fun (y : Nat × Bool × Int) w' => ∃ q : Nat, y.2.2 = q ∧ q ≤ l[k].targets.length ∧ Ext w w' ∧ Ext w10 w' ∧ Fl (fsum (l[k].targets.take q)) y.1 ∧ y.2.1 = !(l[k].targets.take q).any badW) (fun y => l[k].targets.length - y.2.2.toNat)
      ⟨0, rfl, Nat.zero_le _, hE, E11, rfl, rfl⟩ ?_
    clear hE E11
    rintro ⟨x, fine, _⟩ w12 K2 ⟨q, rfl, hq, hE, E12, hfl, rfl⟩ hK2
    dsimp only at hfl ⊢
    refine (h.ext hE).idx hlt rfl fun p r _ hp hr => ?_
    refine rn_at one45 hp rfl ?_
    by_cases hql : q < l[k].targets.length
    · refine iteT (by rw [hr.targets.len]; omega) ?_
      refine (h.ext hE).idx hlt rfl fun p r _ hp hr => ?_
      refine rn_at one45 hp rfl ?_
      refine rnp_idx sl45 hr.targets hql rfl fun p _ hp => ?_
      refine rn_at one30 hp rfl ?_
      refine ⟨fun y w' => w' = w12 ∧ y = !(l[k].targets.take (q + 1)).any badW, ?_, ?_⟩
      · rw [any_succ hql]
        cases ca : (l[k].targets.take q).any badW with
        | true => exact iteF (by simp) ⟨rfl, rfl⟩
        | false =>
          refine iteT rfl ?_
          cases cg : fGe l[k].targets[q].Weight 0 with
          | true => exact iteT rfl ⟨rfl, by simp [badW, okW, cg]⟩
          | false => exact iteF (by simp) ⟨rfl, by simp [badW, okW, cg]⟩
      rintro y w12 ⟨rfl, rfl⟩
      refine rn_add hfl fun v w13 hv e13 _ => ?_
      rw [hr.targets.wr hql]
      exact hK2 _ _ ⟨q + 1, rfl, hql, hE.trans e13, E12.trans e13, by rw [fsum_succ hql]; exact hv, rfl⟩ (by dsimp only; omega)
    · refine iteF (by rw [hr.targets.len]; omega) ?_
      obtain rfl : q = l[k].targets.length := by omega
      rw [List.take_length] at hfl
      rw [List.take_length]
      refine ⟨fun y w' => Ext w w' ∧ Ext w10 w' ∧ y = heavyAt l k, ?_, ?_⟩
      · refine (h.ext hE).idx hlt rfl fun p r _ hp hr => ?_
        refine rn_at one3 hp rfl ?_
        rw [hr.kind]
        by_cases c : l[k].kind = 2
        · refine iteT c ?_
          cases ca : l[k].targets.any badW with
          | true => exact iteF (by simp) ⟨hE, E12, by rw [ht]; simp [c, heavyS, ca]⟩
          | false =>
            refine iteT rfl ?_
            refine arith_run .sub _ rfl fun v w13 hv e13 _ => ?_
            rw [show FloatKind.f64.format.sub 4636737291354636288 4517110426252607488 = some 4636737291287527424 from lo_run] at hv
            cases hv
            rw [hfl.ge]
            cases cg : oGe (fsum l[k].targets) 4636737291287527424 with
            | false => exact iteF (by simp) ⟨hE.trans e13, E12.trans e13, by rw [ht]; simp [c, heavyS, ca, cg]⟩
            | true =>
              refine iteT rfl ?_
              refine arith_run .add _ rfl fun v w14 hv e14 _ => ?_
              rw [show FloatKind.f64.format.add 4636737291354636288 4517110426252607488 = some 4636737291421745152 from hi_run] at hv
              cases hv
              rw [hfl.le]
              exact ⟨(hE.trans e13).trans e14, (E12.trans e13).trans e14, by rw [ht]; simp [c, heavyS, ca, cg]⟩
        · exact iteF c ⟨hE, E12, by rw [ht]; simp [c]⟩
      rintro y w13 ⟨hE, E13, rfl⟩
      cases c : heavyAt l k with
      | true => exact iteT rfl (fault_out14 (h3.ext E13) hE (by omega) fun w'' e => ⟨e, by rw [fs_heavy c1 c2 hdang htwin hlt c hall]; rfl⟩)
      | false =>
        refine iteF (by simp) ?_
        rw [h.wr hlt]
        exact hK _ _ ⟨k + 1, rfl, hlt, hE, E13, all_succ hall c⟩ (by omega)
  rw [if_neg (by rw [h.n]; omega)]
  obtain rfl : k = l.length := by omega
  clear hK
  have hheavy := hall
  clear hall
  replace h3 := h3.ext E11
  -- depths
  refine (depths_ok (h.ext hE) (by omega) (splitOf_self hord) (no_dang hdang)).mono ?_
  rintro dd w12 ⟨e12, hdd⟩
  replace hE := hE.trans e12; replace h3 := h3.ext e12
  refine Lp.mk (fun (i : Int) w' => ∃ k : Nat, i = k ∧ k ≤ l.length ∧ Ext w w' ∧ Ext w12 w' ∧ ∀ j, j < k → deepAt l j = false) (fun i => l.length - i.toNat) ⟨0, rfl, Nat.zero_le _, hE, Ext.refl _, fun j hj => absurd hj (Nat.not_lt_zero _)⟩ ?_
  clear hE E11
  rintro i w13 K ⟨k, rfl, hk, hE, E13, hall⟩ hK
  by_cases hlt : k < l.length
  · rw [if_pos (by rw [h.n]; omega)]
    have ht := deepAt_eq hlt
    refine ⟨fun x w' => w' = w13 ∧ x = deepAt l k, ?_, ?_⟩
    · refine (h.ext hE).idx hlt rfl fun p r _ hp hr => ?_
      refine rn_at one3 hp rfl ?_
      rw [hr.kind]
      by_cases c : l[k].kind = 2
      · refine iteT c ?_
        refine rnp_idx sl77 (hdd.ext E13) (by rw [row_len]; exact hlt) rfl fun p _ hp => ?_
        refine rn_at0 one3 hp ⟨rfl, ?_⟩
        have hb := hd_bounds l 8 l[k].name
        have hv : (row l 8)[k]'(by rw [row_len]; exact hlt) = ((dv l 8 k : Nat) : Int) := by simp [row]
        have hdv : dv l 8 k = if hd l 8 l[k].name ≤ 8 then hd l 8 l[k].name else 0 := by simp only [dv, List.getElem?_eq_getElem hlt, if_pos c]
        rw [ht, hv, hdv]
        by_cases c8 : hd l 8 l[k].name ≤ 8
        · rw [if_pos c8]; simp [c]; omega
        · rw [if_neg c8]; simp [c]; omega
      · exact iteF c ⟨rfl, by rw [ht]; simp [c]⟩
    rintro x w13 ⟨rfl, rfl⟩
    cases c : deepAt l k with
    | true => exact iteT rfl (fault_out14 (h3.ext E13) hE (by omega) fun w'' e => ⟨e, by rw [fs_deep c1 c2 hdang htwin hheavy hlt c hall]; rfl⟩)
    | false =>
      refine iteF (by simp) ?_
      rw [h.wr hlt]
      exact hK _ _ ⟨k + 1, rfl, hlt, hE, E13, all_succ hall c⟩ (by omega)
  rw [if_neg (by rw [h.n]; omega)]
  obtain rfl : k = l.length := by omega
  clear hK
  have hdeep := hall
  clear hall
  replace h3 := h3.ext E13
  -- warnings
  have g13 := h3.lt
  have gw := hE.size
  refine Lp.mk (fun (y : Sl × Int) w' => ∃ (k : Nat) (ws : List TWarning14), y.2 = k ∧ k ≤ l.length ∧ Ext w w' ∧ Blk w' b3 101 (TFault14.cells ⟨0, 0, 0⟩) ∧ Own TWarning14.cells 3 160 w13.heap.size w' y.1 ws ∧ ws.length ≤ tot (l.take k) ∧ w13.heap.size ≤ w'.heap.size) (fun y => l.length - y.2.toNat)
    ⟨0, [], rfl, Nat.zero_le _, hE, h3, Own.nil_ _ _, Nat.zero_le _, Nat.le_refl _⟩ ?_
  clear hE h3
  rintro ⟨y, _⟩ w14 K ⟨k, ws, rfl, hk, hE, h3, hO, hn, hge⟩ hK
  dsimp only at hO ⊢
  by_cases hlt : k < l.length
  · rw [if_pos (by rw [h.n]; omega)]
    have htot := tot_take hlt
    have htl := tot_le l (k + 1)
    have htt := hf.tot
    have hpr := hf.paths _ (List.getElem_mem hlt)
    refine ⟨fun y w' => ∃ ws, Ext w w' ∧ Blk w' b3 101 (TFault14.cells ⟨0, 0, 0⟩) ∧ Own TWarning14.cells 3 160 w13.heap.size w' y ws ∧ ws.length ≤ tot (l.take (k + 1)) ∧ w13.heap.size ≤ w'.heap.size, ?_, ?_⟩
    · refine (h.ext hE).idx hlt rfl fun p r _ hp hr => ?_
      refine rn_at one3 hp rfl ?_
      by_cases c : r.Kind < 3
      · exact iteT c ⟨ws, hE, h3, hO, by omega, hge⟩
      refine iteF c ?_
      refine Lp.mk (fun (z : Sl × Int) w' => ∃ (j : Nat) (ws : List TWarning14), z.2 = j ∧ j ≤ l[k].rules.length ∧ Ext w w' ∧ Blk w' b3 101 (TFault14.cells ⟨0, 0, 0⟩) ∧ Own TWarning14.cells 3 160 w13.heap.size w' z.1 ws ∧ ws.length ≤ tot (l.take k) + j ∧ w13.heap.size ≤ w'.heap.size) (fun z => l[k].rules.length - z.2.toNat)
        ⟨0, ws, rfl, Nat.zero_le _, hE, h3, hO, by omega, hge⟩ ?_
      clear hE h3 hO hr hp hge
      rintro ⟨z, _⟩ w15 K2 ⟨j, ws, rfl, hj, hE, h3, hO, hn, hge⟩ hK2
      dsimp only at hO ⊢
      refine (h.ext hE).idx hlt rfl fun p r _ hp hr => ?_
      refine rn_at one46 hp rfl ?_
      by_cases hjl : j < l[k].rules.length
      · refine iteT (by rw [hr.rules.len]; omega) ?_
        refine ⟨fun z w' => ∃ ws, Ext w w' ∧ Blk w' b3 101 (TFault14.cells ⟨0, 0, 0⟩) ∧ Own TWarning14.cells 3 160 w13.heap.size w' z ws ∧ ws.length ≤ tot (l.take k) + (j + 1) ∧ w13.heap.size ≤ w'.heap.size, ?_, ?_⟩
        · refine (h.ext hE).idx hlt rfl fun p r _ hp hr => ?_
          refine rn_at one46 hp rfl ?_
          refine rnp_idx sl46 hr.rules hjl rfl fun p _ hp => ?_
          refine rn_ldN (x := l[k].rules[j]) many91 hp rfl rfl ?_
          refine New.var (TRule.cells l[k].rules[j]) sz91 rfl (oc_rule _) rfl fun b20 w16 e16 h20 _ => ?_
          replace hE := hE.trans e16; replace h3 := h3.ext e16; replace hO := hO.ext e16
          have g16 := e16.size
          refine Lp.mk (fun (u : Sl × Int) w' => ∃ q : Nat, u.2 = q ∧ q ≤ j ∧ u.1 = z ∧ Ext w w' ∧ Ext w16 w') (fun u => j - u.2.toNat) ⟨0, rfl, Nat.zero_le _, rfl, hE, Ext.refl _⟩ ?_
          clear hE
          rintro ⟨_, _⟩ w17 K3 ⟨q, rfl, hq, rfl, hE, E17⟩ hK3
          dsimp only at hO ⊢
          replace h3 := h3.ext E17; replace hO := hO.ext E17; replace h20 := h20.ext E17
          by_cases hqj : q < j
          · refine iteT (by omega) ?_
            refine (h.ext hE).idx hlt rfl fun p r _ hp hr => ?_
            refine rn_at one46 hp rfl ?_
            refine rnp_idx sl46 hr.rules (k := q) (by omega) rfl fun p _ hp => ?_
            refine rn_ldN (x := l[k].rules[q]) many91 hp rfl rfl ?_
            refine New.var (TRule.cells l[k].rules[q]) sz91 rfl (oc_rule _) rfl fun b22 w18 e18 h22 _ => ?_
            replace hE := hE.trans e18; replace h3 := h3.ext e18; replace hO := hO.ext e18; replace h20 := h20.ext e18
            have E18 := E17.trans e18
            refine ⟨fun x w' => Ext w w' ∧ Ext w16 w' ∧ Ext w18 w', ?_, ?_⟩
            · have fin : Cal PP Value.bool 103 #[.string l[k].rules[q].Path, .string l[k].rules[j].Path] w18 fun _ w' => Ext w w' ∧ Ext w16 w' ∧ Ext w18 w' :=
                (covers13_ok _ _ (hpr _ (List.getElem_mem _)) (hpr _ (List.getElem_mem _))).mono fun _ _ e => ⟨hE.trans e, E18.trans e, e⟩
              refine rn_blk one9 h22 rfl rfl ?_
              by_cases cm : l[k].rules[q].Method = ⟨#[42]⟩
              · refine iteT cm ?_
                refine rn_blk one9 h22 rfl rfl ?_
                refine rn_blk one9 h20 rfl rfl ?_
                exact fin
              · refine iteF cm ?_
                refine rn_blk one9 h22 rfl rfl ?_
                refine rn_blk one9 h20 rfl rfl ?_
                by_cases cn : l[k].rules[q].Method = l[k].rules[j].Method
                · refine iteT cn ?_
                  refine rn_blk one9 h22 rfl rfl ?_
                  refine rn_blk one9 h20 rfl rfl ?_
                  exact fin
                · exact iteF cn ⟨hE, E18, Ext.refl _⟩
            rintro x w19 ⟨hE, E19, e19⟩
            have g19 := E19.size
            cases x with
            | true =>
              refine iteT rfl ?_
              refine New.mk fun b239 w20 e20 h239 _ s20 => ?_
              replace hE := hE.trans e20
              have hO := hO.ext (e19.trans e20)
              have h3 := h3.ext (e19.trans e20)
              refine rn_app1 (x := (⟨k, j, q⟩ : TWarning14)) el99 hO h239 rfl rfl (oc_warn14 _) (by omega) (by decide) (by omega) fun z' w21 hO' c21 n21 => ?_
              have g21 := c21.size
              exact ⟨_, hE.then c21 (fun b hb => by have := (hO.ge hb).1; omega), h3.chg c21 (fun hb => by have := (hO.ge hb).1; omega), hO', by simp; omega, by omega⟩
            | false =>
              refine iteF (by simp) ?_
              rw [hr.rules.wr (by omega : q < l[k].rules.length)]
              exact hK3 _ _ ⟨q + 1, rfl, hqj, rfl, hE, E19⟩ (by dsimp only; omega)
          · refine iteF (by omega) ⟨ws, hE, h3, hO, by omega, by have := E17.size; omega⟩
        · rintro z w16 ⟨ws, hE, h3, hO, hn, hge⟩
          rw [hr.rules.wr hjl]
          exact hK2 _ _ ⟨j + 1, ws, rfl, hjl, hE, h3, hO, hn, hge⟩ (by dsimp only; omega)
      · refine iteF (by rw [hr.rules.len]; omega) ⟨ws, hE, h3, hO, by omega, hge⟩
    · rintro y w15 ⟨ws, hE, h3, hO, hn, hge⟩
      rw [h.wr hlt]
      exact hK _ _ ⟨k + 1, ws, rfl, hlt, hE, h3, hO, hn, hge⟩ (by dsimp only; omega)
  · rw [if_neg (by rw [h.n]; omega)]
    exact fault_out14 h3 hE (by omega) fun w'' e => ⟨e, by rw [fs_none c1 c2 hdang htwin hheavy hdeep]; rfl⟩
end
end Go.Proofs.Ytdoeegfcmbcbkaa.Ct

/- The plain law of shares: what each split comes to, and the steps. -/
namespace Go.Proofs.Ytdoeegfcmbcbkaa.Ct
open Go Go.Eng Tr
set_option linter.unusedVariables false

/-- a share: a service, and a real or what is none -/
abbrev SH := ByteArray × Option Nat
def addS : List SH → ByteArray → Option Nat → List SH
  | [], n, x => [(n, oadd2 (some 0) x)]
  | p :: l, n, x => if p.1 = n then (n, oadd2 p.2 x) :: l else p :: addS l n x
theorem addS_hit {n : ByteArray} {x : Option Nat} : ∀ {ys : List SH} {k : Nat} (hk : k < ys.length), ys[k].1 = n → (∀ j (hj : j < k), (ys[j]'(by omega)).1 ≠ n) → addS ys n x = ys.set k (n, oadd2 ys[k].2 x)
  | p :: ys, 0, _, h, _ => by
    simp only [List.getElem_cons_zero] at h ⊢
    simp [addS, h]
  | p :: ys, k + 1, hk, h, hj => by
    have h0 := hj 0 (by omega)
    simp only [List.getElem_cons_zero, List.getElem_cons_succ] at h0 h ⊢
    have := addS_hit (x := x) (by simpa using hk) h (fun j hj' => by simpa using hj (j + 1) (by omega))
    simp [addS, h0, this]
theorem addS_miss {n : ByteArray} {x : Option Nat} : ∀ {ys : List SH}, (∀ p ∈ ys, p.1 ≠ n) → addS ys n x = ys ++ [(n, oadd2 (some 0) x)]
  | [], _ => rfl
  | p :: ys, h => by
    have h0 := h p (by simp)
    have := addS_miss (x := x) (ys := ys) fun q hq => h q (List.mem_cons_of_mem _ hq)
    simp [addS, h0, this]
theorem addS_keys {n : ByteArray} {x : Option Nat} : ∀ ys : List SH, (n ∈ ys.map (·.1) ∧ (addS ys n x).map (·.1) = ys.map (·.1)) ∨ (n ∉ ys.map (·.1) ∧ (addS ys n x).map (·.1) = ys.map (·.1) ++ [n])
  | [] => .inr ⟨by simp, rfl⟩
  | p :: ys => by
    unfold addS
    by_cases h : p.1 = n
    · rw [if_pos h]; exact .inl ⟨by simp [h], by simp [h]⟩
    · rw [if_neg h]
      rcases addS_keys (n := n) (x := x) ys with ⟨h1, h2⟩ | ⟨h1, h2⟩
      · exact .inl ⟨List.mem_cons_of_mem _ h1, by rw [List.map_cons, h2]; rfl⟩
      · refine .inr ⟨fun hm => ?_, by rw [List.map_cons, h2]; rfl⟩
        rw [List.map_cons] at hm
        rcases List.mem_cons.1 hm with e | hm
        · exact h e.symm
        · exact h1 hm
def wt (t : TTarget) : Option Nat := FloatKind.f64.format.div t.Weight 4636737291354636288
/-- what a target adds, the shares of splits being known -/
def mixS (x : Option Nat) (out : List SH) (zs : List SH) : List SH := zs.foldl (fun out s => addS out s.1 (omul2 x s.2)) out
def partS (f : ByteArray → List SH) (out : List SH) (t : TTarget) : List SH :=
  if t.Service = ⟨#[]⟩ then mixS (wt t) out (f t.Split) else addS out t.Service (wt t)
def sumS (f : ByteArray → List SH) (ts : List TTarget) : List SH := ts.foldl (partS f) []
theorem sumS_succ {f : ByteArray → List SH} {ts : List TTarget} {k : Nat} (h : k < ts.length) : sumS f (ts.take (k + 1)) = partS f (sumS f (ts.take k)) ts[k] := by
  unfold sumS; rw [List.take_add_one, List.getElem?_eq_getElem h, List.foldl_append]; rfl
theorem mixS_succ {x : Option Nat} {out zs : List SH} {k : Nat} (h : k < zs.length) : mixS x out (zs.take (k + 1)) = addS (mixS x out (zs.take k)) zs[k].1 (omul2 x zs[k].2) := by
  unfold mixS; rw [List.take_add_one, List.getElem?_eq_getElem h, List.foldl_append]; rfl
theorem sumS_congr {f g : ByteArray → List SH} {ts : List TTarget} (h : ∀ t ∈ ts, t.Service = ⟨#[]⟩ → f t.Split = g t.Split) : sumS f ts = sumS g ts := by
  unfold sumS
  generalize ([] : List SH) = out
  induction ts generalizing out with
  | nil => rfl
  | cons t ts ih =>
    have e : partS f out t = partS g out t := by
      unfold partS
      by_cases c : t.Service = ⟨#[]⟩
      · rw [if_pos c, if_pos c, h t (by simp) c]
      · rw [if_neg c, if_neg c]
    rw [List.foldl_cons, List.foldl_cons, e, ih (fun t ht => h t (by simp [ht]))]
/-- the shares of a split, by as many steps -/
def sh (l : List DRes) : Nat → ByteArray → List SH
  | 0, _ => []
  | k + 1, n => match splitOf l n with
    | none => []
    | some d => sumS (sh l k) d.targets
def shF (l : List DRes) (n : ByteArray) : List SH := sh l 9 n
section
variable {l : List DRes}
theorem kid_mem {n : ByteArray} {d : DRes} (hd' : splitOf l n = some d) {t : TTarget} (ht : t ∈ d.targets) (hs : t.Service = ⟨#[]⟩) : t.Split ∈ kids l n := by
  unfold kids; rw [hd']
  exact List.mem_map.2 ⟨t, List.mem_filter.2 ⟨ht, by simpa using hs⟩, rfl⟩
theorem kid_hd {n c : ByteArray} (h8 : hd l 8 n ≤ 8) (hc : c ∈ kids l n) : hd l 8 c < hd l 8 n := by
  have := hd_min l n
  have h1 : hd l 8 c ≤ maxl ((kids l n).map (hd l 8)) := le_maxl (List.mem_map.2 ⟨c, hc, rfl⟩)
  omega
theorem sh_stable : ∀ (j : Nat) (n : ByteArray), hd l 8 n ≤ 8 → hd l 8 n ≤ j → sh l j n = sh l (j + 1) n
  | 0, n, _, h => by have := (hd_bounds l 8 n).1; omega
  | j + 1, n, h8, h => by
    show (match splitOf l n with | none => [] | some d => sumS (sh l j) d.targets) = (match splitOf l n with | none => [] | some d => sumS (sh l (j + 1)) d.targets)
    cases hs : splitOf l n with
    | none => rfl
    | some d =>
      refine sumS_congr fun t ht hts => ?_
      have := kid_hd h8 (kid_mem hs ht hts)
      exact sh_stable j t.Split (by omega) (by omega)
theorem shF_eq {n : ByteArray} {d : DRes} (h8 : hd l 8 n ≤ 8) (hs : splitOf l n = some d) : shF l n = sumS (shF l) d.targets := by
  have : shF l n = sumS (sh l 8) d.targets := by
    show (match splitOf l n with | none => [] | some d => sumS (sh l 8) d.targets) = _
    rw [hs]
  rw [this]
  refine sumS_congr fun t ht hts => ?_
  have := kid_hd h8 (kid_mem hs ht hts)
  exact sh_stable 8 t.Split (by omega) (by omega)
theorem shF_none {n : ByteArray} (hs : splitOf l n = none) : shF l n = [] := by
  show (match splitOf l n with | none => [] | some d => sumS (sh l 8) d.targets) = _
  rw [hs]
/-- a list of shares whose services stand, each once -/
structure OkS (l : List DRes) (ys : List SH) : Prop where
  nodup : (ys.map (·.1)).Nodup
  has : ∀ p ∈ ys, Ct.has l 1 p.1 = true
theorem OkS.nil : OkS l [] := ⟨List.nodup_nil, fun p hp => by cases hp⟩
theorem sub_len {α : Type} [DecidableEq α] : ∀ {xs ys : List α}, xs.Nodup → (∀ x ∈ xs, x ∈ ys) → xs.length ≤ ys.length
  | [], _, _, _ => Nat.zero_le _
  | x :: xs, ys, hn, h => by
    have hx := h x (by simp)
    have h1 := List.length_erase_of_mem hx
    have h2 : 0 < ys.length := List.length_pos_of_mem hx
    simp only [List.nodup_cons] at hn
    have := sub_len (ys := ys.erase x) hn.2 fun y hy => (List.mem_erase_of_ne (fun e => hn.1 (by rw [← e]; exact hy))).2 (h y (by simp [hy]))
    simp only [List.length_cons]; omega
theorem OkS.len {ys : List SH} (h : OkS l ys) : ys.length ≤ l.length := by
  have := sub_len (ys := l.map (·.name)) h.nodup fun n hn => by
    obtain ⟨p, hp, rfl⟩ := List.mem_map.1 hn
    have h1 := h.has p hp
    rw [has_any] at h1
    obtain ⟨d, hd, h2⟩ := List.any_eq_true.1 h1
    simp only [Bool.and_eq_true, decide_eq_true_eq] at h2
    exact List.mem_map.2 ⟨d, hd, h2.2⟩
  simpa using this
theorem OkS.add {ys : List SH} (h : OkS l ys) {n : ByteArray} (hn : Ct.has l 1 n = true) (x : Option Nat) : OkS l (addS ys n x) := by
  have key : (addS ys n x).map (·.1) = ys.map (·.1) → OkS l (addS ys n x) := fun hk => ⟨by rw [hk]; exact h.nodup, fun p hp => by
    have : p.1 ∈ (addS ys n x).map (·.1) := List.mem_map.2 ⟨p, hp, rfl⟩
    rw [hk] at this
    obtain ⟨q, hq, e⟩ := List.mem_map.1 this
    rw [← e]; exact h.has q hq⟩
  rcases addS_keys (n := n) (x := x) ys with ⟨_, hk⟩ | ⟨hm, hk⟩
  · exact key hk
  · refine ⟨?_, fun p hp => ?_⟩
    · rw [hk, List.nodup_append]
      refine ⟨h.nodup, by simp, fun a ha b hb => ?_⟩
      simp only [List.mem_singleton] at hb
      subst hb
      exact fun e => hm (e ▸ ha)
    · have : p.1 ∈ (addS ys n x).map (·.1) := List.mem_map.2 ⟨p, hp, rfl⟩
      rw [hk] at this
      rcases List.mem_append.1 this with h3 | h3
      · obtain ⟨q, hq, e⟩ := List.mem_map.1 h3
        rw [← e]; exact h.has q hq
      · simp only [List.mem_singleton] at h3
        rw [h3]; exact hn
theorem OkS.mix {x : Option Nat} : ∀ {zs out : List SH}, OkS l out → (∀ p ∈ zs, Ct.has l 1 p.1 = true) → OkS l (mixS x out zs)
  | [], _, h, _ => h
  | z :: zs, out, h, hz => OkS.mix (zs := zs) (h.add (hz z (by simp)) _) fun p hp => hz p (by simp [hp])
theorem OkS.sum {f : ByteArray → List SH} {ts : List TTarget} (hs : ∀ t ∈ ts, t.Service ≠ ⟨#[]⟩ → Ct.has l 1 t.Service = true) (hf : ∀ t ∈ ts, t.Service = ⟨#[]⟩ → OkS l (f t.Split)) : OkS l (sumS f ts) := by
  unfold sumS
  have : ∀ out, OkS l out → OkS l (ts.foldl (partS f) out) := by
    induction ts with
    | nil => exact fun _ h => h
    | cons t ts ih =>
      intro out h
      rw [List.foldl_cons]
      refine ih (fun t ht => hs t (by simp [ht])) (fun t ht => hf t (by simp [ht])) _ ?_
      unfold partS
      by_cases c : t.Service = ⟨#[]⟩
      · rw [if_pos c]; exact h.mix (hf t (by simp) c).has
      · rw [if_neg c]; exact h.add (hs t (by simp) c) _
  exact this [] OkS.nil
/-- the targets of all splits stand -/
def Stand (l : List DRes) : Prop := ∀ d ∈ l, d.kind = 2 → ∀ t ∈ d.targets, t.Service ≠ ⟨#[]⟩ → Ct.has l 1 t.Service = true
theorem splitOf_mem {n : ByteArray} {d : DRes} (h : splitOf l n = some d) : d ∈ l ∧ d.kind = 2 ∧ d.name = n := by
  have h1 := List.find?_some h
  simp only [Bool.and_eq_true, decide_eq_true_eq] at h1
  exact ⟨List.mem_of_find?_eq_some h, h1⟩
theorem sh_ok (hS : Stand l) : ∀ (k : Nat) (n : ByteArray), OkS l (sh l k n)
  | 0, _ => OkS.nil
  | k + 1, n => by
    show OkS l (match splitOf l n with | none => [] | some d => sumS (sh l k) d.targets)
    cases hs : splitOf l n with
    | none => exact OkS.nil
    | some d =>
      obtain ⟨h1, h2, h3⟩ := splitOf_mem hs
      exact OkS.sum (hS d h1 h2) fun t _ _ => sh_ok hS k t.Split
theorem sumS_ok (hS : Stand l) {d : DRes} (hd' : d ∈ l) (h2 : d.kind = 2) (k : Nat) : OkS l (sumS (shF l) (d.targets.take k)) :=
  OkS.sum (fun t ht => hS d hd' h2 t (List.mem_of_mem_take ht)) fun t _ _ => sh_ok hS 9 t.Split
theorem stand_of (h : ∀ i, i < l.length → dangAt l i = false) : Stand l := fun d hd' hk t ht hs => by
  obtain ⟨i, hi, rfl⟩ := List.mem_iff_getElem.1 hd'
  have h1 := h i hi
  rw [dangAt_eq hi] at h1
  have h2 : dang (has l) l[i] < 0 := by simpa using h1
  unfold dang at h2
  simp only [hk] at h2
  obtain ⟨j, hj, rfl⟩ := List.mem_iff_getElem.1 ht
  by_cases hb : badT (has l) l[i].targets j = true
  · exfalso
    have hne : ¬ fst? (badT (has l) l[i].targets) l[i].targets.length < 0 := fun hlt => by
      have := fst?_neg hlt j hj
      rw [this] at hb; cases hb
    simp [line?, hne] at h2
    omega
  · have hb' : badT (has l) l[i].targets j = false := by simpa using hb
    rw [badT_eq hj, if_neg hs] at hb'
    simpa using hb'
end

/-! ### Steps -/
def one64 : Nat := 4607182418800017408
def stp (st : List SH × Option Nat) (y : SH) : List SH × Option Nat := if oGt y.2 0 = true then (st.1 ++ [(y.1, oadd2 st.2 y.2)], oadd2 st.2 y.2) else st
def rawS (ys : List SH) : List SH × Option Nat := ys.foldl stp ([], some 0)
def lastOne (ys : List SH) : List SH := ys.modify (ys.length - 1) fun y => (y.1, some one64)
def stepsS (ys : List SH) : List SH := lastOne (rawS ys).1
theorem rawS_succ {ys : List SH} {k : Nat} (h : k < ys.length) : rawS (ys.take (k + 1)) = stp (rawS (ys.take k)) ys[k] := by
  unfold rawS; rw [List.take_add_one, List.getElem?_eq_getElem h, List.foldl_append]; rfl
theorem rawS_len : ∀ (ys : List SH) (k : Nat), k ≤ ys.length → (rawS (ys.take k)).1.length ≤ k
  | ys, 0, _ => by simp [rawS]
  | ys, k + 1, h => by
    have := rawS_len ys k (by omega)
    rw [rawS_succ (by omega)]
    unfold stp
    split
    · simp; omega
    · omega
theorem lastOne_snoc (xs : List SH) (y : SH) : lastOne (xs ++ [y]) = xs ++ [(y.1, some one64)] := by
  unfold lastOne
  apply List.ext_getElem (by simp)
  intro i h1 h2
  rw [List.getElem_modify]
  simp only [List.length_append, List.length_cons, List.length_nil, Nat.add_sub_cancel] at *
  by_cases hi : i < xs.length
  · rw [if_neg (by omega), List.getElem_append_left hi, List.getElem_append_left hi]
  · have : i = xs.length := by simp at h1; omega
    subst this; simp
end Go.Proofs.Ytdoeegfcmbcbkaa.Ct

/- Contracts: shares compared, added to, and their steps. -/
namespace Go.Proofs.Ytdoeegfcmbcbkaa.Ct
open Go Go.Eng Tr
set_option linter.unusedVariables false
set_option maxRecDepth 100000

/-- what shares in memory say -/
structure ShD (xs : List TShare) (ys : List SH) : Prop where
  len : xs.length = ys.length
  el : ∀ k (h : k < xs.length) (h' : k < ys.length), xs[k].Service = ys[k].1 ∧ Fl ys[k].2 xs[k].Upto
theorem ShD.nil : ShD [] [] := ⟨rfl, fun k h => absurd h (Nat.not_lt_zero _)⟩
theorem ShD.snoc {xs : List TShare} {ys : List SH} (h : ShD xs ys) {x : TShare} {y : SH} (h1 : x.Service = y.1) (h2 : Fl y.2 x.Upto) : ShD (xs ++ [x]) (ys ++ [y]) := by
  have hl := h.len
  refine ⟨by simp [hl], fun k a b => ?_⟩
  by_cases hk : k < xs.length
  · rw [List.getElem_append_left hk, List.getElem_append_left (by omega)]; exact h.el k hk (by omega)
  · have : k = xs.length := by simp at a; omega
    subst this
    simp only [List.getElem_append_right (Nat.le_refl _), Nat.sub_self, List.getElem_cons_zero]
    simp only [hl, List.getElem_append_right (Nat.le_refl _), Nat.sub_self, List.getElem_cons_zero]
    exact ⟨h1, h2⟩
theorem ShD.set {xs : List TShare} {ys : List SH} (h : ShD xs ys) {k : Nat} {x : TShare} {y : SH} (h1 : x.Service = y.1) (h2 : Fl y.2 x.Upto) : ShD (xs.set k x) (ys.set k y) := by
  refine ⟨by simp [h.len], fun j a b => ?_⟩
  rw [List.getElem_set, List.getElem_set]
  by_cases e : k = j
  · rw [if_pos e, if_pos e]; exact ⟨h1, h2⟩
  · rw [if_neg e, if_neg e]; exact h.el j (by simpa using a) (by simpa using b)
/-- a list of shares as it lies -/
def saysS (xs : List TShare) : List SH := xs.map fun x => (x.Service, some x.Upto)
theorem ShD.of (xs : List TShare) : ShD xs (saysS xs) := ⟨by simp [saysS], fun k a b => by simp [saysS, Fl]⟩
section
variable {w : World} {F G : Nat → Prop} {s s' : Sl} {xs xs' : List TShare} {ys : List SH}
theorem alikeF_ok {x y : Nat} {o : Option Nat} (hx : Fl o x) (hy : Fl o y) : Ans Value.bool 61 #[.float .f64 x, .float .f64 y] w true := by
  refine c61 ?_
  unfold f61
  refine Jn.dup ?_
  refine rx_bits (rx_bits ?_)
  by_cases c : (x : Int) = (y : Int)
  · rw [if_pos c]; exact ⟨Ext.refl _, rfl⟩
  · rw [if_neg c]
    cases o with
    | some v => cases hx; cases hy; exact absurd rfl c
    | none =>
      have h1 : fNe x x = true := by simp [fNe, order_nan hx]
      have h2 : fNe y y = true := by simp [fNe, order_nan hy]
      rw [if_pos h1, h2]
      exact ⟨Ext.refl _, rfl⟩
theorem sharesF_ok (h0 : Rd TShare.cells 2 F w s xs) (h1 : Rd TShare.cells 2 G w s' xs') (d0 : ShD xs ys) (d1 : ShD xs' ys) : Ans Value.bool 20 #[s.v, s'.v] w true := by
  refine c20 ?_
  unfold f20
  have hl0 := d0.len; have hl1 := d1.len
  rw [if_neg (by rw [h0.len, h1.len, hl0, hl1]; simp)]
  refine Lp.mk (fun i w' => ∃ k : Nat, i = k ∧ k ≤ xs.length ∧ Ext w w') (fun i => xs.length - i.toNat) ⟨0, rfl, Nat.zero_le _, Ext.refl _⟩ ?_
  rintro i w' K ⟨k, rfl, hk, hE⟩ hK
  by_cases hlt : k < xs.length
  · rw [if_pos (by rw [h0.len]; omega)]
    have k0 := d0.el k hlt (by omega); have k1 := d1.el k (by omega) (by omega)
    refine Jn.dup ?_
    refine Dr.mk fun w1 hD _ => ?_
    replace hE := hE.trans hD
    refine rnp_idx sl23 (h0.ext hE) hlt rfl fun p _ hp => ?_
    refine rnl_at one9 hp rfl ?_
    refine rnp_idx sl23 (h1.ext hE) (k := k) (by omega) rfl fun q _ hq => ?_
    refine rnl_at one9 hq rfl ?_
    rw [if_neg (by rw [k0.1, k1.1]; simp)]
    refine rnp_idx sl23 (h0.ext hE) hlt rfl fun p _ hp => ?_
    refine rnl_at one30 hp rfl ?_
    refine rnp_idx sl23 (h1.ext hE) (k := k) (by omega) rfl fun q _ hq => ?_
    refine rnl_at one30 hq rfl ?_
    refine (alikeF_ok k0.2 k1.2).mono ?_
    rintro _ w2 ⟨hE2, rfl⟩
    rw [if_neg (by simp), h0.wr hlt]
    exact hK _ _ ⟨k + 1, rfl, hlt, hE.trans hE2⟩ (by omega)
  · rw [if_neg (by rw [h0.len]; omega)]
    exact ⟨hE, rfl⟩

/-! ### Added to -/
def atS (xs : List TShare) (n : ByteArray) (i : Nat) : Bool := match xs[i]? with
  | some x => decide (x.Service = n)
  | none => false
theorem atS_eq {n : ByteArray} {i : Nat} (h : i < xs.length) : atS xs n i = decide (xs[i].Service = n) := by simp [atS, h]
theorem isS_ok {x : TShare} {n : ByteArray} {b : Nat} (hb : Blk w b 9 [.string n]) : Ans Value.bool 125 #[x.v, Ptr ⟨b, 0, none⟩] w (decide (x.Service = n)) := by
  refine c125 ?_
  unfold f125
  refine New.mk fun b2 w1 e1 h2 _ _ => ?_
  refine rn_blk one9 h2 rfl rfl ?_
  refine rn_blk (x := n) one9 (hb.ext e1) rfl rfl ?_
  exact ⟨e1, rfl⟩
theorem index124_ok (h : Rd TShare.cells 2 F w s xs) {n : ByteArray} {b : Nat} (hb : Blk w b 9 [.string n]) : Ans (Value.int .i64) 124 #[s.v, .func (.func 125) #[] #[Ptr ⟨b, 0, none⟩]] w (fst? (atS xs n) xs.length) := by
  refine c124 ?_
  unfold f124
  refine Lp.mk (fun (i : Int) w' => ∃ k : Nat, i = k ∧ k ≤ xs.length ∧ Ext w w' ∧ ∀ j, j < k → atS xs n j = false) (fun i => xs.length - i.toNat) ⟨0, rfl, Nat.zero_le _, Ext.refl _, fun j hj => absurd hj (Nat.not_lt_zero _)⟩ ?_
  rintro i w1 K ⟨k, rfl, hk, hE, hall⟩ hK
  by_cases hlt : k < xs.length
  · rw [if_pos (by rw [h.len]; omega)]
    refine rnp_idx sl23 (h.ext hE) hlt rfl fun p _ hp => ?_
    refine rn_ldN (x := xs[k]) many32 hp rfl rfl ?_
    refine ⟨125, #[], #[Ptr ⟨b, 0, none⟩], rfl, fun vs w => enters Try.func125 rfl rfl vs w, ?_⟩
    refine Cal.mono (isS_ok (x := xs[k]) (hb.ext hE)) ?_
    rintro _ w2 ⟨e2, rfl⟩
    have ha := atS_eq (n := n) hlt
    by_cases c : xs[k].Service = n
    · exact iteT (by simpa using c) ⟨hE.trans e2, (fst?_some hlt (by rw [ha]; simpa using c) hall).symm⟩
    · refine iteF (by simpa using c) ?_
      rw [h.wr hlt]; exact hK _ _ ⟨k + 1, rfl, hlt, hE.trans e2, all_succ hall (by rw [ha]; simpa using c)⟩ (by omega)
  · rw [if_neg (by rw [h.len]; omega)]
    exact ⟨hE, (fst?_none fun j hj => hall j (by omega)).symm⟩
/-- first place of a name -/
theorem atS_cases (xs : List TShare) (n : ByteArray) : (fst? (atS xs n) xs.length = -1 ∧ ∀ j, j < xs.length → atS xs n j = false) ∨ ∃ k : Nat, fst? (atS xs n) xs.length = k ∧ k < xs.length ∧ atS xs n k = true ∧ ∀ j, j < k → atS xs n j = false := by
  by_cases h : ∃ k, k < xs.length ∧ atS xs n k = true
  · right
    obtain ⟨k, ⟨hk, hp⟩, hmin⟩ := least h
    refine ⟨k, fst?_some hk hp (fun j hj => ?_), hk, hp, fun j hj => ?_⟩ <;>
    · cases c : atS xs n j with
      | false => rfl
      | true => have := hmin j ⟨by omega, c⟩; omega
  · left
    have : ∀ j, j < xs.length → atS xs n j = false := fun j hj => by
      cases c : atS xs n j with
      | false => rfl
      | true => exact absurd ⟨j, hj, c⟩ h
    exact ⟨fst?_none this, this⟩
theorem addS_at (d : ShD xs ys) {n : ByteArray} {x : Option Nat} {k : Nat} (hk : k < xs.length) (hp : atS xs n k = true) (hall : ∀ j, j < k → atS xs n j = false) (hk' : k < ys.length) : addS ys n x = ys.set k (n, oadd2 ys[k].2 x) ∧ ys[k].1 = n := by
  have hl := d.len
  have e : ∀ j (hj : j < xs.length), ys[j].1 = xs[j].Service := fun j hj => (d.el j hj (by omega)).1.symm
  have h0 : ys[k].1 = n := by rw [e k hk]; rw [atS_eq hk] at hp; simpa using hp
  refine ⟨addS_hit hk' h0 fun j hj => ?_, h0⟩
  rw [e j (by omega)]
  have := hall j hj
  rw [atS_eq (by omega)] at this; simpa using this
theorem addS_no (d : ShD xs ys) {n : ByteArray} {x : Option Nat} (hall : ∀ j, j < xs.length → atS xs n j = false) : addS ys n x = ys ++ [(n, oadd2 (some 0) x)] := addS_miss fun p hp => by
  obtain ⟨j, hj, rfl⟩ := List.mem_iff_getElem.1 hp
  have hl := d.len
  have := hall j (by omega)
  rw [atS_eq (by omega), (d.el j (by omega) hj).1] at this; simpa using this
variable {B : Nat} {n : ByteArray} {x : Nat} {p : Option Nat}
/-- what an addition to shares of our own does -/
def Adds (B : Nat) (w : World) (s : Sl) (ys : List SH) (s' : Sl) (w' : World) : Prop :=
  Chg (own? s) w w' ∧ (∀ b, own? s' b → own? s b ∨ w.heap.size ≤ b) ∧ ∃ xs', Own TShare.cells 2 32 B w' s' xs' ∧ ShD xs' ys
theorem add_ok (hO : Own TShare.cells 2 32 B w s xs) (d : ShD xs ys) (hB : B ≤ w.heap.size) (hp : Fl p x) (hbytes : (ys.length + 1) * 24 ≤ 140737488355328) :
    Cal PP Sl.v 100 #[s.v, .string n, .float .f64 x] w (Adds B w s (addS ys n p)) := by
  refine c100 ?_
  unfold f100
  have hl := d.len
  refine New.mk fun b4 w1 e1 h4 n4 s4 => ?_
  refine (index124_ok ((hO.ext e1).rd (F := fun _ => True) (fun _ _ => trivial)) h4).mono ?_
  rintro _ w2 ⟨e2, rfl⟩
  replace h4 := h4.ext e2
  have E := e1.trans e2
  have hO2 := hO.ext E
  have g2 := E.size
  refine ⟨fun (y : Sl × Int) w' => ∃ (k : Nat) (xs' : List TShare) (ys' : List SH) (hk : k < ys'.length), y.2 = k ∧ Chg (own? s) w w' ∧ (∀ b, own? y.1 b → own? s b ∨ w.heap.size ≤ b) ∧ Own TShare.cells 2 32 B w' y.1 xs' ∧ ShD xs' ys' ∧
      addS ys n p = ys'.set k (n, oadd2 ys'[k].2 p) ∧ ys'[k].1 = n, ?_, ?_⟩
  · rcases atS_cases xs n with ⟨h0, hall⟩ | ⟨k, h0, hk, hpk, hall⟩
    · refine iteT (by rw [h0]; decide) ?_
      refine rn_blk (x := n) one9 h4 rfl rfl ?_
      refine New.mk fun b18 w3 e3 h18 n18 s18 => ?_
      refine rn_app1 (x := (⟨n, 0⟩ : TShare)) el23 (hO2.ext e3) h18 rfl rfl (oc_share _) (by rw [hl]; exact hbytes) (by decide) (by have := e3.size; omega) fun s' w4 O4 c4 n4' => ?_
      refine ⟨ys.length, xs ++ [⟨n, 0⟩], ys ++ [(n, some 0)], by simp, by simp only [hO.len, hl], ((E.trans e3).chg _).trans c4, fun b hb => ?_, O4, d.snoc (x := ⟨n, 0⟩) (y := (n, some 0)) rfl rfl, ?_, by simp⟩
      · rcases n4' b hb with h | h
        · exact .inl h
        · right; have := e3.size; omega
      · rw [addS_no d hall]; simp
    · refine iteF (by rw [h0]; omega) ?_
      obtain ⟨h5, h6⟩ := addS_at d (x := p) hk hpk hall (by omega)
      exact ⟨k, xs, ys, by omega, h0, E.chg _, fun b hb => .inl hb, hO2, d, h5, h6⟩
  rintro ⟨s', _⟩ w5 ⟨k, xs', ys', hk, rfl, c5, n5, O5, d5, h5, h6⟩
  dsimp only at n5 O5 ⊢
  have hl5 := d5.len
  refine rnp_idx sl23 (O5.rd (F := fun _ => True) (fun _ _ => trivial)) (k := k) (by omega) rfl fun q _ hq => ?_
  refine rn_at one30 hq rfl ?_
  refine rn_add2 (d5.el k (by omega) hk).2 hp fun v w6 hv e6 _ => ?_
  refine own_setN (f := 1) (vs := [.float .f64 v]) (x' := (⟨n, v⟩ : TShare)) sl23 (O5.ext e6) (k := k) (by omega) rfl (by simp) sz30 rfl (by simp [Value.oneCell']) ?_ fun w7 c7 O7 s7 => ?_
  · rw [show n = xs'[k].Service by rw [(d5.el k (by omega) hk).1, h6]]; rfl
  · refine ⟨(c5.thenE e6).then c7 fun b hb ho => ?_, n5, _, O7, ?_⟩
    · rcases n5 b ho with h | h
      · exact h
      · omega
    · rw [h5]; exact d5.set rfl hv
theorem refAdd_ok (hO : Own TShare.cells 2 32 B w s xs) (d : ShD xs ys) (hB : B ≤ w.heap.size) (hp : Fl p x) (hbytes : (ys.length + 1) * 24 ≤ 140737488355328) :
    Cal PP Sl.v 129 #[s.v, .string n, .float .f64 x] w (Adds B w s (addS ys n p)) := by
  refine c129 ?_
  unfold f129
  have hl := d.len
  have hR : ∀ {w'}, Ext w w' → Rd TShare.cells 2 (fun _ => True) w' s xs := fun e => (hO.ext e).rd (fun _ _ => trivial)
  refine Lp.mk (fun (i : Int) w' => ∃ k : Nat, i = k ∧ k ≤ xs.length ∧ w' = w ∧ ∀ j, j < k → atS xs n j = false) (fun i => xs.length - i.toNat) ⟨0, rfl, Nat.zero_le _, rfl, fun j hj => absurd hj (Nat.not_lt_zero _)⟩ ?_
  rintro i _ K ⟨k, rfl, hk, rfl, hall⟩ hK
  by_cases hlt : k < xs.length
  · refine iteT (by rw [hO.len]; omega) ?_
    refine rnp_idx sl23 (hR (Ext.refl _)) hlt rfl fun q _ hq => ?_
    refine rn_at one9 hq rfl ?_
    have ha := atS_eq (n := n) hlt
    by_cases c : xs[k].Service = n
    · refine iteT c ?_
      obtain ⟨h5, h6⟩ := addS_at d (x := p) hlt (by rw [ha]; simpa using c) hall (by omega)
      refine rnp_idx sl23 (hR (Ext.refl _)) hlt rfl fun q _ hq => ?_
      refine rn_at one30 hq rfl ?_
      refine rn_add2 (d.el k hlt (by omega)).2 hp fun v w6 hv e6 _ => ?_
      refine own_setN (f := 1) (vs := [.float .f64 v]) (x' := (⟨n, v⟩ : TShare)) sl23 (hO.ext e6) hlt rfl (by simp) sz30 rfl (by simp [Value.oneCell']) ?_ fun w7 c7 O7 s7 => ?_
      · rw [← c]; rfl
      · exact ⟨(e6.chg _).trans c7, fun b hb => .inl hb, _, O7, by rw [h5]; exact d.set rfl hv⟩
    · refine iteF c ?_
      rw [(hR (Ext.refl _)).wr hlt]
      exact hK _ _ ⟨k + 1, rfl, hlt, rfl, all_succ hall (by rw [ha]; simpa using c)⟩ (by omega)
  · refine iteF (by rw [hO.len]; omega) ?_
    refine rn_add2 (o := some 0) rfl hp fun v w2 hv e2 _ => ?_
    refine New.mk fun b18 w3 e3 h18 n18 s18 => ?_
    have E := e2.trans e3
    refine rn_app1 (x := (⟨n, v⟩ : TShare)) el23 (hO.ext E) h18 rfl rfl (oc_share _) (by rw [hl]; exact hbytes) (by decide) (by have := E.size; omega) fun s' w4 O4 c4 n4' => ?_
    refine ⟨(E.chg _).trans c4, fun b hb => ?_, _, O4, ?_⟩
    · rcases n4' b hb with h | h
      · exact .inl h
      · right; have := E.size; omega
    · rw [addS_no d fun j hj => hall j (by omega)]; exact d.snoc rfl hv
end
end Go.Proofs.Ytdoeegfcmbcbkaa.Ct

/- Contracts: steps of shares, by the program and by the document's package. -/
namespace Go.Proofs.Ytdoeegfcmbcbkaa.Ct
open Go Go.Eng Tr
set_option linter.unusedVariables false
set_option maxRecDepth 100000

section
variable {w : World} {F : Nat → Prop} {s : Sl} {xs : List TShare} {ys : List SH}
theorem lastOne_len (ys : List SH) : (lastOne ys).length = ys.length := by simp [lastOne]
theorem ShD.last {xs : List TShare} {ys : List SH} (h : ShD xs ys) (h0 : 0 < xs.length) : ShD (xs.set (xs.length - 1) ⟨(xs[xs.length - 1]'(by omega)).Service, one64⟩) (lastOne ys) := by
  have hl := h.len
  have e : lastOne ys = ys.set (xs.length - 1) ((ys[xs.length - 1]'(by omega)).1, some one64) := by
    unfold lastOne
    apply List.ext_getElem (by simp)
    intro i h1 h2
    rw [List.getElem_modify, List.getElem_set]
    by_cases hi : xs.length - 1 = i
    · subst hi; rw [if_pos (by omega), if_pos rfl]
    · rw [if_neg (by omega), if_neg hi]
  rw [e]
  exact h.set (h.el _ (by omega) (by omega)).1 rfl
theorem stp_yes {st : List SH × Option Nat} {y : SH} (h : oGt y.2 0 = true) : stp st y = (st.1 ++ [(y.1, oadd2 st.2 y.2)], oadd2 st.2 y.2) := by unfold stp; rw [if_pos h]
theorem stp_no {st : List SH × Option Nat} {y : SH} (h : ¬ oGt y.2 0 = true) : stp st y = st := by unfold stp; rw [if_neg h]
theorem steps_ok (h : Rd TShare.cells 2 F w s xs) (d : ShD xs ys) (hbytes : (ys.length + 1) * 24 ≤ 140737488355328) :
    Cal PP Sl.v 19 #[s.v] w fun s' w' => Ext w w' ∧ ∃ xs', Own TShare.cells 2 32 w.heap.size w' s' xs' ∧ ShD xs' (stepsS ys) := by
  refine c19 ?_
  unfold f19
  have hl := d.len
  refine Lp.mk (fun (y : Sl × Nat × Int) w' => ∃ (k : Nat) (xs' : List TShare), y.2.2 = k ∧ k ≤ xs.length ∧ Ext w w' ∧ Own TShare.cells 2 32 w.heap.size w' y.1 xs' ∧ ShD xs' (rawS (ys.take k)).1 ∧ Fl (rawS (ys.take k)).2 y.2.1) (fun y => xs.length - y.2.2.toNat)
    ⟨0, [], rfl, Nat.zero_le _, Ext.refl _, Own.nil_ _ _, ShD.nil, rfl⟩ ?_
  rintro ⟨z, u, _⟩ w1 K ⟨k, xs', rfl, hk, hE, hO, hd, hu⟩ hK
  dsimp only at hO hd hu ⊢
  by_cases hlt : k < xs.length
  · rw [if_pos (by rw [h.len]; omega)]
    have hky : k < ys.length := by omega
    have hel := d.el k hlt hky
    refine ⟨fun (y : Sl × Nat) w' => ∃ xs', Ext w w' ∧ Own TShare.cells 2 32 w.heap.size w' y.1 xs' ∧ ShD xs' (rawS (ys.take (k + 1))).1 ∧ Fl (rawS (ys.take (k + 1))).2 y.2, ?_, ?_⟩
    · rw [rawS_succ hky]
      refine rnp_idx sl23 (h.ext hE) hlt rfl fun p _ hp => ?_
      refine rn_ldN (x := xs[k]) many32 hp rfl rfl ?_
      refine New.var (TShare.cells xs[k]) sz32 rfl (oc_share _) rfl fun b6 w2 e2 h6 _ => ?_
      replace hE := hE.trans e2; replace hO := hO.ext e2
      refine rn_blk (x := xs[k].Upto) one30 h6 rfl rfl ?_
      rw [hel.2.gt]
      by_cases c : oGt ys[k].2 0 = true
      · refine iteT c ?_
        rw [stp_yes c]
        refine rn_blk (x := xs[k].Upto) one30 h6 rfl rfl ?_
        refine rn_add2 hu hel.2 fun v w3 hv e3 _ => ?_
        replace hE := hE.trans e3; replace hO := hO.ext e3; replace h6 := h6.ext e3
        refine rn_blk (x := xs[k].Service) one9 h6 rfl rfl ?_
        refine New.mk fun b25 w4 e4 h25 _ _ => ?_
        replace hE := hE.trans e4; replace hO := hO.ext e4
        have hlen : xs'.length ≤ k := by rw [hd.len]; exact rawS_len ys k (by omega)
        refine rn_app1 (x := (⟨xs[k].Service, v⟩ : TShare)) el23 hO h25 rfl rfl (oc_share _) (by omega) (by decide) hE.size fun s' w5 O5 c5 n5 => ?_
        exact ⟨_, hE.then c5 (fun b hb => (hO.ge hb).1), O5, hd.snoc hel.1 hv, hv⟩
      · refine iteF c ?_
        rw [stp_no c]
        exact ⟨xs', hE, hO, hd, hu⟩
    · rintro ⟨z, u⟩ w2 ⟨xs', hE, hO, hd, hu⟩
      dsimp only at hO hu ⊢
      rw [h.wr hlt]
      exact hK _ _ ⟨k + 1, xs', rfl, hlt, hE, hO, hd, hu⟩ (by dsimp only; omega)
  · rw [if_neg (by rw [h.len]; omega)]
    obtain rfl : k = xs.length := by omega
    rw [hl, List.take_length] at hd
    refine ⟨fun _ w' => Ext w w' ∧ ∃ xs', Own TShare.cells 2 32 w.heap.size w' z xs' ∧ ShD xs' (stepsS ys), ?_, fun _ w' h => h⟩
    by_cases c : 0 < xs'.length
    · refine iteT (by rw [hO.len]; omega) ?_
      have hlim := (hO.rd (F := fun _ => True) (fun _ _ => trivial)).lim
      have hcap := (hO.rd (F := fun _ => True) (fun _ _ => trivial)).cap
      have hn := hO.len
      have ei : IntKind.i64.wrap ((z.n : Int) - 1) = ((xs'.length - 1 : Nat) : Int) := by
        unfold maxLen at hlim
        rw [hn, wrap_in ⟨by omega, by omega⟩]; omega
      rw [ei]
      refine own_setN (f := 1) (vs := [.float .f64 one64]) (x' := (⟨(xs'[xs'.length - 1]'(by omega)).Service, one64⟩ : TShare)) sl23 hO (k := xs'.length - 1) (by omega) rfl (by simp) sz30 rfl (by simp [Value.oneCell']) rfl fun w2 c2 O2 s2 => ?_
      exact ⟨hE.then c2 (fun b hb => (hO.ge hb).1), _, O2, hd.last c⟩
    · refine iteF (by rw [hO.len]; omega) ?_
      have h0 : xs' = [] := List.eq_nil_of_length_eq_zero (by omega)
      have h1 : (rawS ys).1 = [] := List.eq_nil_of_length_eq_zero (by rw [← hd.len]; omega)
      exact ⟨hE, xs', hO, by unfold stepsS; rw [h1, h0]; exact ShD.nil⟩

/-! ### by the document's package -/
def posAt (ys : List SH) (k : Nat) : Bool := match ys[k]? with
  | some y => oGt y.2 0
  | none => false
theorem posAt_eq {k : Nat} (h : k < ys.length) : posAt ys k = oGt ys[k].2 0 := by simp [posAt, h]
def lst (ys : List SH) : Nat → Int
  | 0 => -1
  | k + 1 => if posAt ys k = true then (k : Int) else lst ys k
theorem lst_lt : ∀ k, lst ys k < k
  | 0 => by simp [lst]
  | k + 1 => by
    have := lst_lt k
    unfold lst; split <;> omega
theorem lst_ge {j : Nat} (hp : posAt ys j = true) : ∀ k, j < k → (j : Int) ≤ lst ys k
  | 0, h => absurd h (Nat.not_lt_zero _)
  | k + 1, h => by
    unfold lst
    by_cases c : posAt ys k = true
    · rw [if_pos c]; omega
    · rw [if_neg c]
      have : j ≠ k := fun e => c (e ▸ hp)
      exact lst_ge hp k (by omega)
theorem lst_pos {j : Nat} : ∀ k, lst ys k = j → posAt ys j = true
  | 0, h => by simp [lst] at h
  | k + 1, h => by
    unfold lst at h
    by_cases c : posAt ys k = true
    · rw [if_pos c] at h
      have : k = j := by omega
      exact this ▸ c
    · rw [if_neg c] at h; exact lst_pos k h
/-- which one gets the one -/
def cutS (m : Int) (k : Nat) (ys : List SH) : List SH := if m < (k : Int) then lastOne ys else ys
theorem refSteps_ok (h : Rd TShare.cells 2 F w s xs) (d : ShD xs ys) (hbytes : (ys.length + 1) * 24 ≤ 140737488355328) :
    Cal PP Sl.v 22 #[s.v] w fun s' w' => Ext w w' ∧ ∃ xs', Own TShare.cells 2 32 w.heap.size w' s' xs' ∧ ShD xs' (stepsS ys) := by
  refine c22 ?_
  unfold f22
  have hl := d.len
  refine Lp.mk (fun (y : Int × Int) w' => ∃ k : Nat, y.2 = k ∧ k ≤ xs.length ∧ w' = w ∧ y.1 = lst ys k) (fun y => xs.length - y.2.toNat) ⟨0, rfl, Nat.zero_le _, rfl, rfl⟩ ?_
  rintro ⟨_, _⟩ w0 K ⟨k, rfl, hk, hw0, rfl⟩ hK
  dsimp only at *
  subst hw0
  by_cases hlt : k < xs.length
  · rw [if_pos (by rw [h.len]; omega)]
    have hky : k < ys.length := by omega
    have hel := d.el k hlt hky
    refine ⟨fun y w' => w' = w0 ∧ y = lst ys (k + 1), ?_, ?_⟩
    · refine rnp_idx sl23 h hlt rfl fun p _ hp => ?_
      refine rn_at one30 hp rfl ?_
      rw [hel.2.gt]
      have hp := posAt_eq hky
      by_cases c : oGt ys[k].2 0 = true
      · exact iteT c ⟨rfl, by unfold lst; rw [hp, if_pos c]⟩
      · exact iteF c ⟨rfl, by conv => rhs; unfold lst
                              rw [hp, if_neg c]⟩
    rintro y w1 ⟨rfl, rfl⟩
    rw [h.wr hlt]
    exact hK _ _ ⟨k + 1, rfl, hlt, rfl, rfl⟩ (by dsimp only; omega)
  rw [if_neg (by rw [h.len]; omega)]
  obtain rfl : k = xs.length := by omega
  clear hK
  have hm1 := lst_lt (ys := ys) xs.length
  have hm2 : ∀ j, j < xs.length → posAt ys j = true → (j : Int) ≤ lst ys xs.length := fun j hj hp => lst_ge hp _ hj
  have hm3 : ∀ j : Nat, j < xs.length → lst ys xs.length = j → posAt ys j = true := fun j _ e => lst_pos _ e
  generalize lst ys xs.length = m at hm1 hm2 hm3
  refine Lp.mk (fun (y : Sl × Nat × Int) w' => ∃ (k : Nat) (xs' : List TShare), y.2.2 = k ∧ k ≤ xs.length ∧ Ext w0 w' ∧ Own TShare.cells 2 32 w0.heap.size w' y.1 xs' ∧ ShD xs' (cutS m k (rawS (ys.take k)).1) ∧ Fl (rawS (ys.take k)).2 y.2.1) (fun y => xs.length - y.2.2.toNat)
    ⟨0, [], rfl, Nat.zero_le _, Ext.refl _, Own.nil_ _ _, by
      have : cutS m 0 (rawS (ys.take 0)).1 = [] := by
        have h0 : (rawS (ys.take 0)).1 = [] := by simp [rawS]
        rw [h0]; unfold cutS; split <;> rfl
      rw [this]; exact ShD.nil, rfl⟩ ?_
  rintro ⟨z, u, _⟩ w1 K ⟨k, xs', rfl, hk, hE, hO, hd, hu⟩ hK
  dsimp only at hO hd hu ⊢
  by_cases hlt : k < xs.length
  · rw [if_pos (by rw [h.len]; omega)]
    have hky : k < ys.length := by omega
    have hel := d.el k hlt hky
    have hpk := posAt_eq hky
    refine ⟨fun (y : Sl × Nat) w' => ∃ xs', Ext w0 w' ∧ Own TShare.cells 2 32 w0.heap.size w' y.1 xs' ∧ ShD xs' (cutS m (k + 1) (rawS (ys.take (k + 1))).1) ∧ Fl (rawS (ys.take (k + 1))).2 y.2, ?_, ?_⟩
    · rw [rawS_succ hky]
      refine rnp_idx sl23 (h.ext hE) hlt rfl fun p _ hp => ?_
      refine rn_at one30 hp rfl ?_
      rw [hel.2.gt]
      by_cases c : oGt ys[k].2 0 = true
      · refine iteF (by simp [c]) ?_
        rw [stp_yes c]
        have hkm := hm2 k hlt (by rw [hpk]; exact c)
        refine rnp_idx sl23 (h.ext hE) hlt rfl fun p _ hp => ?_
        refine rn_at one30 hp rfl ?_
        refine rn_add2 hu hel.2 fun v w3 hv e3 _ => ?_
        replace hE := hE.trans e3; replace hO := hO.ext e3
        refine rnp_idx sl23 (h.ext hE) hlt rfl fun p _ hp => ?_
        refine rn_at one9 hp rfl ?_
        have hO3 := hO; have gE3 := hE.size
        refine New.var (TShare.cells ⟨xs[k].Service, v⟩) sz32 rfl (oc_share _) rfl fun b8 w4 e4 h8 nb8 => ?_
        replace hE := hE.trans e4; replace hO := hO.ext e4
        have hlen : xs'.length ≤ k := by
          rw [hd.len]
          have := rawS_len ys k (by omega)
          unfold cutS; split
          · rw [lastOne_len]; exact this
          · exact this
        have hcut : cutS m k (rawS (ys.take k)).1 = (rawS (ys.take k)).1 := by unfold cutS; rw [if_neg (by omega)]
        rw [hcut] at hd
        refine ⟨fun _ w' => ∃ v', Ext w0 w' ∧ Own TShare.cells 2 32 w0.heap.size w' z xs' ∧ Blk w' b8 32 (TShare.cells ⟨xs[k].Service, v'⟩) ∧ ShD (xs' ++ [⟨xs[k].Service, v'⟩]) (cutS m (k + 1) ((rawS (ys.take k)).1 ++ [(ys[k].1, oadd2 (rawS (ys.take k)).2 ys[k].2)])), ?_, ?_⟩
        · have gO : ∀ b, own? z b → b < w3.heap.size := fun b hb => (hO3.ge hb).2
          by_cases cm : (k : Int) = m
          · refine iteT cm ?_
            refine rnu_st (b := b8) (o := 1) rfl h8 [.float .f64 one64] sz30 rfl (by simp [Value.oneCell']) (by simp [TShare.cells]) fun w5 c5 s5 h8' => ?_
            refine ⟨one64, hE.then c5 (fun b hb => by omega), hO.chg c5 (fun b hb he => by have := gO b hb; omega), h8', ?_⟩
            unfold cutS; rw [if_pos (by omega), lastOne_snoc]
            exact hd.snoc hel.1 rfl
          · refine iteF cm ⟨v, hE, hO, h8, ?_⟩
            unfold cutS; rw [if_neg (by omega)]
            exact hd.snoc hel.1 hv
        rintro _ w5 ⟨v', hE, hO, h8, hd⟩
        refine rn_blkN (x := (⟨xs[k].Service, v'⟩ : TShare)) many32 h8 rfl rfl ?_
        refine New.mk fun b55 w6 e6 h55 _ _ => ?_
        replace hE := hE.trans e6; replace hO := hO.ext e6
        refine rn_app1 (x := (⟨xs[k].Service, v'⟩ : TShare)) el23 hO h55 rfl rfl (oc_share _) (by omega) (by decide) hE.size fun s' w7 O7 c7 n7 => ?_
        exact ⟨_, hE.then c7 (fun b hb => (hO.ge hb).1), O7, hd, hv⟩
      · refine iteT (by simp [c]) ?_
        rw [stp_no c]
        refine ⟨xs', hE, hO, ?_, hu⟩
        have hne : ¬ m = (k : Int) := fun e => c (by rw [← hpk]; exact hm3 k hlt e)
        have : cutS m (k + 1) (rawS (ys.take k)).1 = cutS m k (rawS (ys.take k)).1 := by
          unfold cutS
          by_cases c1 : m < (k : Int)
          · rw [if_pos c1, if_pos (by omega)]
          · rw [if_neg c1, if_neg (by omega)]
        rw [this]; exact hd
    · rintro ⟨z, u⟩ w2 ⟨xs', hE, hO, hd, hu⟩
      dsimp only at hO hu ⊢
      rw [h.wr hlt]
      exact hK _ _ ⟨k + 1, xs', rfl, hlt, hE, hO, hd, hu⟩ (by dsimp only; omega)
  · rw [if_neg (by rw [h.len]; omega)]
    obtain rfl : k = xs.length := by omega
    rw [hl, List.take_length] at hd
    refine ⟨hE, xs', hO, ?_⟩
    have : cutS m ys.length (rawS ys).1 = stepsS ys := by unfold cutS stepsS; rw [if_pos (by omega)]
    rw [← this]; exact hd
end
end Go.Proofs.Ytdoeegfcmbcbkaa.Ct

