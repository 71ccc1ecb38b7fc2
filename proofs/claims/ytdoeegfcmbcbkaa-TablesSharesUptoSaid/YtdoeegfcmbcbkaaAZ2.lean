/- A part of the proof whose last text is YtdoeegfcmbcbkaaAZ6. -/
import Derived.Test.YtdoeegfcmbcbkaaAZ1
set_option linter.all false
/- Made by program: typed transformers of the functions, each met by its code. -/
namespace Go.Proofs.Ytdoeegfcmbcbkaa.Tr
open Go Go.Eng
set_option linter.unusedVariables false
set_option maxRecDepth 100000
set_option maxHeartbeats 4000000
/-- turnpike/turnpikeref14.Less; slots 0:a, 1:b, 2:a, 3:b -/
def f47 (t0 : TResource) (t1 : TResource) (R : (Bool) → World → Prop) (w : World) : Prop :=
  New 48 (TResource.cells t0) w fun b2 w =>
  New 48 (TResource.cells t1) w fun b3 w =>
  Jn (σ := Bool) (fun k1 =>
    Rn Try.prog (Value.int .i64) (Instr.loadAt 3 (Ptr ((⟨b2, 0, none⟩ : Addr).add 0))) w fun t6 w =>
    Rn Try.prog (Value.int .i64) (Instr.loadAt 3 (Ptr ((⟨b3, 0, none⟩ : Addr).add 0))) w fun t8 w =>
    if t6 < t8 then
      k1 true w
    else
      Rn Try.prog (Value.int .i64) (Instr.loadAt 3 (Ptr ((⟨b2, 0, none⟩ : Addr).add 0))) w fun t12 w =>
      Rn Try.prog (Value.int .i64) (Instr.loadAt 3 (Ptr ((⟨b3, 0, none⟩ : Addr).add 0))) w fun t14 w =>
      if t12 = t14 then
        Rn Try.prog Value.string (Instr.loadAt 9 (Ptr ((⟨b2, 0, none⟩ : Addr).add 1))) w fun t18 w =>
        Rn Try.prog Value.string (Instr.loadAt 9 (Ptr ((⟨b3, 0, none⟩ : Addr).add 1))) w fun t20 w =>
        k1 (sLt t18 t20) w
      else
        k1 false w
  ) fun s1 w =>
    R s1 w
theorem c47 {t0 : TResource} {t1 : TResource} {R : (Bool) → World → Prop} {w : World} (h : f47 t0 t1 R w) :
    Cal Try.prog Value.bool 47 #[(TResource.v t0), (TResource.v t1)] w R := by
  unfold f47 at h
  refine calls_ Try.func47 Try.ntmps47 rfl rfl ?_
  refine seq_ ?_
  refine region_ ?_
  refine st_new (f := (fun b => Ptr ⟨b, 0, none⟩)) (ex_boxN rfl rfl) h ?_; clear h; intro b2 w h
  refine st_new (f := (fun b => Ptr ⟨b, 0, none⟩)) (ex_boxN rfl rfl) h ?_; clear h; intro b3 w h
  refine st_val (ex_assign (v := (.bool false)) rfl) ?_
  refine wl_nil ?_
  refine then_n ?_
  refine wp_jn (σ := Bool) (fun s1 l => ∃ j, l = upds j [(4, (.bool s1))]) h ?_ ?_
  · clear h; rintro s1 _ w ⟨j, rfl⟩ h
    refine wp_ret ?_
    refine ret_1 rfl rfl ⟨s1, rfl, h⟩
  · clear h; intro k1 h
    refine region_ ?_
    refine st_val (ex_fa fa48_0 (p := (⟨b2, 0, none⟩ : Addr)) rfl) ?_
    refine st_rn (fun r => ex_load rfl r) h ?_; clear h; intro t6 w h
    refine st_val (ex_fa fa48_0 (p := (⟨b3, 0, none⟩ : Addr)) rfl) ?_
    refine st_rn (fun r => ex_load rfl r) h ?_; clear h; intro t8 w h
    refine st_val (ex_lss (a := t6) (b := t8) rfl rfl) ?_
    refine st_val (ex_move (v := (.bool (decide (t6 < t8)))) rfl) ?_
    by_cases hc2 : t6 < t8
    · rw [if_pos hc2] at h
      refine st_off (t := 10) (c := (decide (t6 < t8))) rfl rfl (decide_eq_true hc2) ?_
      refine st_off (t := 10) (c := (decide (t6 < t8))) rfl rfl (decide_eq_true hc2) ?_
      refine st_off (t := 10) (c := (decide (t6 < t8))) rfl rfl (decide_eq_true hc2) ?_
      refine st_off (t := 10) (c := (decide (t6 < t8))) rfl rfl (decide_eq_true hc2) ?_
      refine st_off (t := 10) (c := (decide (t6 < t8))) rfl rfl (decide_eq_true hc2) ?_
      refine st_off (t := 10) (c := (decide (t6 < t8))) rfl rfl (decide_eq_true hc2) ?_
      refine st_offu (t := 16) rfl rfl ?_
      refine st_offu (t := 16) rfl rfl ?_
      refine st_offu (t := 16) rfl rfl ?_
      refine st_offu (t := 16) rfl rfl ?_
      refine st_offu (t := 16) rfl rfl ?_
      refine st_off (t := 10) (c := (decide (t6 < t8))) rfl rfl (decide_eq_true hc2) ?_
      refine st_val (ex_pick1 (b := (decide (t6 < t8))) rfl (decide_eq_true hc2) (v := (.bool true)) rfl) ?_
      refine st_val (ex_assign (v := (.bool true)) rfl) ?_
      refine wl_nil ?_
      exact then_n ⟨true, _, rfl, mk_upds' (ae rfl ae0), h⟩
    · rw [if_neg hc2] at h
      refine st_on (t := 10) (c := (decide (t6 < t8))) rfl rfl (decide_eq_false hc2) ?_
      refine st_val (ex_fa fa48_0 (p := (⟨b2, 0, none⟩ : Addr)) rfl) ?_
      refine st_on (t := 10) (c := (decide (t6 < t8))) rfl rfl (decide_eq_false hc2) ?_
      refine st_rn (fun r => ex_load rfl r) h ?_; clear h; intro t12 w h
      refine st_on (t := 10) (c := (decide (t6 < t8))) rfl rfl (decide_eq_false hc2) ?_
      refine st_val (ex_fa fa48_0 (p := (⟨b3, 0, none⟩ : Addr)) rfl) ?_
      refine st_on (t := 10) (c := (decide (t6 < t8))) rfl rfl (decide_eq_false hc2) ?_
      refine st_rn (fun r => ex_load rfl r) h ?_; clear h; intro t14 w h
      refine st_on (t := 10) (c := (decide (t6 < t8))) rfl rfl (decide_eq_false hc2) ?_
      refine st_val (ex_eql (a := t12) (b := t14) rfl rfl) ?_
      refine st_on (t := 10) (c := (decide (t6 < t8))) rfl rfl (decide_eq_false hc2) ?_
      refine st_val (ex_move (v := (.bool (decide (t12 = t14)))) rfl) ?_
      by_cases hc3 : t12 = t14
      · rw [if_pos hc3] at h
        refine st_on (t := 16) (c := (decide (t12 = t14))) rfl rfl (decide_eq_true hc3) ?_
        refine st_val (ex_fa fa48_1 (p := (⟨b2, 0, none⟩ : Addr)) rfl) ?_
        refine st_on (t := 16) (c := (decide (t12 = t14))) rfl rfl (decide_eq_true hc3) ?_
        refine st_rn (fun r => ex_load rfl r) h ?_; clear h; intro t18 w h
        refine st_on (t := 16) (c := (decide (t12 = t14))) rfl rfl (decide_eq_true hc3) ?_
        refine st_val (ex_fa fa48_1 (p := (⟨b3, 0, none⟩ : Addr)) rfl) ?_
        refine st_on (t := 16) (c := (decide (t12 = t14))) rfl rfl (decide_eq_true hc3) ?_
        refine st_rn (fun r => ex_load rfl r) h ?_; clear h; intro t20 w h
        refine st_on (t := 16) (c := (decide (t12 = t14))) rfl rfl (decide_eq_true hc3) ?_
        refine st_val (ex_lssS (a := t18) (b := t20) rfl rfl) ?_
        refine st_on (t := 10) (c := (decide (t6 < t8))) rfl rfl (decide_eq_false hc2) ?_
        refine st_val (ex_pick1 (b := (decide (t12 = t14))) rfl (decide_eq_true hc3) (v := (.bool (sLt t18 t20))) rfl) ?_
        refine st_val (ex_pick0 (b := (decide (t6 < t8))) rfl (decide_eq_false hc2) (v := (.bool (sLt t18 t20))) rfl) ?_
        refine st_val (ex_assign (v := (.bool (sLt t18 t20))) rfl) ?_
        refine wl_nil ?_
        exact then_n ⟨(sLt t18 t20), _, rfl, mk_upds' (ae rfl ae0), h⟩
      · rw [if_neg hc3] at h
        refine st_off (t := 16) (c := (decide (t12 = t14))) rfl rfl (decide_eq_false hc3) ?_
        refine st_off (t := 16) (c := (decide (t12 = t14))) rfl rfl (decide_eq_false hc3) ?_
        refine st_off (t := 16) (c := (decide (t12 = t14))) rfl rfl (decide_eq_false hc3) ?_
        refine st_off (t := 16) (c := (decide (t12 = t14))) rfl rfl (decide_eq_false hc3) ?_
        refine st_off (t := 16) (c := (decide (t12 = t14))) rfl rfl (decide_eq_false hc3) ?_
        refine st_on (t := 10) (c := (decide (t6 < t8))) rfl rfl (decide_eq_false hc2) ?_
        refine st_val (ex_pick0 (b := (decide (t12 = t14))) rfl (decide_eq_false hc3) (v := (.bool false)) rfl) ?_
        refine st_val (ex_pick0 (b := (decide (t6 < t8))) rfl (decide_eq_false hc2) (v := (.bool false)) rfl) ?_
        refine st_val (ex_assign (v := (.bool false)) rfl) ?_
        refine wl_nil ?_
        exact then_n ⟨false, _, rfl, mk_upds' (ae rfl ae0), h⟩

/-- slices.ContainsFunc[[]turnpike/api.Resource,turnpike/api.Resource]; slots 0:s, 1:f, 2:s, 3:f -/
def f53 (t0 : Sl) (t1 : Value) (R : (Bool) → World → Prop) (w : World) : Prop :=
  Cal Try.prog (Value.int .i64) 98 #[(Sl.v t0), t1] w fun t7 w =>
  R (decide (0 ≤ t7)) w
theorem c53 {t0 : Sl} {t1 : Value} {R : (Bool) → World → Prop} {w : World} (h : f53 t0 t1 R w) :
    Cal Try.prog Value.bool 53 #[(Sl.v t0), t1] w R := by
  unfold f53 at h
  refine calls_ Try.func53 Try.ntmps53 rfl rfl ?_
  refine seq_ ?_
  refine region_ ?_
  refine st_val (ex_assign (v := (.bool false)) rfl) ?_
  refine wl_nil ?_
  refine then_n ?_
  refine seq_ ?_
  refine region_ ?_
  refine st_val (ex_move (v := (Sl.v t0)) rfl) ?_
  refine st_val (ex_move (v := t1) rfl) ?_
  refine st_cal en98 rfl h ?_; clear h; intro t7 w h
  refine st_val (ex_geq (a := t7) (b := 0) rfl rfl) ?_
  refine st_val (ex_assign (v := (.bool (decide (0 ≤ t7)))) rfl) ?_
  refine wl_nil ?_
  refine then_n ?_
  refine wp_ret ?_
  refine ret_1 rfl rfl ⟨(decide (0 ≤ t7)), rfl, h⟩

/-- turnpike/tables.named; slots 0:conf, 1:kind, 2:conf, 3:kind, 5:out, 6:_, 7:r -/
def f54 (t0 : Sl) (t1 : Int) (R : (Sl) → World → Prop) (w : World) : Prop :=
  Lp (σ := Sl × Int) (fun s1 w n1 =>
    if s1.2 < (t0.n : Int) then
      Jn (σ := Sl) (fun k3 =>
        RnP Try.prog Ptr (Instr.indexAt 22 (Sl.v t0) (.int .i64 s1.2)) fun t12 =>
        Rn Try.prog TResource.v (Instr.loadAt 48 (Ptr t12)) w fun t13 w =>
        New 48 (TResource.cells (⟨0, ⟨#[]⟩, Sl.nil, Sl.nil, ⟨#[]⟩, Sl.nil, ⟨#[]⟩, false⟩ : TResource)) w fun b7 w =>
        RnU Try.prog (Instr.storeAt 48 (Ptr (⟨b7, 0, none⟩ : Addr)) (TResource.v t13)) w fun w =>
        Rn Try.prog (Value.int .i64) (Instr.loadAt 3 (Ptr ((⟨b7, 0, none⟩ : Addr).add 0))) w fun t15 w =>
        if t15 = t1 then
          Rn Try.prog TResource.v (Instr.loadAt 48 (Ptr (⟨b7, 0, none⟩ : Addr))) w fun t19 w =>
          New 48 ((TResource.cells t19)) w fun b20 w =>
          Rn Try.prog Sl.v (Builtin.append_ #[22, 22] 22 #[(Sl.v s1.1), (Sl.v (⟨some ⟨b20, 0, none⟩, 1, 1⟩ : Sl))]) w fun t21 w =>
          k3 t21 w
        else
          k3 s1.1 w
      ) fun s3 w =>
        n1 (s3, (IntKind.i64.wrap (s1.2 + 1))) w
    else
      R s1.1 w
  ) (Sl.nil, 0) w
theorem c54 {t0 : Sl} {t1 : Int} {R : (Sl) → World → Prop} {w : World} (h : f54 t0 t1 R w) :
    Cal Try.prog Sl.v 54 #[(Sl.v t0), (.int .i64 t1)] w R := by
  unfold f54 at h
  refine calls_ Try.func54 Try.ntmps54 rfl rfl ?_
  refine seq_ ?_
  refine region_ ?_
  refine st_val (ex_assign (v := (Sl.v Sl.nil)) rfl) ?_
  refine wl_nil ?_
  refine then_n ?_
  refine seq_ ?_
  refine region_ ?_
  refine st_val (ex_assign (v := (Sl.v Sl.nil)) rfl) ?_
  refine wl_nil ?_
  refine then_n ?_
  refine seq_ ?_
  refine seq_ ?_
  refine region_ ?_
  refine st_val (ex_move (v := (Sl.v t0)) rfl) ?_
  refine st_val (ex_len (s := t0) Try.underlying22 rfl) ?_
  refine st_val (ex_move (v := (.int .i64 0)) rfl) ?_
  refine wl_nil ?_
  refine then_n ?_
  refine wp_block ?_
  refine wp_lp (σ := Sl × Int) (fun s1 a => ∃ j, a = F 24 (upds j [(1, (.int .i64 t1)), (5, (Sl.v s1.1)), (8, (Sl.v t0)), (9, (.int .i64 (t0.n : Int))), (10, (.int .i64 s1.2))])) h (mk_upds (ae rfl (ae rfl (ae rfl (ae rfl (ae rfl ae0)))))) ?_
  clear h; rintro s1 _ w n1 ⟨j, rfl⟩ h
  refine seq_ ?_
  refine region_ ?_
  refine st_val (ex_lss (a := s1.2) (b := (t0.n : Int)) rfl rfl) ?_
  refine wl_nil ?_
  refine then_n ?_
  refine seq_ ?_
  by_cases hc2 : s1.2 < (t0.n : Int)
  · rw [if_pos hc2] at h; refine cond_1 (b := (decide (s1.2 < (t0.n : Int)))) rfl (decide_eq_true hc2) ?_
    refine wp_skip ?_
    refine then_n ?_
    refine wp_jn (σ := Sl) (fun s3 l => ∃ j, l = upds j [(1, (.int .i64 t1)), (5, (Sl.v s3)), (8, (Sl.v t0)), (9, (.int .i64 (t0.n : Int))), (10, (.int .i64 s1.2))]) h ?_ ?_
    · clear h; rintro s3 _ w ⟨j, rfl⟩ h
      refine region_ ?_
      refine st_val (ex_add (a := s1.2) (b := 1) rfl rfl) ?_
      refine st_val (ex_move (v := (.int .i64 (IntKind.i64.wrap (s1.2 + 1)))) rfl) ?_
      refine wl_nil ?_
      exact then_n ⟨(s3, (IntKind.i64.wrap (s1.2 + 1))), mk_upds (ae rfl (ae rfl (ae rfl (ae rfl (ae rfl ae0))))), h⟩
    · clear h; intro k3 h
      refine wp_block ?_
      refine seq_ ?_
      refine region_ ?_
      refine st_rnp (fun r => ex_indexAddr rfl rfl r) h ?_; clear h; intro t12 h
      refine st_rn (fun r => ex_load rfl r) h ?_; clear h; intro t13 w h
      refine st_new (f := (fun b => Ptr ⟨b, 0, none⟩)) (ex_allocN zero48 rfl) h ?_; clear h; intro b7 w h
      refine st_rnu (fun r => ex_store rfl rfl r) h ?_; clear h; intro w h
      refine wl_nil ?_
      refine then_n ?_
      refine seq_ ?_
      refine region_ ?_
      refine st_val (ex_fa fa48_0 (p := (⟨b7, 0, none⟩ : Addr)) rfl) ?_
      refine st_rn (fun r => ex_load rfl r) h ?_; clear h; intro t15 w h
      refine st_val (ex_move (v := (.int .i64 t1)) rfl) ?_
      refine st_val (ex_eql (a := t15) (b := t1) rfl rfl) ?_
      refine wl_nil ?_
      refine then_n ?_
      by_cases hc4 : t15 = t1
      · rw [if_pos hc4] at h; refine cond_1 (b := (decide (t15 = t1))) rfl (decide_eq_true hc4) ?_
        refine region_ ?_
        refine st_val (ex_move (v := (Sl.v s1.1)) rfl) ?_
        refine st_rn (fun r => ex_load rfl r) h ?_; clear h; intro t19 w h
        refine st_new (f := (fun b => Sl.v ⟨some ⟨b, 0, none⟩, 1, 1⟩)) (ex_buildSlice (a' := [(0, (TResource.v t19))]) rfl (e_buildSlice (cs := ((TResource.cells t19))) Try.underlying22 info48 iz48 (by decide +kernel) (by decide +kernel) (by kernel_rfl) _)) h ?_; clear h; intro b20 w h
        refine st_rn (fun r => ex_builtin rfl (fun _ => rfl) r) h ?_; clear h; intro t21 w h
        refine st_val (ex_assign (v := (Sl.v t21)) rfl) ?_
        refine wl_nil ?_
        refine inb_n ?_
        exact then_n ⟨t21, _, rfl, mk_upds' (ae rfl (ae rfl (ae rfl (ae rfl (ae rfl ae0))))), h⟩
      · rw [if_neg hc4] at h; refine cond_0 (b := (decide (t15 = t1))) rfl (decide_eq_false hc4) ?_
        refine wp_skip ?_
        refine inb_n ?_
        exact then_n ⟨s1.1, _, rfl, mk_upds' (ae rfl (ae rfl (ae rfl (ae rfl (ae rfl ae0))))), h⟩
  · rw [if_neg hc2] at h; refine cond_0 (b := (decide (s1.2 < (t0.n : Int)))) rfl (decide_eq_false hc2) ?_
    refine wp_exit ?_
    refine then_e ?_
    refine then_e ?_
    refine inb_e ?_
    refine then_n ?_
    refine seq_ ?_
    refine region_ ?_
    refine st_val (ex_move (v := (Sl.v s1.1)) rfl) ?_
    refine st_val (ex_assign (v := (Sl.v s1.1)) rfl) ?_
    refine wl_nil ?_
    refine then_n ?_
    refine wp_ret ?_
    refine ret_1 rfl rfl ⟨s1.1, rfl, h⟩

/-- turnpike/tables.Shares$1; slots 0:r, 2:r -/
def f55 (t0 : TResource) (t1 : Addr) (R : (Bool) → World → Prop) (w : World) : Prop :=
  New 48 (TResource.cells t0) w fun b2 w =>
  Rn Try.prog Value.string (Instr.loadAt 9 (Ptr ((⟨b2, 0, none⟩ : Addr).add 1))) w fun t5 w =>
  Rn Try.prog Value.string (Instr.loadAt 9 (Ptr t1)) w fun t6 w =>
  R (decide (t5 = t6)) w
theorem c55 {t0 : TResource} {t1 : Addr} {R : (Bool) → World → Prop} {w : World} (h : f55 t0 t1 R w) :
    Cal Try.prog Value.bool 55 #[(TResource.v t0), (Ptr t1)] w R := by
  unfold f55 at h
  refine calls_ Try.func55 Try.ntmps55 rfl rfl ?_
  refine seq_ ?_
  refine region_ ?_
  refine st_new (f := (fun b => Ptr ⟨b, 0, none⟩)) (ex_boxN rfl rfl) h ?_; clear h; intro b2 w h
  refine st_val (ex_assign (v := (.bool false)) rfl) ?_
  refine wl_nil ?_
  refine then_n ?_
  refine seq_ ?_
  refine region_ ?_
  refine st_val (ex_fa fa48_1 (p := (⟨b2, 0, none⟩ : Addr)) rfl) ?_
  refine st_rn (fun r => ex_load rfl r) h ?_; clear h; intro t5 w h
  refine st_rn (fun r => ex_load rfl r) h ?_; clear h; intro t6 w h
  refine st_val (ex_eqlS (a := t5) (b := t6) rfl rfl) ?_
  refine st_val (ex_assign (v := (.bool (decide (t5 = t6)))) rfl) ?_
  refine wl_nil ?_
  refine then_n ?_
  refine wp_ret ?_
  refine ret_1 rfl rfl ⟨(decide (t5 = t6)), rfl, h⟩

/-- slices.Clone[[]turnpike/api.Share,turnpike/api.Share]; slots 0:s, 1:s -/
def f56 (t0 : Sl) (R : (Sl) → World → Prop) (w : World) : Prop :=
  if (t0.a.isNone) = true then
    R Sl.nil w
  else
    New 32 [] w fun b5 w =>
    Rn Try.prog Sl.v (Builtin.append_ #[23, 23] 23 #[(Sl.v (⟨some ⟨b5, 0, none⟩, 0, 0⟩ : Sl)), (Sl.v t0)]) w fun t7 w =>
    R t7 w
theorem c56 {t0 : Sl} {R : (Sl) → World → Prop} {w : World} (h : f56 t0 R w) :
    Cal Try.prog Sl.v 56 #[(Sl.v t0)] w R := by
  unfold f56 at h
  refine calls_ Try.func56 Try.ntmps56 rfl rfl ?_
  refine seq_ ?_
  refine region_ ?_
  refine st_val (ex_assign (v := (Sl.v Sl.nil)) rfl) ?_
  refine wl_nil ?_
  refine then_n ?_
  refine seq_ ?_
  refine seq_ ?_
  refine region_ ?_
  refine st_val (ex_move (v := (Sl.v t0)) rfl) ?_
  refine st_val (ex_eqlSlNil (s := t0) (n := 0) (c := 0) Try.underlying23 rfl rfl) ?_
  refine wl_nil ?_
  refine then_n ?_
  by_cases hc1 : (t0.a.isNone) = true
  · rw [if_pos hc1] at h; refine cond_1 (b := (t0.a.isNone)) rfl hc1 ?_
    refine seq_ ?_
    refine region_ ?_
    refine st_val (ex_assign (v := (Sl.v Sl.nil)) rfl) ?_
    refine wl_nil ?_
    refine then_n ?_
    refine wp_ret ?_
    refine then_r ?_
    refine ret_1 rfl rfl ⟨Sl.nil, rfl, h⟩
  · rw [if_neg hc1] at h; refine cond_0 (b := (t0.a.isNone)) rfl (Bool.eq_false_iff.2 hc1) ?_
    refine wp_skip ?_
    refine then_n ?_
    refine seq_ ?_
    refine region_ ?_
    refine st_new (f := (fun b => Sl.v ⟨some ⟨b, 0, none⟩, 0, 0⟩)) (ex_buildSlice (a' := []) rfl (e_buildSlice0 Try.underlying23 info32 _)) h ?_; clear h; intro b5 w h
    refine st_val (ex_move (v := (Sl.v t0)) rfl) ?_
    refine st_rn (fun r => ex_builtin rfl (fun _ => rfl) r) h ?_; clear h; intro t7 w h
    refine st_val (ex_assign (v := (Sl.v t7)) rfl) ?_
    refine wl_nil ?_
    refine then_n ?_
    refine wp_ret ?_
    refine ret_1 rfl rfl ⟨t7, rfl, h⟩

/-- turnpike/tables.all; slots 0:conf, 1:conf, 3:targets, 4:_, 5:s, 6:done, 7:of, 8:name -/
def f57 (t0 : Sl) (R : ((Option Nat)) → World → Prop) (w : World) : Prop :=
  NewM w fun b9 w =>
  New 153 [(.map none)] w fun b3 w =>
  RnU Try.prog (Instr.storeAt 153 (Ptr (⟨b3, 0, none⟩ : Addr)) (.map (some b9))) w fun w =>
  Cal Try.prog Sl.v 54 #[(Sl.v t0), (.int .i64 2)] w fun t11 w =>
  Lp (σ := Int) (fun s1 w n1 =>
    if s1 < (t11.n : Int) then
      RnP Try.prog Ptr (Instr.indexAt 22 (Sl.v t11) (.int .i64 s1)) fun t15 =>
      Rn Try.prog TResource.v (Instr.loadAt 48 (Ptr t15)) w fun t16 w =>
      New 48 (TResource.cells (⟨0, ⟨#[]⟩, Sl.nil, Sl.nil, ⟨#[]⟩, Sl.nil, ⟨#[]⟩, false⟩ : TResource)) w fun b5 w =>
      RnU Try.prog (Instr.storeAt 48 (Ptr (⟨b5, 0, none⟩ : Addr)) (TResource.v t16)) w fun w =>
      Rn Try.prog Value.map (Instr.loadAt 153 (Ptr (⟨b3, 0, none⟩ : Addr))) w fun t17 w =>
      Rn Try.prog Value.string (Instr.loadAt 9 (Ptr ((⟨b5, 0, none⟩ : Addr).add 1))) w fun t19 w =>
      Rn Try.prog Sl.v (Instr.loadAt 45 (Ptr ((⟨b5, 0, none⟩ : Addr).add 3))) w fun t21 w =>
      RnU Try.prog (Instr.mapUpdate 153 (.map t17) (.string t19) (Sl.v t21)) w fun w =>
      n1 (IntKind.i64.wrap (s1 + 1)) w
    else
      NewM w fun b23 w =>
      New 97 [(.map none)] w fun b6 w =>
      RnU Try.prog (Instr.storeAt 97 (Ptr (⟨b6, 0, none⟩ : Addr)) (.map (some b23))) w fun w =>
      New 154 [Value.nilFunc] w fun b7 w =>
      RnU Try.prog (Instr.storeAt 154 (Ptr (⟨b7, 0, none⟩ : Addr)) (Value.func (.func 99) #[] #[(Ptr (⟨b6, 0, none⟩ : Addr)), (Ptr (⟨b3, 0, none⟩ : Addr)), (Ptr (⟨b7, 0, none⟩ : Addr))])) w fun w =>
      Rn Try.prog Value.map (Instr.loadAt 153 (Ptr (⟨b3, 0, none⟩ : Addr))) w fun t25 w =>
      Rn Try.prog (fun x : Value => x) (Instr.range 153 (.map t25)) w fun t26 w =>
      Lp (σ := Unit) (fun s3 w n3 =>
        Rn Try.prog (fun x : Value => x) (Instr.next t26 false 0) w fun t27 w =>
        RnP Try.prog Value.bool (Instr.extract t27 0) fun t28 =>
        if t28 = true then
          Rn Try.prog (fun x : Value => x) (Instr.entry t26) w fun t29 w =>
          RnP Try.prog Value.string (Instr.extract t29 0) fun t30 =>
          Rn Try.prog (fun x : Value => x) (Instr.loadAt 154 (Ptr (⟨b7, 0, none⟩ : Addr))) w fun t31 w =>
          CalV Try.prog Sl.v t31 #[(.string t30)] w fun t33 w =>
          n3 () w
        else
          Rn Try.prog Value.map (Instr.loadAt 97 (Ptr (⟨b6, 0, none⟩ : Addr))) w fun t34 w =>
          R t34 w
      ) () w
  ) 0 w
theorem c57 {t0 : Sl} {R : ((Option Nat)) → World → Prop} {w : World} (h : f57 t0 R w) :
    Cal Try.prog Value.map 57 #[(Sl.v t0)] w R := by
  unfold f57 at h
  refine calls_ Try.func57 Try.ntmps57 rfl rfl ?_
  refine seq_ ?_
  refine region_ ?_
  refine st_val (ex_assign (v := (.map none)) rfl) ?_
  refine wl_nil ?_
  refine then_n ?_
  refine seq_ ?_
  refine region_ ?_
  refine st_newm (ex_makeMap (e_makeMap _)) h ?_; clear h; intro b9 w h
  refine st_new (f := (fun b => Ptr ⟨b, 0, none⟩)) (ex_allocN zero153 rfl) h ?_; clear h; intro b3 w h
  refine st_rnu (fun r => ex_store rfl rfl r) h ?_; clear h; intro w h
  refine wl_nil ?_
  refine then_n ?_
  refine seq_ ?_
  refine seq_ ?_
  refine region_ ?_
  refine st_val (ex_move (v := (Sl.v t0)) rfl) ?_
  refine st_cal en54 rfl h ?_; clear h; intro t11 w h
  refine st_val (ex_len (s := t11) Try.underlying22 rfl) ?_
  refine st_val (ex_move (v := (.int .i64 0)) rfl) ?_
  refine wl_nil ?_
  refine then_n ?_
  refine wp_block ?_
  refine wp_lp (σ := Int) (fun s1 a => ∃ j, a = F 35 (upds j [(3, (Ptr (⟨b3, 0, none⟩ : Addr))), (11, (Sl.v t11)), (12, (.int .i64 (t11.n : Int))), (13, (.int .i64 s1))])) h (mk_upds (ae rfl (ae rfl (ae rfl (ae rfl ae0))))) ?_
  clear h; rintro s1 _ w n1 ⟨j, rfl⟩ h
  refine seq_ ?_
  refine region_ ?_
  refine st_val (ex_lss (a := s1) (b := (t11.n : Int)) rfl rfl) ?_
  refine wl_nil ?_
  refine then_n ?_
  refine seq_ ?_
  by_cases hc2 : s1 < (t11.n : Int)
  · rw [if_pos hc2] at h; refine cond_1 (b := (decide (s1 < (t11.n : Int)))) rfl (decide_eq_true hc2) ?_
    refine wp_skip ?_
    refine then_n ?_
    refine seq_ ?_
    refine wp_block ?_
    refine seq_ ?_
    refine region_ ?_
    refine st_rnp (fun r => ex_indexAddr rfl rfl r) h ?_; clear h; intro t15 h
    refine st_rn (fun r => ex_load rfl r) h ?_; clear h; intro t16 w h
    refine st_new (f := (fun b => Ptr ⟨b, 0, none⟩)) (ex_allocN zero48 rfl) h ?_; clear h; intro b5 w h
    refine st_rnu (fun r => ex_store rfl rfl r) h ?_; clear h; intro w h
    refine wl_nil ?_
    refine then_n ?_
    refine region_ ?_
    refine st_rn (fun r => ex_load rfl r) h ?_; clear h; intro t17 w h
    refine st_val (ex_fa fa48_1 (p := (⟨b5, 0, none⟩ : Addr)) rfl) ?_
    refine st_rn (fun r => ex_load rfl r) h ?_; clear h; intro t19 w h
    refine st_val (ex_fa fa48_3 (p := (⟨b5, 0, none⟩ : Addr)) rfl) ?_
    refine st_rn (fun r => ex_load rfl r) h ?_; clear h; intro t21 w h
    refine st_rnu (fun r => ex_mapUpdate rfl rfl rfl r) h ?_; clear h; intro w h
    refine wl_nil ?_
    refine inb_n ?_
    refine then_n ?_
    refine region_ ?_
    refine st_val (ex_add (a := s1) (b := 1) rfl rfl) ?_
    refine st_val (ex_move (v := (.int .i64 (IntKind.i64.wrap (s1 + 1)))) rfl) ?_
    refine wl_nil ?_
    exact then_n ⟨(IntKind.i64.wrap (s1 + 1)), mk_upds (ae rfl (ae rfl (ae rfl (ae rfl ae0)))), h⟩
  · rw [if_neg hc2] at h; refine cond_0 (b := (decide (s1 < (t11.n : Int)))) rfl (decide_eq_false hc2) ?_
    refine wp_exit ?_
    refine then_e ?_
    refine then_e ?_
    refine inb_e ?_
    refine then_n ?_
    refine seq_ ?_
    refine region_ ?_
    refine st_newm (ex_makeMap (e_makeMap _)) h ?_; clear h; intro b23 w h
    refine st_new (f := (fun b => Ptr ⟨b, 0, none⟩)) (ex_allocN zero97 rfl) h ?_; clear h; intro b6 w h
    refine st_rnu (fun r => ex_store rfl rfl r) h ?_; clear h; intro w h
    refine wl_nil ?_
    refine then_n ?_
    refine seq_ ?_
    refine region_ ?_
    refine st_new (f := (fun b => Ptr ⟨b, 0, none⟩)) (ex_allocN zero154 rfl) h ?_; clear h; intro b7 w h
    refine wl_nil ?_
    refine then_n ?_
    refine seq_ ?_
    refine region_ ?_
    refine st_val (ex_makeFunc rfl rfl) ?_
    refine st_rnu (fun r => ex_store rfl rfl r) h ?_; clear h; intro w h
    refine wl_nil ?_
    refine then_n ?_
    refine seq_ ?_
    refine seq_ ?_
    refine region_ ?_
    refine st_rn (fun r => ex_load rfl r) h ?_; clear h; intro t25 w h
    refine st_rn (fun r => ex_range rfl r) h ?_; clear h; intro t26 w h
    refine wl_nil ?_
    refine then_n ?_
    refine wp_block ?_
    refine wp_lp (σ := Unit) (fun s3 a => ∃ j, a = F 35 (upds j [(6, (Ptr (⟨b6, 0, none⟩ : Addr))), (7, (Ptr (⟨b7, 0, none⟩ : Addr))), (26, t26)])) h (mk_upds (ae rfl (ae rfl (ae rfl ae0)))) ?_
    clear h; rintro s3 _ w n3 ⟨j, rfl⟩ h
    refine seq_ ?_
    refine region_ ?_
    refine st_rn (fun r => ex_next rfl r) h ?_; clear h; intro t27 w h
    refine st_rnp (fun r => ex_extract rfl r) h ?_; clear h; intro t28 h
    refine wl_nil ?_
    refine then_n ?_
    refine seq_ ?_
    by_cases hc4 : t28 = true
    · rw [if_pos hc4] at h; refine cond_1 (b := t28) rfl hc4 ?_
      refine wp_skip ?_
      refine then_n ?_
      refine wp_block ?_
      refine seq_ ?_
      refine region_ ?_
      refine st_rn (fun r => ex_entry rfl r) h ?_; clear h; intro t29 w h
      refine st_rnp (fun r => ex_extract rfl r) h ?_; clear h; intro t30 h
      refine st_val (ex_assign (v := (.string t30)) rfl) ?_
      refine wl_nil ?_
      refine then_n ?_
      refine region_ ?_
      refine st_rn (fun r => ex_load rfl r) h ?_; clear h; intro t31 w h
      refine st_val (ex_move (v := (.string t30)) rfl) ?_
      refine st_calv rfl rfl h ?_; clear h; intro t33 w h
      refine wl_nil ?_
      refine inb_n ?_
      exact then_n ⟨(), mk_upds (ae rfl (ae rfl (ae rfl ae0))), h⟩
    · rw [if_neg hc4] at h; refine cond_0 (b := t28) rfl (Bool.eq_false_iff.2 hc4) ?_
      refine wp_exit ?_
      refine then_e ?_
      refine then_e ?_
      refine inb_e ?_
      refine then_n ?_
      refine seq_ ?_
      refine region_ ?_
      refine st_rn (fun r => ex_load rfl r) h ?_; clear h; intro t34 w h
      refine st_val (ex_assign (v := (.map t34)) rfl) ?_
      refine wl_nil ?_
      refine then_n ?_
      refine wp_ret ?_
      refine ret_1 rfl rfl ⟨t34, rfl, h⟩

/-- turnpike/turnpikeref14.Check; slots 0:conf, 1:conf, 4:i, 5:i, 6:n, 7:i, 8:k, 9:i, 10:sum, 11:fine, 12:k, 13:w, 14:near, 15:d, 16:i, 17:out, 18:i, 19:k, 20:x, 21:m, 22:y -/
def f58 (t0 : Sl) (R : (Sl × TFault14) → World → Prop) (w : World) : Prop :=
  New 101 (TFault14.cells (⟨0, 0, 0⟩ : TFault14)) w fun b3 w =>
  Cal Try.prog (Value.int .i64) 65 #[(Sl.v t0)] w fun t24 w =>
  if 0 ≤ t24 then
    RnU Try.prog (Instr.storeAt 101 (Ptr (⟨b3, 0, none⟩ : Addr)) (TFault14.v (⟨t24, 0, 2⟩ : TFault14))) w fun w =>
    RnR Try.prog TFault14.v (loadVar 101 (⟨b3, 0, none⟩ : Addr)) w fun r1 =>
    R (Sl.nil, r1) w
  else
    if 64 < (t0.n : Int) then
      RnU Try.prog (Instr.storeAt 101 (Ptr (⟨b3, 0, none⟩ : Addr)) (TFault14.v (⟨0, 0, 124⟩ : TFault14))) w fun w =>
      RnR Try.prog TFault14.v (loadVar 101 (⟨b3, 0, none⟩ : Addr)) w fun r1_1 =>
      R (Sl.nil, r1_1) w
    else
      Lp (σ := Int) (fun s3 w n3 =>
        if s3 < (t0.n : Int) then
          RnP Try.prog Ptr (Instr.indexAt 22 (Sl.v t0) (.int .i64 s3)) fun t42 =>
          Rn Try.prog TResource.v (Instr.loadAt 48 (Ptr t42)) w fun t43 w =>
          Cal Try.prog (Value.int .i64) 101 #[(Sl.v t0), (TResource.v t43)] w fun t44 w =>
          if 0 ≤ t44 then
            RnU Try.prog (Instr.storeAt 101 (Ptr (⟨b3, 0, none⟩ : Addr)) (TFault14.v (⟨s3, t44, 140⟩ : TFault14))) w fun w =>
            RnR Try.prog TFault14.v (loadVar 101 (⟨b3, 0, none⟩ : Addr)) w fun r1_2 =>
            R (Sl.nil, r1_2) w
          else
            n3 (IntKind.i64.wrap (s3 + 1)) w
        else
          Lp (σ := Int) (fun s6 w n6 =>
            if s6 < (t0.n : Int) then
              Lp (σ := Int) (fun s8 w n8 =>
                if s8 < s6 then
                  Jn (σ := Bool) (fun k10 =>
                    Dr w fun w11 w =>
                      RnP Try.prog Ptr (Instr.indexAt 22 (Sl.v t0) (.int .i64 s6)) fun t63 =>
                      RnL Try.prog (Value.int .i64) (Instr.loadAt 3 (Ptr (t63.add 0))) w11 fun t65 =>
                      if t65 = 3 then
                        RnP Try.prog Ptr (Instr.indexAt 22 (Sl.v t0) (.int .i64 s8)) fun t70 =>
                        RnL Try.prog (Value.int .i64) (Instr.loadAt 3 (Ptr (t70.add 0))) w11 fun t72 =>
                        if t72 = 3 then
                          RnP Try.prog Ptr (Instr.indexAt 22 (Sl.v t0) (.int .i64 s6)) fun t78 =>
                          RnL Try.prog Value.string (Instr.loadAt 9 (Ptr (t78.add 4))) w11 fun t80 =>
                          RnP Try.prog Ptr (Instr.indexAt 22 (Sl.v t0) (.int .i64 s8)) fun t83 =>
                          RnL Try.prog Value.string (Instr.loadAt 9 (Ptr (t83.add 4))) w11 fun t85 =>
                          k10 (decide (t80 = t85)) w
                        else
                          k10 false w
                      else
                        k10 false w
                  ) fun s10 w =>
                    if s10 = true then
                      RnU Try.prog (Instr.storeAt 101 (Ptr (⟨b3, 0, none⟩ : Addr)) (TFault14.v (⟨s6, 0, 141⟩ : TFault14))) w fun w =>
                      RnR Try.prog TFault14.v (loadVar 101 (⟨b3, 0, none⟩ : Addr)) w fun r1_3 =>
                      R (Sl.nil, r1_3) w
                    else
                      n8 (IntKind.i64.wrap (s8 + 1)) w
                else
                  n6 (IntKind.i64.wrap (s6 + 1)) w
              ) 0 w
            else
              Lp (σ := Int) (fun s15 w n15 =>
                if s15 < (t0.n : Int) then
                  Lp (σ := Nat × Bool × Int) (fun s17 w n17 =>
                    RnP Try.prog Ptr (Instr.indexAt 22 (Sl.v t0) (.int .i64 s15)) fun t99 =>
                    Rn Try.prog Sl.v (Instr.loadAt 45 (Ptr (t99.add 3))) w fun t101 w =>
                    if s17.2.2 < (t101.n : Int) then
                      RnP Try.prog Ptr (Instr.indexAt 22 (Sl.v t0) (.int .i64 s15)) fun t108 =>
                      Rn Try.prog Sl.v (Instr.loadAt 45 (Ptr (t108.add 3))) w fun t110 w =>
                      RnP Try.prog Ptr (Instr.indexAt 45 (Sl.v t110) (.int .i64 s17.2.2)) fun t112 =>
                      Rn Try.prog (Value.float .f64) (Instr.loadAt 30 (Ptr (t112.add 2))) w fun t114 w =>
                      Jn (σ := Bool) (fun k19 =>
                        if s17.2.1 = true then
                          if (fGe t114 0) = true then
                            k19 (fLe t114 4636737291354636288) w
                          else
                            k19 false w
                        else
                          k19 false w
                      ) fun s19 w =>
                        Rn Try.prog (Value.float .f64) (Op.floatArith .add .f64 s17.1 t114) w fun t126 w =>
                        n17 (t126, s19, (IntKind.i64.wrap (s17.2.2 + 1))) w
                    else
                      Jn (σ := Bool) (fun k22 =>
                        RnP Try.prog Ptr (Instr.indexAt 22 (Sl.v t0) (.int .i64 s15)) fun t129 =>
                        Rn Try.prog (Value.int .i64) (Instr.loadAt 3 (Ptr (t129.add 0))) w fun t131 w =>
                        if t131 = 2 then
                          if s17.2.1 = true then
                            Rn Try.prog (Value.float .f64) (Op.floatArith .sub .f64 4636737291354636288 4517110426252607488) w fun t138 w =>
                            if (fGe s17.1 t138) = true then
                              Rn Try.prog (Value.float .f64) (Op.floatArith .add .f64 4636737291354636288 4517110426252607488) w fun t144 w =>
                              k22 (!(fLe s17.1 t144)) w
                            else
                              k22 (!false) w
                          else
                            k22 (!false) w
                        else
                          k22 false w
                      ) fun s22 w =>
                        if s22 = true then
                          RnU Try.prog (Instr.storeAt 101 (Ptr (⟨b3, 0, none⟩ : Addr)) (TFault14.v (⟨s15, 0, 142⟩ : TFault14))) w fun w =>
                          RnR Try.prog TFault14.v (loadVar 101 (⟨b3, 0, none⟩ : Addr)) w fun r1_4 =>
                          R (Sl.nil, r1_4) w
                        else
                          n15 (IntKind.i64.wrap (s15 + 1)) w
                  ) (0, true, 0) w
                else
                  Cal Try.prog Sl.v 102 #[(Sl.v t0)] w fun t152 w =>
                  Lp (σ := Int) (fun s27 w n27 =>
                    if s27 < (t0.n : Int) then
                      Jn (σ := Bool) (fun k29 =>
                        RnP Try.prog Ptr (Instr.indexAt 22 (Sl.v t0) (.int .i64 s27)) fun t161 =>
                        Rn Try.prog (Value.int .i64) (Instr.loadAt 3 (Ptr (t161.add 0))) w fun t163 w =>
                        if t163 = 2 then
                          RnP Try.prog Ptr (Instr.indexAt 77 (Sl.v t152) (.int .i64 s27)) fun t168 =>
                          Rn Try.prog (Value.int .i64) (Instr.loadAt 3 (Ptr t168)) w fun t169 w =>
                          k29 (decide (t169 = 0)) w
                        else
                          k29 false w
                      ) fun s29 w =>
                        if s29 = true then
                          RnU Try.prog (Instr.storeAt 101 (Ptr (⟨b3, 0, none⟩ : Addr)) (TFault14.v (⟨s27, 0, 143⟩ : TFault14))) w fun w =>
                          RnR Try.prog TFault14.v (loadVar 101 (⟨b3, 0, none⟩ : Addr)) w fun r1_5 =>
                          R (Sl.nil, r1_5) w
                        else
                          n27 (IntKind.i64.wrap (s27 + 1)) w
                    else
                      Lp (σ := Sl × Int) (fun s32 w n32 =>
                        if s32.2 < (t0.n : Int) then
                          Jn (σ := Sl) (fun k34 =>
                            RnP Try.prog Ptr (Instr.indexAt 22 (Sl.v t0) (.int .i64 s32.2)) fun t182 =>
                            Rn Try.prog (Value.int .i64) (Instr.loadAt 3 (Ptr (t182.add 0))) w fun t184 w =>
                            if t184 < 3 then
                              k34 s32.1 w
                            else
                              Lp (σ := Sl × Int) (fun s36 w n36 =>
                                RnP Try.prog Ptr (Instr.indexAt 22 (Sl.v t0) (.int .i64 s32.2)) fun t189 =>
                                Rn Try.prog Sl.v (Instr.loadAt 46 (Ptr (t189.add 5))) w fun t191 w =>
                                if s36.2 < (t191.n : Int) then
                                  Jn (σ := Sl) (fun k38 =>
                                    RnP Try.prog Ptr (Instr.indexAt 22 (Sl.v t0) (.int .i64 s32.2)) fun t198 =>
                                    Rn Try.prog Sl.v (Instr.loadAt 46 (Ptr (t198.add 5))) w fun t200 w =>
                                    RnP Try.prog Ptr (Instr.indexAt 46 (Sl.v t200) (.int .i64 s36.2)) fun t202 =>
                                    Rn Try.prog TRule.v (Instr.loadAt 91 (Ptr t202)) w fun t203 w =>
                                    New 91 (TRule.cells (⟨⟨#[]⟩, ⟨#[]⟩, ⟨#[]⟩, false⟩ : TRule)) w fun b20 w =>
                                    RnU Try.prog (Instr.storeAt 91 (Ptr (⟨b20, 0, none⟩ : Addr)) (TRule.v t203)) w fun w =>
                                    Lp (σ := Sl × Int) (fun s39 w n39 =>
                                      if s39.2 < s36.2 then
                                        RnP Try.prog Ptr (Instr.indexAt 22 (Sl.v t0) (.int .i64 s32.2)) fun t211 =>
                                        Rn Try.prog Sl.v (Instr.loadAt 46 (Ptr (t211.add 5))) w fun t213 w =>
                                        RnP Try.prog Ptr (Instr.indexAt 46 (Sl.v t213) (.int .i64 s39.2)) fun t215 =>
                                        Rn Try.prog TRule.v (Instr.loadAt 91 (Ptr t215)) w fun t216 w =>
                                        New 91 (TRule.cells (⟨⟨#[]⟩, ⟨#[]⟩, ⟨#[]⟩, false⟩ : TRule)) w fun b22 w =>
                                        RnU Try.prog (Instr.storeAt 91 (Ptr (⟨b22, 0, none⟩ : Addr)) (TRule.v t216)) w fun w =>
                                        Jn (σ := Bool) (fun k41 =>
                                          Rn Try.prog Value.string (Instr.loadAt 9 (Ptr ((⟨b22, 0, none⟩ : Addr).add 1))) w fun t218 w =>
                                          if t218 = (⟨#[42]⟩ : ByteArray) then
                                            Rn Try.prog Value.string (Instr.loadAt 9 (Ptr ((⟨b22, 0, none⟩ : Addr).add 0))) w fun t229 w =>
                                            Rn Try.prog Value.string (Instr.loadAt 9 (Ptr ((⟨b20, 0, none⟩ : Addr).add 0))) w fun t231 w =>
                                            Cal Try.prog Value.bool 103 #[(.string t229), (.string t231)] w fun t232 w =>
                                            k41 t232 w
                                          else
                                            Rn Try.prog Value.string (Instr.loadAt 9 (Ptr ((⟨b22, 0, none⟩ : Addr).add 1))) w fun t222 w =>
                                            Rn Try.prog Value.string (Instr.loadAt 9 (Ptr ((⟨b20, 0, none⟩ : Addr).add 1))) w fun t224 w =>
                                            if t222 = t224 then
                                              Rn Try.prog Value.string (Instr.loadAt 9 (Ptr ((⟨b22, 0, none⟩ : Addr).add 0))) w fun t229_1 w =>
                                              Rn Try.prog Value.string (Instr.loadAt 9 (Ptr ((⟨b20, 0, none⟩ : Addr).add 0))) w fun t231_1 w =>
                                              Cal Try.prog Value.bool 103 #[(.string t229_1), (.string t231_1)] w fun t232_1 w =>
                                              k41 t232_1 w
                                            else
                                              k41 false w
                                        ) fun s41 w =>
                                          if s41 = true then
                                            New 160 ((TWarning14.cells (⟨s32.2, s36.2, s39.2⟩ : TWarning14))) w fun b239 w =>
                                            Rn Try.prog Sl.v (Builtin.append_ #[99, 99] 99 #[(Sl.v s39.1), (Sl.v (⟨some ⟨b239, 0, none⟩, 1, 1⟩ : Sl))]) w fun t240 w =>
                                            k38 t240 w
                                          else
                                            n39 (s39.1, (IntKind.i64.wrap (s39.2 + 1))) w
                                      else
                                        k38 s39.1 w
                                    ) (s36.1, 0) w
                                  ) fun s38 w =>
                                    n36 (s38, (IntKind.i64.wrap (s36.2 + 1))) w
                                else
                                  k34 s36.1 w
                              ) (s32.1, 0) w
                          ) fun s34 w =>
                            n32 (s34, (IntKind.i64.wrap (s32.2 + 1))) w
                        else
                          RnU Try.prog (Instr.storeAt 101 (Ptr (⟨b3, 0, none⟩ : Addr)) (TFault14.v (⟨0, 0, 0⟩ : TFault14))) w fun w =>
                          RnR Try.prog TFault14.v (loadVar 101 (⟨b3, 0, none⟩ : Addr)) w fun r1_6 =>
                          R (s32.1, r1_6) w
                      ) (Sl.nil, 0) w
                  ) 0 w
              ) 0 w
          ) 0 w
      ) 0 w
theorem c58 {t0 : Sl} {R : (Sl × TFault14) → World → Prop} {w : World} (h : f58 t0 R w) :
    Cal Try.prog (fun x : Sl × TFault14 => Value.tuple #[(Sl.v x.1), (TFault14.v x.2)]) 58 #[(Sl.v t0)] w R := by
  unfold f58 at h
  refine calls_ Try.func58 Try.ntmps58 rfl rfl ?_
  refine seq_ ?_
  refine region_ ?_
  refine st_val (ex_assign (v := (Sl.v Sl.nil)) rfl) ?_
  refine st_new (f := (fun b => Ptr ⟨b, 0, none⟩)) (ex_allocN zero101 rfl) h ?_; clear h; intro b3 w h
  refine wl_nil ?_
  refine then_n ?_
  refine seq_ ?_
  refine region_ ?_
  refine st_val (ex_move (v := (Sl.v t0)) rfl) ?_
  refine st_cal en65 rfl h ?_; clear h; intro t24 w h
  refine st_val (ex_assign (v := (.int .i64 t24)) rfl) ?_
  refine wl_nil ?_
  refine then_n ?_
  refine seq_ ?_
  refine seq_ ?_
  refine region_ ?_
  refine st_val (ex_move (v := (.int .i64 t24)) rfl) ?_
  refine st_val (ex_geq (a := t24) (b := 0) rfl rfl) ?_
  refine wl_nil ?_
  refine then_n ?_
  by_cases hc1 : 0 ≤ t24
  · rw [if_pos hc1] at h; refine cond_1 (b := (decide (0 ≤ t24))) rfl (decide_eq_true hc1) ?_
    refine seq_ ?_
    refine region_ ?_
    refine st_val (ex_move (v := (.int .i64 t24)) rfl) ?_
    refine st_val (ex_build (a' := [(0, (.int .i64 t24)), (2, (.int .i64 2))]) (v := TFault14.v (⟨t24, 0, 2⟩ : TFault14)) rfl (e_build Try.underlying101 zero101 rfl pl101 rfl _)) ?_
    refine st_val (ex_assign (v := (Sl.v Sl.nil)) rfl) ?_
    refine st_rnu (fun r => ex_store rfl rfl r) h ?_; clear h; intro w h
    refine wl_nil ?_
    refine then_n ?_
    refine wp_ret ?_
    refine then_r ?_
    obtain ⟨r1, hr1, h⟩ := h
    refine ret_tc rfl rfl rfl hr1 ⟨(Sl.nil, r1), rfl, h⟩
  · rw [if_neg hc1] at h; refine cond_0 (b := (decide (0 ≤ t24))) rfl (decide_eq_false hc1) ?_
    refine wp_skip ?_
    refine then_n ?_
    refine seq_ ?_
    refine seq_ ?_
    refine region_ ?_
    refine st_val (ex_move (v := (Sl.v t0)) rfl) ?_
    refine st_val (ex_len (s := t0) Try.underlying22 rfl) ?_
    refine st_val (ex_gtr (a := (t0.n : Int)) (b := 64) rfl rfl) ?_
    refine wl_nil ?_
    refine then_n ?_
    by_cases hc2 : 64 < (t0.n : Int)
    · rw [if_pos hc2] at h; refine cond_1 (b := (decide (64 < (t0.n : Int)))) rfl (decide_eq_true hc2) ?_
      refine seq_ ?_
      refine region_ ?_
      refine st_val (ex_build (a' := [(2, (.int .i64 124))]) (v := TFault14.v (⟨0, 0, 124⟩ : TFault14)) rfl (e_build Try.underlying101 zero101 rfl pl101 rfl _)) ?_
      refine st_val (ex_assign (v := (Sl.v Sl.nil)) rfl) ?_
      refine st_rnu (fun r => ex_store rfl rfl r) h ?_; clear h; intro w h
      refine wl_nil ?_
      refine then_n ?_
      refine wp_ret ?_
      refine then_r ?_
      obtain ⟨r1_1, hr1_1, h⟩ := h
      refine ret_tc rfl rfl rfl hr1_1 ⟨(Sl.nil, r1_1), rfl, h⟩
    · rw [if_neg hc2] at h; refine cond_0 (b := (decide (64 < (t0.n : Int)))) rfl (decide_eq_false hc2) ?_
      refine wp_skip ?_
      refine then_n ?_
      refine seq_ ?_
      refine seq_ ?_
      refine region_ ?_
      refine st_val (ex_assign (v := (.int .i64 0)) rfl) ?_
      refine wl_nil ?_
      refine then_n ?_
      refine wp_block ?_
      refine wp_lp (σ := Int) (fun s3 a => ∃ j, a = F 243 (upds j [(0, (Sl.v t0)), (3, (Ptr (⟨b3, 0, none⟩ : Addr))), (5, (.int .i64 s3))])) h (mk_upds (ae rfl (ae rfl (ae rfl ae0)))) ?_
      clear h; rintro s3 _ w n3 ⟨j, rfl⟩ h
      refine seq_ ?_
      refine seq_ ?_
      refine region_ ?_
      refine st_val (ex_move (v := (.int .i64 s3)) rfl) ?_
      refine st_val (ex_move (v := (Sl.v t0)) rfl) ?_
      refine st_val (ex_len (s := t0) Try.underlying22 rfl) ?_
      refine st_val (ex_lss (a := s3) (b := (t0.n : Int)) rfl rfl) ?_
      refine wl_nil ?_
      refine then_n ?_
      by_cases hc4 : s3 < (t0.n : Int)
      · rw [if_pos hc4] at h; refine cond_1 (b := (decide (s3 < (t0.n : Int)))) rfl (decide_eq_true hc4) ?_
        refine wp_skip ?_
        refine then_n ?_
        refine seq_ ?_
        refine wp_block ?_
        refine seq_ ?_
        refine region_ ?_
        refine st_val (ex_move (v := (Sl.v t0)) rfl) ?_
        refine st_val (ex_move (v := (Sl.v t0)) rfl) ?_
        refine st_val (ex_move (v := (.int .i64 s3)) rfl) ?_
        refine st_rnp (fun r => ex_indexAddr rfl rfl r) h ?_; clear h; intro t42 h
        refine st_rn (fun r => ex_load rfl r) h ?_; clear h; intro t43 w h
        refine st_cal en101 rfl h ?_; clear h; intro t44 w h
        refine st_val (ex_assign (v := (.int .i64 t44)) rfl) ?_
        refine wl_nil ?_
        refine then_n ?_
        refine seq_ ?_
        refine region_ ?_
        refine st_val (ex_move (v := (.int .i64 t44)) rfl) ?_
        refine st_val (ex_geq (a := t44) (b := 0) rfl rfl) ?_
        refine wl_nil ?_
        refine then_n ?_
        by_cases hc5 : 0 ≤ t44
        · rw [if_pos hc5] at h; refine cond_1 (b := (decide (0 ≤ t44))) rfl (decide_eq_true hc5) ?_
          refine seq_ ?_
          refine region_ ?_
          refine st_val (ex_move (v := (.int .i64 s3)) rfl) ?_
          refine st_val (ex_move (v := (.int .i64 t44)) rfl) ?_
          refine st_val (ex_build (a' := [(0, (.int .i64 s3)), (1, (.int .i64 t44)), (2, (.int .i64 140))]) (v := TFault14.v (⟨s3, t44, 140⟩ : TFault14)) rfl (e_build Try.underlying101 zero101 rfl pl101 rfl _)) ?_
          refine st_val (ex_assign (v := (Sl.v Sl.nil)) rfl) ?_
          refine st_rnu (fun r => ex_store rfl rfl r) h ?_; clear h; intro w h
          refine wl_nil ?_
          refine then_n ?_
          refine wp_ret ?_
          refine inb_r ?_
          refine then_r ?_
          refine then_r ?_
          refine inb_r ?_
          refine then_r ?_
          obtain ⟨r1_2, hr1_2, h⟩ := h
          refine ret_tc rfl rfl rfl hr1_2 ⟨(Sl.nil, r1_2), rfl, h⟩
        · rw [if_neg hc5] at h; refine cond_0 (b := (decide (0 ≤ t44))) rfl (decide_eq_false hc5) ?_
          refine wp_skip ?_
          refine inb_n ?_
          refine then_n ?_
          refine region_ ?_
          refine st_val (ex_move (v := (.int .i64 s3)) rfl) ?_
          refine st_val (ex_add (a := s3) (b := 1) rfl rfl) ?_
          refine st_val (ex_assign (v := (.int .i64 (IntKind.i64.wrap (s3 + 1)))) rfl) ?_
          refine wl_nil ?_
          exact then_n ⟨(IntKind.i64.wrap (s3 + 1)), mk_upds (ae rfl (ae rfl (ae rfl ae0))), h⟩
      · rw [if_neg hc4] at h; refine cond_0 (b := (decide (s3 < (t0.n : Int)))) rfl (decide_eq_false hc4) ?_
        refine wp_exit ?_
        refine then_e ?_
        refine then_e ?_
        refine inb_e ?_
        refine then_n ?_
        refine seq_ ?_
        refine seq_ ?_
        refine region_ ?_
        refine st_val (ex_assign (v := (.int .i64 0)) rfl) ?_
        refine wl_nil ?_
        refine then_n ?_
        refine wp_block ?_
        refine wp_lp (σ := Int) (fun s6 a => ∃ j, a = F 243 (upds j [(0, (Sl.v t0)), (3, (Ptr (⟨b3, 0, none⟩ : Addr))), (7, (.int .i64 s6))])) h (mk_upds (ae rfl (ae rfl (ae rfl ae0)))) ?_
        clear h; rintro s6 _ w n6 ⟨j, rfl⟩ h
        refine seq_ ?_
        refine seq_ ?_
        refine region_ ?_
        refine st_val (ex_move (v := (.int .i64 s6)) rfl) ?_
        refine st_val (ex_move (v := (Sl.v t0)) rfl) ?_
        refine st_val (ex_len (s := t0) Try.underlying22 rfl) ?_
        refine st_val (ex_lss (a := s6) (b := (t0.n : Int)) rfl rfl) ?_
        refine wl_nil ?_
        refine then_n ?_
        by_cases hc7 : s6 < (t0.n : Int)
        · rw [if_pos hc7] at h; refine cond_1 (b := (decide (s6 < (t0.n : Int)))) rfl (decide_eq_true hc7) ?_
          refine wp_skip ?_
          refine then_n ?_
          refine seq_ ?_
          refine wp_block ?_
          refine seq_ ?_
          refine region_ ?_
          refine st_val (ex_assign (v := (.int .i64 0)) rfl) ?_
          refine wl_nil ?_
          refine then_n ?_
          refine wp_block ?_
          refine wp_lp (σ := Int) (fun s8 a => ∃ j, a = F 243 (upds j [(0, (Sl.v t0)), (3, (Ptr (⟨b3, 0, none⟩ : Addr))), (7, (.int .i64 s6)), (8, (.int .i64 s8))])) h (mk_upds (ae rfl (ae rfl (ae rfl (ae rfl ae0))))) ?_
          clear h; rintro s8 _ w n8 ⟨j, rfl⟩ h
          refine seq_ ?_
          refine seq_ ?_
          refine region_ ?_
          refine st_val (ex_move (v := (.int .i64 s8)) rfl) ?_
          refine st_val (ex_move (v := (.int .i64 s6)) rfl) ?_
          refine st_val (ex_lss (a := s8) (b := s6) rfl rfl) ?_
          refine wl_nil ?_
          refine then_n ?_
          by_cases hc9 : s8 < s6
          · rw [if_pos hc9] at h; refine cond_1 (b := (decide (s8 < s6))) rfl (decide_eq_true hc9) ?_
            refine wp_skip ?_
            refine then_n ?_
            refine seq_ ?_
            refine wp_block ?_
            refine wp_jn (σ := Bool) (fun s10 l => ∃ j, l = upds j [(0, (Sl.v t0)), (3, (Ptr (⟨b3, 0, none⟩ : Addr))), (7, (.int .i64 s6)), (8, (.int .i64 s8)), (87, (.bool s10))]) h ?_ ?_
            · clear h; rintro s10 _ w ⟨j, rfl⟩ h
              by_cases hc14 : s10 = true
              · rw [if_pos hc14] at h; refine cond_1 (b := s10) rfl hc14 ?_
                refine seq_ ?_
                refine region_ ?_
                refine st_val (ex_move (v := (.int .i64 s6)) rfl) ?_
                refine st_val (ex_build (a' := [(0, (.int .i64 s6)), (2, (.int .i64 141))]) (v := TFault14.v (⟨s6, 0, 141⟩ : TFault14)) rfl (e_build Try.underlying101 zero101 rfl pl101 rfl _)) ?_
                refine st_val (ex_assign (v := (Sl.v Sl.nil)) rfl) ?_
                refine st_rnu (fun r => ex_store rfl rfl r) h ?_; clear h; intro w h
                refine wl_nil ?_
                refine then_n ?_
                refine wp_ret ?_
                refine inb_r ?_
                refine then_r ?_
                refine then_r ?_
                refine inb_r ?_
                refine inb_r ?_
                refine then_r ?_
                refine then_r ?_
                refine inb_r ?_
                refine then_r ?_
                obtain ⟨r1_3, hr1_3, h⟩ := h
                refine ret_tc rfl rfl rfl hr1_3 ⟨(Sl.nil, r1_3), rfl, h⟩
              · rw [if_neg hc14] at h; refine cond_0 (b := s10) rfl (Bool.eq_false_iff.2 hc14) ?_
                refine wp_skip ?_
                refine inb_n ?_
                refine then_n ?_
                refine region_ ?_
                refine st_val (ex_move (v := (.int .i64 s8)) rfl) ?_
                refine st_val (ex_add (a := s8) (b := 1) rfl rfl) ?_
                refine st_val (ex_assign (v := (.int .i64 (IntKind.i64.wrap (s8 + 1)))) rfl) ?_
                refine wl_nil ?_
                exact then_n ⟨(IntKind.i64.wrap (s8 + 1)), mk_upds (ae rfl (ae rfl (ae rfl (ae rfl ae0)))), h⟩
            · clear h; intro k10 h
              refine dr_begin mixed [] (listed := #[false, false, false, false, false, false, false, false, false, false, false, false, false, false, false, false, false, false, false, false, false, false, false, false, false, false, false]) rfl (n := 27) rfl h ?_; clear h; intro w11 h
              have hE : Ext w11 w11 := Ext.refl _
              refine dr_takeP (i := 0) (by kernel_rfl) rfl (fun _ _ _ h => h) (fun _ => hE) (fun _ => ex_move (v := (Sl.v t0)) rfl) ?_
              refine dr_takeP (i := 1) (by kernel_rfl) rfl (fun _ _ _ h => h) (fun _ => hE) (fun _ => ex_move (v := (.int .i64 s6)) rfl) ?_
              obtain ⟨t63, ht63, h⟩ := h
              refine dr_takeP (i := 2) (by kernel_rfl) rfl (fun _ _ _ h => h) (fun _ => hE) (fun _ => (fun r => ex_indexAddr rfl rfl r) (ht63 _)) ?_
              refine dr_takeP (i := 3) (by kernel_rfl) rfl (fun _ _ _ h => h) (fun _ => hE) (fun _ => ex_fa fa48_0 (p := t63) rfl) ?_
              obtain ⟨t65, ht65, h⟩ := h
              refine dr_take (i := 4) (by kernel_rfl) rfl (fun _ _ _ h => h) hE (fun _ hw => (fun r => ex_load rfl r) (ht65 _ hw)) ?_
              refine dr_takeP (i := 5) (by kernel_rfl) rfl (fun _ _ _ h => h) (fun _ => hE) (fun _ => ex_eql (a := t65) (b := 3) rfl rfl) ?_
              refine dr_takeP (i := 6) (by kernel_rfl) rfl (fun _ _ _ h => h) (fun _ => hE) (fun _ => ex_move (v := (.bool (decide (t65 = 3)))) rfl) ?_
              by_cases hc12 : t65 = 3
              · rw [if_pos hc12] at h
                refine dr_takeP_on (i := 7) (t := 67) (c := (decide (t65 = 3))) (by kernel_rfl) rfl rfl rfl (decide_eq_true hc12) (fun _ _ _ h => h) (fun _ => hE) (fun _ => ex_move (v := (Sl.v t0)) rfl) ?_
                refine dr_takeP_on (i := 8) (t := 67) (c := (decide (t65 = 3))) (by kernel_rfl) rfl rfl rfl (decide_eq_true hc12) (fun _ _ _ h => h) (fun _ => hE) (fun _ => ex_move (v := (.int .i64 s8)) rfl) ?_
                obtain ⟨t70, ht70, h⟩ := h
                refine dr_takeP_on (i := 9) (t := 67) (c := (decide (t65 = 3))) (by kernel_rfl) rfl rfl rfl (decide_eq_true hc12) (fun _ _ _ h => h) (fun _ => hE) (fun _ => (fun r => ex_indexAddr rfl rfl r) (ht70 _)) ?_
                refine dr_takeP_on (i := 10) (t := 67) (c := (decide (t65 = 3))) (by kernel_rfl) rfl rfl rfl (decide_eq_true hc12) (fun _ _ _ h => h) (fun _ => hE) (fun _ => ex_fa fa48_0 (p := t70) rfl) ?_
                obtain ⟨t72, ht72, h⟩ := h
                refine dr_take_on (i := 11) (t := 67) (c := (decide (t65 = 3))) (by kernel_rfl) rfl rfl rfl (decide_eq_true hc12) (fun _ _ _ h => h) hE (fun _ hw => (fun r => ex_load rfl r) (ht72 _ hw)) ?_
                refine dr_takeP_on (i := 12) (t := 67) (c := (decide (t65 = 3))) (by kernel_rfl) rfl rfl rfl (decide_eq_true hc12) (fun _ _ _ h => h) (fun _ => hE) (fun _ => ex_eql (a := t72) (b := 3) rfl rfl) ?_
                refine dr_takeP (i := 13) (by kernel_rfl) rfl (fun _ _ _ h => h) (fun _ => hE) (fun _ => ex_pick1 (b := (decide (t65 = 3))) rfl (decide_eq_true hc12) (v := (.bool (decide (t72 = 3)))) rfl) ?_
                refine dr_takeP (i := 14) (by kernel_rfl) rfl (fun _ _ _ h => h) (fun _ => hE) (fun _ => ex_move (v := (.bool (decide (t72 = 3)))) rfl) ?_
                by_cases hc13 : t72 = 3
                · rw [if_pos hc13] at h
                  refine dr_takeP_on (i := 15) (t := 75) (c := (decide (t72 = 3))) (by kernel_rfl) rfl rfl rfl (decide_eq_true hc13) (fun _ _ _ h => h) (fun _ => hE) (fun _ => ex_move (v := (Sl.v t0)) rfl) ?_
                  refine dr_takeP_on (i := 16) (t := 75) (c := (decide (t72 = 3))) (by kernel_rfl) rfl rfl rfl (decide_eq_true hc13) (fun _ _ _ h => h) (fun _ => hE) (fun _ => ex_move (v := (.int .i64 s6)) rfl) ?_
                  obtain ⟨t78, ht78, h⟩ := h
                  refine dr_takeP_on (i := 17) (t := 75) (c := (decide (t72 = 3))) (by kernel_rfl) rfl rfl rfl (decide_eq_true hc13) (fun _ _ _ h => h) (fun _ => hE) (fun _ => (fun r => ex_indexAddr rfl rfl r) (ht78 _)) ?_
                  refine dr_takeP_on (i := 18) (t := 75) (c := (decide (t72 = 3))) (by kernel_rfl) rfl rfl rfl (decide_eq_true hc13) (fun _ _ _ h => h) (fun _ => hE) (fun _ => ex_fa fa48_4 (p := t78) rfl) ?_
                  obtain ⟨t80, ht80, h⟩ := h
                  refine dr_take_on (i := 19) (t := 75) (c := (decide (t72 = 3))) (by kernel_rfl) rfl rfl rfl (decide_eq_true hc13) (fun _ _ _ h => h) hE (fun _ hw => (fun r => ex_load rfl r) (ht80 _ hw)) ?_
                  refine dr_takeP_on (i := 20) (t := 75) (c := (decide (t72 = 3))) (by kernel_rfl) rfl rfl rfl (decide_eq_true hc13) (fun _ _ _ h => h) (fun _ => hE) (fun _ => ex_move (v := (Sl.v t0)) rfl) ?_
                  refine dr_takeP_on (i := 21) (t := 75) (c := (decide (t72 = 3))) (by kernel_rfl) rfl rfl rfl (decide_eq_true hc13) (fun _ _ _ h => h) (fun _ => hE) (fun _ => ex_move (v := (.int .i64 s8)) rfl) ?_
                  obtain ⟨t83, ht83, h⟩ := h
                  refine dr_takeP_on (i := 22) (t := 75) (c := (decide (t72 = 3))) (by kernel_rfl) rfl rfl rfl (decide_eq_true hc13) (fun _ _ _ h => h) (fun _ => hE) (fun _ => (fun r => ex_indexAddr rfl rfl r) (ht83 _)) ?_
                  refine dr_takeP_on (i := 23) (t := 75) (c := (decide (t72 = 3))) (by kernel_rfl) rfl rfl rfl (decide_eq_true hc13) (fun _ _ _ h => h) (fun _ => hE) (fun _ => ex_fa fa48_4 (p := t83) rfl) ?_
                  obtain ⟨t85, ht85, h⟩ := h
                  refine dr_take_on (i := 24) (t := 75) (c := (decide (t72 = 3))) (by kernel_rfl) rfl rfl rfl (decide_eq_true hc13) (fun _ _ _ h => h) hE (fun _ hw => (fun r => ex_load rfl r) (ht85 _ hw)) ?_
                  refine dr_takeP_on (i := 25) (t := 75) (c := (decide (t72 = 3))) (by kernel_rfl) rfl rfl rfl (decide_eq_true hc13) (fun _ _ _ h => h) (fun _ => hE) (fun _ => ex_eqlS (a := t80) (b := t85) rfl rfl) ?_
                  refine dr_takeP (i := 26) (by kernel_rfl) rfl (fun _ _ _ h => h) (fun _ => hE) (fun _ => ex_pick1 (b := (decide (t72 = 3))) rfl (decide_eq_true hc13) (v := (.bool (decide (t80 = t85)))) rfl) ?_
                  refine dr_end (by kernel_rfl) ?_
                  exact then_n ⟨(decide (t80 = t85)), _, rfl, mk_upds' (ae rfl (ae rfl (ae rfl (ae rfl (ae rfl ae0))))), h⟩
                · rw [if_neg hc13] at h
                  refine dr_take_off (i := 15) (t := 75) (c := (decide (t72 = 3))) (by kernel_rfl) rfl rfl rfl (decide_eq_false hc13) (fun _ _ _ h => h) (fun _ => hE) ?_
                  refine dr_take_off (i := 16) (t := 75) (c := (decide (t72 = 3))) (by kernel_rfl) rfl rfl rfl (decide_eq_false hc13) (fun _ _ _ h => h) (fun _ => hE) ?_
                  refine dr_take_off (i := 17) (t := 75) (c := (decide (t72 = 3))) (by kernel_rfl) rfl rfl rfl (decide_eq_false hc13) (fun _ _ _ h => h) (fun _ => hE) ?_
                  refine dr_take_off (i := 18) (t := 75) (c := (decide (t72 = 3))) (by kernel_rfl) rfl rfl rfl (decide_eq_false hc13) (fun _ _ _ h => h) (fun _ => hE) ?_
                  refine dr_take_off (i := 19) (t := 75) (c := (decide (t72 = 3))) (by kernel_rfl) rfl rfl rfl (decide_eq_false hc13) (fun _ _ _ h => h) (fun _ => hE) ?_
                  refine dr_take_off (i := 20) (t := 75) (c := (decide (t72 = 3))) (by kernel_rfl) rfl rfl rfl (decide_eq_false hc13) (fun _ _ _ h => h) (fun _ => hE) ?_
                  refine dr_take_off (i := 21) (t := 75) (c := (decide (t72 = 3))) (by kernel_rfl) rfl rfl rfl (decide_eq_false hc13) (fun _ _ _ h => h) (fun _ => hE) ?_
                  refine dr_take_off (i := 22) (t := 75) (c := (decide (t72 = 3))) (by kernel_rfl) rfl rfl rfl (decide_eq_false hc13) (fun _ _ _ h => h) (fun _ => hE) ?_
                  refine dr_take_off (i := 23) (t := 75) (c := (decide (t72 = 3))) (by kernel_rfl) rfl rfl rfl (decide_eq_false hc13) (fun _ _ _ h => h) (fun _ => hE) ?_
                  refine dr_take_off (i := 24) (t := 75) (c := (decide (t72 = 3))) (by kernel_rfl) rfl rfl rfl (decide_eq_false hc13) (fun _ _ _ h => h) (fun _ => hE) ?_
                  refine dr_take_off (i := 25) (t := 75) (c := (decide (t72 = 3))) (by kernel_rfl) rfl rfl rfl (decide_eq_false hc13) (fun _ _ _ h => h) (fun _ => hE) ?_
                  refine dr_takeP (i := 26) (by kernel_rfl) rfl (fun _ _ _ h => h) (fun _ => hE) (fun _ => ex_pick0 (b := (decide (t72 = 3))) rfl (decide_eq_false hc13) (v := (.bool false)) rfl) ?_
                  refine dr_end (by kernel_rfl) ?_
                  exact then_n ⟨false, _, rfl, mk_upds' (ae rfl (ae rfl (ae rfl (ae rfl (ae rfl ae0))))), h⟩
              · rw [if_neg hc12] at h
                refine dr_take_off (i := 7) (t := 67) (c := (decide (t65 = 3))) (by kernel_rfl) rfl rfl rfl (decide_eq_false hc12) (fun _ _ _ h => h) (fun _ => hE) ?_
                refine dr_take_off (i := 8) (t := 67) (c := (decide (t65 = 3))) (by kernel_rfl) rfl rfl rfl (decide_eq_false hc12) (fun _ _ _ h => h) (fun _ => hE) ?_
                refine dr_take_off (i := 9) (t := 67) (c := (decide (t65 = 3))) (by kernel_rfl) rfl rfl rfl (decide_eq_false hc12) (fun _ _ _ h => h) (fun _ => hE) ?_
                refine dr_take_off (i := 10) (t := 67) (c := (decide (t65 = 3))) (by kernel_rfl) rfl rfl rfl (decide_eq_false hc12) (fun _ _ _ h => h) (fun _ => hE) ?_
                refine dr_take_off (i := 11) (t := 67) (c := (decide (t65 = 3))) (by kernel_rfl) rfl rfl rfl (decide_eq_false hc12) (fun _ _ _ h => h) (fun _ => hE) ?_
                refine dr_take_off (i := 12) (t := 67) (c := (decide (t65 = 3))) (by kernel_rfl) rfl rfl rfl (decide_eq_false hc12) (fun _ _ _ h => h) (fun _ => hE) ?_
                refine dr_takeP (i := 13) (by kernel_rfl) rfl (fun _ _ _ h => h) (fun _ => hE) (fun _ => ex_pick0 (b := (decide (t65 = 3))) rfl (decide_eq_false hc12) (v := (.bool false)) rfl) ?_
                refine dr_takeP (i := 14) (by kernel_rfl) rfl (fun _ _ _ h => h) (fun _ => hE) (fun _ => ex_move (v := (.bool false)) rfl) ?_
                refine dr_take_off (i := 15) (t := 75) (c := false) (by kernel_rfl) rfl rfl rfl (rfl : false = !true) (fun _ _ _ h => h) (fun _ => hE) ?_
                refine dr_take_off (i := 16) (t := 75) (c := false) (by kernel_rfl) rfl rfl rfl (rfl : false = !true) (fun _ _ _ h => h) (fun _ => hE) ?_
                refine dr_take_off (i := 17) (t := 75) (c := false) (by kernel_rfl) rfl rfl rfl (rfl : false = !true) (fun _ _ _ h => h) (fun _ => hE) ?_
                refine dr_take_off (i := 18) (t := 75) (c := false) (by kernel_rfl) rfl rfl rfl (rfl : false = !true) (fun _ _ _ h => h) (fun _ => hE) ?_
                refine dr_take_off (i := 19) (t := 75) (c := false) (by kernel_rfl) rfl rfl rfl (rfl : false = !true) (fun _ _ _ h => h) (fun _ => hE) ?_
                refine dr_take_off (i := 20) (t := 75) (c := false) (by kernel_rfl) rfl rfl rfl (rfl : false = !true) (fun _ _ _ h => h) (fun _ => hE) ?_
                refine dr_take_off (i := 21) (t := 75) (c := false) (by kernel_rfl) rfl rfl rfl (rfl : false = !true) (fun _ _ _ h => h) (fun _ => hE) ?_
                refine dr_take_off (i := 22) (t := 75) (c := false) (by kernel_rfl) rfl rfl rfl (rfl : false = !true) (fun _ _ _ h => h) (fun _ => hE) ?_
                refine dr_take_off (i := 23) (t := 75) (c := false) (by kernel_rfl) rfl rfl rfl (rfl : false = !true) (fun _ _ _ h => h) (fun _ => hE) ?_
                refine dr_take_off (i := 24) (t := 75) (c := false) (by kernel_rfl) rfl rfl rfl (rfl : false = !true) (fun _ _ _ h => h) (fun _ => hE) ?_
                refine dr_take_off (i := 25) (t := 75) (c := false) (by kernel_rfl) rfl rfl rfl (rfl : false = !true) (fun _ _ _ h => h) (fun _ => hE) ?_
                refine dr_takeP (i := 26) (by kernel_rfl) rfl (fun _ _ _ h => h) (fun _ => hE) (fun _ => ex_pick0 (b := false) rfl (rfl : false = false) (v := (.bool false)) rfl) ?_
                refine dr_end (by kernel_rfl) ?_
                exact then_n ⟨false, _, rfl, mk_upds' (ae rfl (ae rfl (ae rfl (ae rfl (ae rfl ae0))))), h⟩
          · rw [if_neg hc9] at h; refine cond_0 (b := (decide (s8 < s6))) rfl (decide_eq_false hc9) ?_
            refine wp_exit ?_
            refine then_e ?_
            refine then_e ?_
            refine inb_e ?_
            refine inb_n ?_
            refine then_n ?_
            refine region_ ?_
            refine st_val (ex_move (v := (.int .i64 s6)) rfl) ?_
            refine st_val (ex_add (a := s6) (b := 1) rfl rfl) ?_
            refine st_val (ex_assign (v := (.int .i64 (IntKind.i64.wrap (s6 + 1)))) rfl) ?_
            refine wl_nil ?_
            exact then_n ⟨(IntKind.i64.wrap (s6 + 1)), mk_upds (ae rfl (ae rfl (ae rfl ae0))), h⟩
        · rw [if_neg hc7] at h; refine cond_0 (b := (decide (s6 < (t0.n : Int)))) rfl (decide_eq_false hc7) ?_
          refine wp_exit ?_
          refine then_e ?_
          refine then_e ?_
          refine inb_e ?_
          refine then_n ?_
          refine seq_ ?_
          refine seq_ ?_
          refine region_ ?_
          refine st_val (ex_assign (v := (.int .i64 0)) rfl) ?_
          refine wl_nil ?_
          refine then_n ?_
          refine wp_block ?_
          refine wp_lp (σ := Int) (fun s15 a => ∃ j, a = F 243 (upds j [(0, (Sl.v t0)), (3, (Ptr (⟨b3, 0, none⟩ : Addr))), (9, (.int .i64 s15))])) h (mk_upds (ae rfl (ae rfl (ae rfl ae0)))) ?_
          clear h; rintro s15 _ w n15 ⟨j, rfl⟩ h
          refine seq_ ?_
          refine seq_ ?_
          refine region_ ?_
          refine st_val (ex_move (v := (.int .i64 s15)) rfl) ?_
          refine st_val (ex_move (v := (Sl.v t0)) rfl) ?_
          refine st_val (ex_len (s := t0) Try.underlying22 rfl) ?_
          refine st_val (ex_lss (a := s15) (b := (t0.n : Int)) rfl rfl) ?_
          refine wl_nil ?_
          refine then_n ?_
          by_cases hc16 : s15 < (t0.n : Int)
          · rw [if_pos hc16] at h; refine cond_1 (b := (decide (s15 < (t0.n : Int)))) rfl (decide_eq_true hc16) ?_
            refine wp_skip ?_
            refine then_n ?_
            refine seq_ ?_
            refine wp_block ?_
            refine seq_ ?_
            refine region_ ?_
            refine st_val (ex_assign (v := (.float .f64 0)) rfl) ?_
            refine wl_nil ?_
            refine then_n ?_
            refine seq_ ?_
            refine region_ ?_
            refine st_val (ex_assign (v := (.bool true)) rfl) ?_
            refine wl_nil ?_
            refine then_n ?_
            refine seq_ ?_
            refine seq_ ?_
            refine region_ ?_
            refine st_val (ex_assign (v := (.int .i64 0)) rfl) ?_
            refine wl_nil ?_
            refine then_n ?_
            refine wp_block ?_
            refine wp_lp (σ := Nat × Bool × Int) (fun s17 a => ∃ j, a = F 243 (upds j [(0, (Sl.v t0)), (3, (Ptr (⟨b3, 0, none⟩ : Addr))), (9, (.int .i64 s15)), (10, (.float .f64 s17.1)), (11, (.bool s17.2.1)), (12, (.int .i64 s17.2.2))])) h (mk_upds (ae rfl (ae rfl (ae rfl (ae rfl (ae rfl (ae rfl ae0))))))) ?_
            clear h; rintro s17 _ w n17 ⟨j, rfl⟩ h
            refine seq_ ?_
            refine seq_ ?_
            refine region_ ?_
            refine st_val (ex_move (v := (.int .i64 s17.2.2)) rfl) ?_
            refine st_val (ex_move (v := (Sl.v t0)) rfl) ?_
            refine st_val (ex_move (v := (.int .i64 s15)) rfl) ?_
            refine st_rnp (fun r => ex_indexAddr rfl rfl r) h ?_; clear h; intro t99 h
            refine st_val (ex_fa fa48_3 (p := t99) rfl) ?_
            refine st_rn (fun r => ex_load rfl r) h ?_; clear h; intro t101 w h
            refine st_val (ex_len (s := t101) Try.underlying45 rfl) ?_
            refine st_val (ex_lss (a := s17.2.2) (b := (t101.n : Int)) rfl rfl) ?_
            refine wl_nil ?_
            refine then_n ?_
            by_cases hc18 : s17.2.2 < (t101.n : Int)
            · rw [if_pos hc18] at h; refine cond_1 (b := (decide (s17.2.2 < (t101.n : Int)))) rfl (decide_eq_true hc18) ?_
              refine wp_skip ?_
              refine then_n ?_
              refine seq_ ?_
              refine wp_block ?_
              refine seq_ ?_
              refine region_ ?_
              refine st_val (ex_move (v := (Sl.v t0)) rfl) ?_
              refine st_val (ex_move (v := (.int .i64 s15)) rfl) ?_
              refine st_rnp (fun r => ex_indexAddr rfl rfl r) h ?_; clear h; intro t108 h
              refine st_val (ex_fa fa48_3 (p := t108) rfl) ?_
              refine st_rn (fun r => ex_load rfl r) h ?_; clear h; intro t110 w h
              refine st_val (ex_move (v := (.int .i64 s17.2.2)) rfl) ?_
              refine st_rnp (fun r => ex_indexAddr rfl rfl r) h ?_; clear h; intro t112 h
              refine st_val (ex_fa fa84_2 (p := t112) rfl) ?_
              refine st_rn (fun r => ex_load rfl r) h ?_; clear h; intro t114 w h
              refine st_val (ex_assign (v := (.float .f64 t114)) rfl) ?_
              refine wl_nil ?_
              refine then_n ?_
              refine wp_jn (σ := Bool) (fun s19 l => ∃ j, l = upds j [(0, (Sl.v t0)), (3, (Ptr (⟨b3, 0, none⟩ : Addr))), (9, (.int .i64 s15)), (10, (.float .f64 s17.1)), (11, (.bool s19)), (12, (.int .i64 s17.2.2)), (13, (.float .f64 t114))]) h ?_ ?_
              · clear h; rintro s19 _ w ⟨j, rfl⟩ h
                refine region_ ?_
                refine st_val (ex_move (v := (.float .f64 s17.1)) rfl) ?_
                refine st_val (ex_move (v := (.float .f64 t114)) rfl) ?_
                refine st_rn (fun r => ex_addF (a := s17.1) (b := t114) rfl rfl r) h ?_; clear h; intro t126 w h
                refine st_val (ex_assign (v := (.float .f64 t126)) rfl) ?_
                refine wl_nil ?_
                refine inb_n ?_
                refine then_n ?_
                refine region_ ?_
                refine st_val (ex_move (v := (.int .i64 s17.2.2)) rfl) ?_
                refine st_val (ex_add (a := s17.2.2) (b := 1) rfl rfl) ?_
                refine st_val (ex_assign (v := (.int .i64 (IntKind.i64.wrap (s17.2.2 + 1)))) rfl) ?_
                refine wl_nil ?_
                exact then_n ⟨(t126, s19, (IntKind.i64.wrap (s17.2.2 + 1))), mk_upds (ae rfl (ae rfl (ae rfl (ae rfl (ae rfl (ae rfl ae0)))))), h⟩
              · clear h; intro k19 h
                refine region_ ?_
                refine st_val (ex_move (v := (.bool s17.2.1)) rfl) ?_
                refine st_val (ex_move (v := (.bool s17.2.1)) rfl) ?_
                by_cases hc20 : s17.2.1 = true
                · rw [if_pos hc20] at h
                  refine st_on (t := 116) (c := s17.2.1) rfl rfl hc20 ?_
                  refine st_val (ex_move (v := (.float .f64 t114)) rfl) ?_
                  refine st_on (t := 116) (c := s17.2.1) rfl rfl hc20 ?_
                  refine st_val (ex_geqF (a := t114) (b := 0) rfl rfl) ?_
                  refine st_val (ex_pick1 (b := s17.2.1) rfl hc20 (v := (.bool (fGe t114 0))) rfl) ?_
                  refine st_val (ex_move (v := (.bool (fGe t114 0))) rfl) ?_
                  by_cases hc21 : (fGe t114 0) = true
                  · rw [if_pos hc21] at h
                    refine st_on (t := 120) (c := (fGe t114 0)) rfl rfl hc21 ?_
                    refine st_val (ex_move (v := (.float .f64 t114)) rfl) ?_
                    refine st_on (t := 120) (c := (fGe t114 0)) rfl rfl hc21 ?_
                    refine st_val (ex_leqF (a := t114) (b := 4636737291354636288) rfl rfl) ?_
                    refine st_val (ex_pick1 (b := (fGe t114 0)) rfl hc21 (v := (.bool (fLe t114 4636737291354636288))) rfl) ?_
                    refine st_val (ex_assign (v := (.bool (fLe t114 4636737291354636288))) rfl) ?_
                    refine wl_nil ?_
                    exact then_n ⟨(fLe t114 4636737291354636288), _, rfl, mk_upds' (ae rfl (ae rfl (ae rfl (ae rfl (ae rfl (ae rfl (ae rfl ae0))))))), h⟩
                  · rw [if_neg hc21] at h
                    refine st_off (t := 120) (c := (fGe t114 0)) rfl rfl (Bool.eq_false_iff.2 hc21) ?_
                    refine st_off (t := 120) (c := (fGe t114 0)) rfl rfl (Bool.eq_false_iff.2 hc21) ?_
                    refine st_val (ex_pick0 (b := (fGe t114 0)) rfl (Bool.eq_false_iff.2 hc21) (v := (.bool false)) rfl) ?_
                    refine st_val (ex_assign (v := (.bool false)) rfl) ?_
                    refine wl_nil ?_
                    exact then_n ⟨false, _, rfl, mk_upds' (ae rfl (ae rfl (ae rfl (ae rfl (ae rfl (ae rfl (ae rfl ae0))))))), h⟩
                · rw [if_neg hc20] at h
                  refine st_off (t := 116) (c := s17.2.1) rfl rfl (Bool.eq_false_iff.2 hc20) ?_
                  refine st_off (t := 116) (c := s17.2.1) rfl rfl (Bool.eq_false_iff.2 hc20) ?_
                  refine st_val (ex_pick0 (b := s17.2.1) rfl (Bool.eq_false_iff.2 hc20) (v := (.bool false)) rfl) ?_
                  refine st_val (ex_move (v := (.bool false)) rfl) ?_
                  refine st_off (t := 120) (c := false) rfl rfl (rfl : false = !true) ?_
                  refine st_off (t := 120) (c := false) rfl rfl (rfl : false = !true) ?_
                  refine st_val (ex_pick0 (b := false) rfl (rfl : false = false) (v := (.bool false)) rfl) ?_
                  refine st_val (ex_assign (v := (.bool false)) rfl) ?_
                  refine wl_nil ?_
                  exact then_n ⟨false, _, rfl, mk_upds' (ae rfl (ae rfl (ae rfl (ae rfl (ae rfl (ae rfl (ae rfl ae0))))))), h⟩
            · rw [if_neg hc18] at h; refine cond_0 (b := (decide (s17.2.2 < (t101.n : Int)))) rfl (decide_eq_false hc18) ?_
              refine wp_exit ?_
              refine then_e ?_
              refine then_e ?_
              refine inb_e ?_
              refine then_n ?_
              refine seq_ ?_
              refine region_ ?_
              refine st_val (ex_assign (v := (.float .f64 4517110426252607488)) rfl) ?_
              refine wl_nil ?_
              refine then_n ?_
              refine wp_jn (σ := Bool) (fun s22 l => ∃ j, l = upds j [(0, (Sl.v t0)), (3, (Ptr (⟨b3, 0, none⟩ : Addr))), (9, (.int .i64 s15)), (148, (.bool s22))]) h ?_ ?_
              · clear h; rintro s22 _ w ⟨j, rfl⟩ h
                by_cases hc26 : s22 = true
                · rw [if_pos hc26] at h; refine cond_1 (b := s22) rfl hc26 ?_
                  refine seq_ ?_
                  refine region_ ?_
                  refine st_val (ex_move (v := (.int .i64 s15)) rfl) ?_
                  refine st_val (ex_build (a' := [(0, (.int .i64 s15)), (2, (.int .i64 142))]) (v := TFault14.v (⟨s15, 0, 142⟩ : TFault14)) rfl (e_build Try.underlying101 zero101 rfl pl101 rfl _)) ?_
                  refine st_val (ex_assign (v := (Sl.v Sl.nil)) rfl) ?_
                  refine st_rnu (fun r => ex_store rfl rfl r) h ?_; clear h; intro w h
                  refine wl_nil ?_
                  refine then_n ?_
                  refine wp_ret ?_
                  refine inb_r ?_
                  refine then_r ?_
                  refine then_r ?_
                  refine inb_r ?_
                  refine then_r ?_
                  obtain ⟨r1_4, hr1_4, h⟩ := h
                  refine ret_tc rfl rfl rfl hr1_4 ⟨(Sl.nil, r1_4), rfl, h⟩
                · rw [if_neg hc26] at h; refine cond_0 (b := s22) rfl (Bool.eq_false_iff.2 hc26) ?_
                  refine wp_skip ?_
                  refine inb_n ?_
                  refine then_n ?_
                  refine region_ ?_
                  refine st_val (ex_move (v := (.int .i64 s15)) rfl) ?_
                  refine st_val (ex_add (a := s15) (b := 1) rfl rfl) ?_
                  refine st_val (ex_assign (v := (.int .i64 (IntKind.i64.wrap (s15 + 1)))) rfl) ?_
                  refine wl_nil ?_
                  exact then_n ⟨(IntKind.i64.wrap (s15 + 1)), mk_upds (ae rfl (ae rfl (ae rfl ae0))), h⟩
              · clear h; intro k22 h
                refine region_ ?_
                refine st_val (ex_move (v := (Sl.v t0)) rfl) ?_
                refine st_val (ex_move (v := (.int .i64 s15)) rfl) ?_
                refine st_rnp (fun r => ex_indexAddr rfl rfl r) h ?_; clear h; intro t129 h
                refine st_val (ex_fa fa48_0 (p := t129) rfl) ?_
                refine st_rn (fun r => ex_load rfl r) h ?_; clear h; intro t131 w h
                refine st_val (ex_eql (a := t131) (b := 2) rfl rfl) ?_
                refine st_val (ex_move (v := (.bool (decide (t131 = 2)))) rfl) ?_
                by_cases hc23 : t131 = 2
                · rw [if_pos hc23] at h
                  refine st_on (t := 133) (c := (decide (t131 = 2))) rfl rfl (decide_eq_true hc23) ?_
                  refine st_val (ex_move (v := (.bool s17.2.1)) rfl) ?_
                  refine st_on (t := 133) (c := (decide (t131 = 2))) rfl rfl (decide_eq_true hc23) ?_
                  refine st_val (ex_move (v := (.bool s17.2.1)) rfl) ?_
                  by_cases hc24 : s17.2.1 = true
                  · rw [if_pos hc24] at h
                    refine st_on (t := 135) (c := s17.2.1) rfl rfl hc24 ?_
                    refine st_val (ex_move (v := (.float .f64 s17.1)) rfl) ?_
                    refine st_on (t := 135) (c := s17.2.1) rfl rfl hc24 ?_
                    refine st_val (ex_move (v := (.float .f64 4517110426252607488)) rfl) ?_
                    refine st_on (t := 135) (c := s17.2.1) rfl rfl hc24 ?_
                    refine st_rn (fun r => ex_subF (a := 4636737291354636288) (b := 4517110426252607488) rfl rfl r) h ?_; clear h; intro t138 w h
                    refine st_on (t := 135) (c := s17.2.1) rfl rfl hc24 ?_
                    refine st_val (ex_geqF (a := s17.1) (b := t138) rfl rfl) ?_
                    refine st_on (t := 133) (c := (decide (t131 = 2))) rfl rfl (decide_eq_true hc23) ?_
                    refine st_val (ex_pick1 (b := s17.2.1) rfl hc24 (v := (.bool (fGe s17.1 t138))) rfl) ?_
                    refine st_on (t := 133) (c := (decide (t131 = 2))) rfl rfl (decide_eq_true hc23) ?_
                    refine st_val (ex_move (v := (.bool (fGe s17.1 t138))) rfl) ?_
                    by_cases hc25 : (fGe s17.1 t138) = true
                    · rw [if_pos hc25] at h
                      refine st_on (t := 141) (c := (fGe s17.1 t138)) rfl rfl hc25 ?_
                      refine st_val (ex_move (v := (.float .f64 s17.1)) rfl) ?_
                      refine st_on (t := 141) (c := (fGe s17.1 t138)) rfl rfl hc25 ?_
                      refine st_val (ex_move (v := (.float .f64 4517110426252607488)) rfl) ?_
                      refine st_on (t := 141) (c := (fGe s17.1 t138)) rfl rfl hc25 ?_
                      refine st_rn (fun r => ex_addF (a := 4636737291354636288) (b := 4517110426252607488) rfl rfl r) h ?_; clear h; intro t144 w h
                      refine st_on (t := 141) (c := (fGe s17.1 t138)) rfl rfl hc25 ?_
                      refine st_val (ex_leqF (a := s17.1) (b := t144) rfl rfl) ?_
                      refine st_on (t := 133) (c := (decide (t131 = 2))) rfl rfl (decide_eq_true hc23) ?_
                      refine st_val (ex_pick1 (b := (fGe s17.1 t138)) rfl hc25 (v := (.bool (fLe s17.1 t144))) rfl) ?_
                      refine st_on (t := 133) (c := (decide (t131 = 2))) rfl rfl (decide_eq_true hc23) ?_
                      refine st_val (ex_not (b := (fLe s17.1 t144)) rfl) ?_
                      refine st_val (ex_pick1 (b := (decide (t131 = 2))) rfl (decide_eq_true hc23) (v := (.bool (!(fLe s17.1 t144)))) rfl) ?_
                      refine wl_nil ?_
                      exact then_n ⟨(!(fLe s17.1 t144)), _, rfl, mk_upds' (ae rfl (ae rfl (ae rfl (ae rfl ae0)))), h⟩
                    · rw [if_neg hc25] at h
                      refine st_off (t := 141) (c := (fGe s17.1 t138)) rfl rfl (Bool.eq_false_iff.2 hc25) ?_
                      refine st_off (t := 141) (c := (fGe s17.1 t138)) rfl rfl (Bool.eq_false_iff.2 hc25) ?_
                      refine st_off (t := 141) (c := (fGe s17.1 t138)) rfl rfl (Bool.eq_false_iff.2 hc25) ?_
                      refine st_off (t := 141) (c := (fGe s17.1 t138)) rfl rfl (Bool.eq_false_iff.2 hc25) ?_
                      refine st_on (t := 133) (c := (decide (t131 = 2))) rfl rfl (decide_eq_true hc23) ?_
                      refine st_val (ex_pick0 (b := (fGe s17.1 t138)) rfl (Bool.eq_false_iff.2 hc25) (v := (.bool false)) rfl) ?_
                      refine st_on (t := 133) (c := (decide (t131 = 2))) rfl rfl (decide_eq_true hc23) ?_
                      refine st_val (ex_not (b := false) rfl) ?_
                      refine st_val (ex_pick1 (b := (decide (t131 = 2))) rfl (decide_eq_true hc23) (v := (.bool (!false))) rfl) ?_
                      refine wl_nil ?_
                      exact then_n ⟨(!false), _, rfl, mk_upds' (ae rfl (ae rfl (ae rfl (ae rfl ae0)))), h⟩
                  · rw [if_neg hc24] at h
                    refine st_off (t := 135) (c := s17.2.1) rfl rfl (Bool.eq_false_iff.2 hc24) ?_
                    refine st_off (t := 135) (c := s17.2.1) rfl rfl (Bool.eq_false_iff.2 hc24) ?_
                    refine st_off (t := 135) (c := s17.2.1) rfl rfl (Bool.eq_false_iff.2 hc24) ?_
                    refine st_off (t := 135) (c := s17.2.1) rfl rfl (Bool.eq_false_iff.2 hc24) ?_
                    refine st_on (t := 133) (c := (decide (t131 = 2))) rfl rfl (decide_eq_true hc23) ?_
                    refine st_val (ex_pick0 (b := s17.2.1) rfl (Bool.eq_false_iff.2 hc24) (v := (.bool false)) rfl) ?_
                    refine st_on (t := 133) (c := (decide (t131 = 2))) rfl rfl (decide_eq_true hc23) ?_
                    refine st_val (ex_move (v := (.bool false)) rfl) ?_
                    refine st_off (t := 141) (c := false) rfl rfl (rfl : false = !true) ?_
                    refine st_off (t := 141) (c := false) rfl rfl (rfl : false = !true) ?_
                    refine st_off (t := 141) (c := false) rfl rfl (rfl : false = !true) ?_
                    refine st_off (t := 141) (c := false) rfl rfl (rfl : false = !true) ?_
                    refine st_on (t := 133) (c := (decide (t131 = 2))) rfl rfl (decide_eq_true hc23) ?_
                    refine st_val (ex_pick0 (b := false) rfl (rfl : false = false) (v := (.bool false)) rfl) ?_
                    refine st_on (t := 133) (c := (decide (t131 = 2))) rfl rfl (decide_eq_true hc23) ?_
                    refine st_val (ex_not (b := false) rfl) ?_
                    refine st_val (ex_pick1 (b := (decide (t131 = 2))) rfl (decide_eq_true hc23) (v := (.bool (!false))) rfl) ?_
                    refine wl_nil ?_
                    exact then_n ⟨(!false), _, rfl, mk_upds' (ae rfl (ae rfl (ae rfl (ae rfl ae0)))), h⟩
                · rw [if_neg hc23] at h
                  refine st_off (t := 133) (c := (decide (t131 = 2))) rfl rfl (decide_eq_false hc23) ?_
                  refine st_off (t := 133) (c := (decide (t131 = 2))) rfl rfl (decide_eq_false hc23) ?_
                  refine st_offu (t := 135) rfl rfl ?_
                  refine st_offu (t := 135) rfl rfl ?_
                  refine st_offu (t := 135) rfl rfl ?_
                  refine st_offu (t := 135) rfl rfl ?_
                  refine st_off (t := 133) (c := (decide (t131 = 2))) rfl rfl (decide_eq_false hc23) ?_
                  refine st_off (t := 133) (c := (decide (t131 = 2))) rfl rfl (decide_eq_false hc23) ?_
                  refine st_offu (t := 141) rfl rfl ?_
                  refine st_offu (t := 141) rfl rfl ?_
                  refine st_offu (t := 141) rfl rfl ?_
                  refine st_offu (t := 141) rfl rfl ?_
                  refine st_off (t := 133) (c := (decide (t131 = 2))) rfl rfl (decide_eq_false hc23) ?_
                  refine st_off (t := 133) (c := (decide (t131 = 2))) rfl rfl (decide_eq_false hc23) ?_
                  refine st_val (ex_pick0 (b := (decide (t131 = 2))) rfl (decide_eq_false hc23) (v := (.bool false)) rfl) ?_
                  refine wl_nil ?_
                  exact then_n ⟨false, _, rfl, mk_upds' (ae rfl (ae rfl (ae rfl (ae rfl ae0)))), h⟩
          · rw [if_neg hc16] at h; refine cond_0 (b := (decide (s15 < (t0.n : Int)))) rfl (decide_eq_false hc16) ?_
            refine wp_exit ?_
            refine then_e ?_
            refine then_e ?_
            refine inb_e ?_
            refine then_n ?_
            refine seq_ ?_
            refine region_ ?_
            refine st_val (ex_move (v := (Sl.v t0)) rfl) ?_
            refine st_cal en102 rfl h ?_; clear h; intro t152 w h
            refine st_val (ex_assign (v := (Sl.v t152)) rfl) ?_
            refine wl_nil ?_
            refine then_n ?_
            refine seq_ ?_
            refine seq_ ?_
            refine region_ ?_
            refine st_val (ex_assign (v := (.int .i64 0)) rfl) ?_
            refine wl_nil ?_
            refine then_n ?_
            refine wp_block ?_
            refine wp_lp (σ := Int) (fun s27 a => ∃ j, a = F 243 (upds j [(0, (Sl.v t0)), (3, (Ptr (⟨b3, 0, none⟩ : Addr))), (15, (Sl.v t152)), (16, (.int .i64 s27))])) h (mk_upds (ae rfl (ae rfl (ae rfl (ae rfl ae0))))) ?_
            clear h; rintro s27 _ w n27 ⟨j, rfl⟩ h
            refine seq_ ?_
            refine seq_ ?_
            refine region_ ?_
            refine st_val (ex_move (v := (.int .i64 s27)) rfl) ?_
            refine st_val (ex_move (v := (Sl.v t0)) rfl) ?_
            refine st_val (ex_len (s := t0) Try.underlying22 rfl) ?_
            refine st_val (ex_lss (a := s27) (b := (t0.n : Int)) rfl rfl) ?_
            refine wl_nil ?_
            refine then_n ?_
            by_cases hc28 : s27 < (t0.n : Int)
            · rw [if_pos hc28] at h; refine cond_1 (b := (decide (s27 < (t0.n : Int)))) rfl (decide_eq_true hc28) ?_
              refine wp_skip ?_
              refine then_n ?_
              refine seq_ ?_
              refine wp_block ?_
              refine wp_jn (σ := Bool) (fun s29 l => ∃ j, l = upds j [(0, (Sl.v t0)), (3, (Ptr (⟨b3, 0, none⟩ : Addr))), (15, (Sl.v t152)), (16, (.int .i64 s27)), (171, (.bool s29))]) h ?_ ?_
              · clear h; rintro s29 _ w ⟨j, rfl⟩ h
                by_cases hc31 : s29 = true
                · rw [if_pos hc31] at h; refine cond_1 (b := s29) rfl hc31 ?_
                  refine seq_ ?_
                  refine region_ ?_
                  refine st_val (ex_move (v := (.int .i64 s27)) rfl) ?_
                  refine st_val (ex_build (a' := [(0, (.int .i64 s27)), (2, (.int .i64 143))]) (v := TFault14.v (⟨s27, 0, 143⟩ : TFault14)) rfl (e_build Try.underlying101 zero101 rfl pl101 rfl _)) ?_
                  refine st_val (ex_assign (v := (Sl.v Sl.nil)) rfl) ?_
                  refine st_rnu (fun r => ex_store rfl rfl r) h ?_; clear h; intro w h
                  refine wl_nil ?_
                  refine then_n ?_
                  refine wp_ret ?_
                  refine inb_r ?_
                  refine then_r ?_
                  refine then_r ?_
                  refine inb_r ?_
                  refine then_r ?_
                  obtain ⟨r1_5, hr1_5, h⟩ := h
                  refine ret_tc rfl rfl rfl hr1_5 ⟨(Sl.nil, r1_5), rfl, h⟩
                · rw [if_neg hc31] at h; refine cond_0 (b := s29) rfl (Bool.eq_false_iff.2 hc31) ?_
                  refine wp_skip ?_
                  refine inb_n ?_
                  refine then_n ?_
                  refine region_ ?_
                  refine st_val (ex_move (v := (.int .i64 s27)) rfl) ?_
                  refine st_val (ex_add (a := s27) (b := 1) rfl rfl) ?_
                  refine st_val (ex_assign (v := (.int .i64 (IntKind.i64.wrap (s27 + 1)))) rfl) ?_
                  refine wl_nil ?_
                  exact then_n ⟨(IntKind.i64.wrap (s27 + 1)), mk_upds (ae rfl (ae rfl (ae rfl (ae rfl ae0)))), h⟩
              · clear h; intro k29 h
                refine region_ ?_
                refine st_val (ex_move (v := (Sl.v t0)) rfl) ?_
                refine st_val (ex_move (v := (.int .i64 s27)) rfl) ?_
                refine st_rnp (fun r => ex_indexAddr rfl rfl r) h ?_; clear h; intro t161 h
                refine st_val (ex_fa fa48_0 (p := t161) rfl) ?_
                refine st_rn (fun r => ex_load rfl r) h ?_; clear h; intro t163 w h
                refine st_val (ex_eql (a := t163) (b := 2) rfl rfl) ?_
                refine st_val (ex_move (v := (.bool (decide (t163 = 2)))) rfl) ?_
                by_cases hc30 : t163 = 2
                · rw [if_pos hc30] at h
                  refine st_on (t := 165) (c := (decide (t163 = 2))) rfl rfl (decide_eq_true hc30) ?_
                  refine st_val (ex_move (v := (Sl.v t152)) rfl) ?_
                  refine st_on (t := 165) (c := (decide (t163 = 2))) rfl rfl (decide_eq_true hc30) ?_
                  refine st_val (ex_move (v := (.int .i64 s27)) rfl) ?_
                  refine st_on (t := 165) (c := (decide (t163 = 2))) rfl rfl (decide_eq_true hc30) ?_
                  refine st_rnp (fun r => ex_indexAddr rfl rfl r) h ?_; clear h; intro t168 h
                  refine st_on (t := 165) (c := (decide (t163 = 2))) rfl rfl (decide_eq_true hc30) ?_
                  refine st_rn (fun r => ex_load rfl r) h ?_; clear h; intro t169 w h
                  refine st_on (t := 165) (c := (decide (t163 = 2))) rfl rfl (decide_eq_true hc30) ?_
                  refine st_val (ex_eql (a := t169) (b := 0) rfl rfl) ?_
                  refine st_val (ex_pick1 (b := (decide (t163 = 2))) rfl (decide_eq_true hc30) (v := (.bool (decide (t169 = 0)))) rfl) ?_
                  refine wl_nil ?_
                  exact then_n ⟨(decide (t169 = 0)), _, rfl, mk_upds' (ae rfl (ae rfl (ae rfl (ae rfl (ae rfl ae0))))), h⟩
                · rw [if_neg hc30] at h
                  refine st_off (t := 165) (c := (decide (t163 = 2))) rfl rfl (decide_eq_false hc30) ?_
                  refine st_off (t := 165) (c := (decide (t163 = 2))) rfl rfl (decide_eq_false hc30) ?_
                  refine st_off (t := 165) (c := (decide (t163 = 2))) rfl rfl (decide_eq_false hc30) ?_
                  refine st_off (t := 165) (c := (decide (t163 = 2))) rfl rfl (decide_eq_false hc30) ?_
                  refine st_off (t := 165) (c := (decide (t163 = 2))) rfl rfl (decide_eq_false hc30) ?_
                  refine st_val (ex_pick0 (b := (decide (t163 = 2))) rfl (decide_eq_false hc30) (v := (.bool false)) rfl) ?_
                  refine wl_nil ?_
                  exact then_n ⟨false, _, rfl, mk_upds' (ae rfl (ae rfl (ae rfl (ae rfl (ae rfl ae0))))), h⟩
            · rw [if_neg hc28] at h; refine cond_0 (b := (decide (s27 < (t0.n : Int)))) rfl (decide_eq_false hc28) ?_
              refine wp_exit ?_
              refine then_e ?_
              refine then_e ?_
              refine inb_e ?_
              refine then_n ?_
              refine seq_ ?_
              refine region_ ?_
              refine st_val (ex_assign (v := (Sl.v Sl.nil)) rfl) ?_
              refine wl_nil ?_
              refine then_n ?_
              refine seq_ ?_
              refine seq_ ?_
              refine region_ ?_
              refine st_val (ex_assign (v := (.int .i64 0)) rfl) ?_
              refine wl_nil ?_
              refine then_n ?_
              refine wp_block ?_
              refine wp_lp (σ := Sl × Int) (fun s32 a => ∃ j, a = F 243 (upds j [(0, (Sl.v t0)), (3, (Ptr (⟨b3, 0, none⟩ : Addr))), (17, (Sl.v s32.1)), (18, (.int .i64 s32.2))])) h (mk_upds (ae rfl (ae rfl (ae rfl (ae rfl ae0))))) ?_
              clear h; rintro s32 _ w n32 ⟨j, rfl⟩ h
              refine seq_ ?_
              refine seq_ ?_
              refine region_ ?_
              refine st_val (ex_move (v := (.int .i64 s32.2)) rfl) ?_
              refine st_val (ex_move (v := (Sl.v t0)) rfl) ?_
              refine st_val (ex_len (s := t0) Try.underlying22 rfl) ?_
              refine st_val (ex_lss (a := s32.2) (b := (t0.n : Int)) rfl rfl) ?_
              refine wl_nil ?_
              refine then_n ?_
              by_cases hc33 : s32.2 < (t0.n : Int)
              · rw [if_pos hc33] at h; refine cond_1 (b := (decide (s32.2 < (t0.n : Int)))) rfl (decide_eq_true hc33) ?_
                refine wp_skip ?_
                refine then_n ?_
                refine wp_jn (σ := Sl) (fun s34 l => ∃ j, l = upds j [(0, (Sl.v t0)), (3, (Ptr (⟨b3, 0, none⟩ : Addr))), (17, (Sl.v s34)), (18, (.int .i64 s32.2))]) h ?_ ?_
                · clear h; rintro s34 _ w ⟨j, rfl⟩ h
                  refine region_ ?_
                  refine st_val (ex_move (v := (.int .i64 s32.2)) rfl) ?_
                  refine st_val (ex_add (a := s32.2) (b := 1) rfl rfl) ?_
                  refine st_val (ex_assign (v := (.int .i64 (IntKind.i64.wrap (s32.2 + 1)))) rfl) ?_
                  refine wl_nil ?_
                  exact then_n ⟨(s34, (IntKind.i64.wrap (s32.2 + 1))), mk_upds (ae rfl (ae rfl (ae rfl (ae rfl ae0)))), h⟩
                · clear h; intro k34 h
                  refine wp_block ?_
                  refine seq_ ?_
                  refine seq_ ?_
                  refine region_ ?_
                  refine st_val (ex_move (v := (Sl.v t0)) rfl) ?_
                  refine st_val (ex_move (v := (.int .i64 s32.2)) rfl) ?_
                  refine st_rnp (fun r => ex_indexAddr rfl rfl r) h ?_; clear h; intro t182 h
                  refine st_val (ex_fa fa48_0 (p := t182) rfl) ?_
                  refine st_rn (fun r => ex_load rfl r) h ?_; clear h; intro t184 w h
                  refine st_val (ex_lss (a := t184) (b := 3) rfl rfl) ?_
                  refine wl_nil ?_
                  refine then_n ?_
                  by_cases hc35 : t184 < 3
                  · rw [if_pos hc35] at h; refine cond_1 (b := (decide (t184 < 3))) rfl (decide_eq_true hc35) ?_
                    refine wp_exit ?_
                    refine then_e ?_
                    refine inb_e ?_
                    exact then_n ⟨s32.1, _, rfl, mk_upds' (ae rfl (ae rfl (ae rfl (ae rfl ae0)))), h⟩
                  · rw [if_neg hc35] at h; refine cond_0 (b := (decide (t184 < 3))) rfl (decide_eq_false hc35) ?_
                    refine wp_skip ?_
                    refine then_n ?_
                    refine seq_ ?_
                    refine region_ ?_
                    refine st_val (ex_assign (v := (.int .i64 0)) rfl) ?_
                    refine wl_nil ?_
                    refine then_n ?_
                    refine wp_block ?_
                    refine wp_lp (σ := Sl × Int) (fun s36 a => ∃ j, a = F 243 (upds j [(0, (Sl.v t0)), (3, (Ptr (⟨b3, 0, none⟩ : Addr))), (17, (Sl.v s36.1)), (18, (.int .i64 s32.2)), (19, (.int .i64 s36.2))])) h (mk_upds (ae rfl (ae rfl (ae rfl (ae rfl (ae rfl ae0)))))) ?_
                    clear h; rintro s36 _ w n36 ⟨j, rfl⟩ h
                    refine seq_ ?_
                    refine seq_ ?_
                    refine region_ ?_
                    refine st_val (ex_move (v := (.int .i64 s36.2)) rfl) ?_
                    refine st_val (ex_move (v := (Sl.v t0)) rfl) ?_
                    refine st_val (ex_move (v := (.int .i64 s32.2)) rfl) ?_
                    refine st_rnp (fun r => ex_indexAddr rfl rfl r) h ?_; clear h; intro t189 h
                    refine st_val (ex_fa fa48_5 (p := t189) rfl) ?_
                    refine st_rn (fun r => ex_load rfl r) h ?_; clear h; intro t191 w h
                    refine st_val (ex_len (s := t191) Try.underlying46 rfl) ?_
                    refine st_val (ex_lss (a := s36.2) (b := (t191.n : Int)) rfl rfl) ?_
                    refine wl_nil ?_
                    refine then_n ?_
                    by_cases hc37 : s36.2 < (t191.n : Int)
                    · rw [if_pos hc37] at h; refine cond_1 (b := (decide (s36.2 < (t191.n : Int)))) rfl (decide_eq_true hc37) ?_
                      refine wp_skip ?_
                      refine then_n ?_
                      refine wp_jn (σ := Sl) (fun s38 l => ∃ j, l = upds j [(0, (Sl.v t0)), (3, (Ptr (⟨b3, 0, none⟩ : Addr))), (17, (Sl.v s38)), (18, (.int .i64 s32.2)), (19, (.int .i64 s36.2))]) h ?_ ?_
                      · clear h; rintro s38 _ w ⟨j, rfl⟩ h
                        refine region_ ?_
                        refine st_val (ex_move (v := (.int .i64 s36.2)) rfl) ?_
                        refine st_val (ex_add (a := s36.2) (b := 1) rfl rfl) ?_
                        refine st_val (ex_assign (v := (.int .i64 (IntKind.i64.wrap (s36.2 + 1)))) rfl) ?_
                        refine wl_nil ?_
                        exact then_n ⟨(s38, (IntKind.i64.wrap (s36.2 + 1))), mk_upds (ae rfl (ae rfl (ae rfl (ae rfl (ae rfl ae0))))), h⟩
                      · clear h; intro k38 h
                        refine wp_block ?_
                        refine seq_ ?_
                        refine region_ ?_
                        refine st_val (ex_move (v := (Sl.v t0)) rfl) ?_
                        refine st_val (ex_move (v := (.int .i64 s32.2)) rfl) ?_
                        refine st_rnp (fun r => ex_indexAddr rfl rfl r) h ?_; clear h; intro t198 h
                        refine st_val (ex_fa fa48_5 (p := t198) rfl) ?_
                        refine st_rn (fun r => ex_load rfl r) h ?_; clear h; intro t200 w h
                        refine st_val (ex_move (v := (.int .i64 s36.2)) rfl) ?_
                        refine st_rnp (fun r => ex_indexAddr rfl rfl r) h ?_; clear h; intro t202 h
                        refine st_rn (fun r => ex_load rfl r) h ?_; clear h; intro t203 w h
                        refine st_new (f := (fun b => Ptr ⟨b, 0, none⟩)) (ex_allocN zero91 rfl) h ?_; clear h; intro b20 w h
                        refine st_rnu (fun r => ex_store rfl rfl r) h ?_; clear h; intro w h
                        refine wl_nil ?_
                        refine then_n ?_
                        refine seq_ ?_
                        refine region_ ?_
                        refine st_val (ex_assign (v := (.int .i64 0)) rfl) ?_
                        refine wl_nil ?_
                        refine then_n ?_
                        refine wp_block ?_
                        refine wp_lp (σ := Sl × Int) (fun s39 a => ∃ j, a = F 243 (upds j [(0, (Sl.v t0)), (3, (Ptr (⟨b3, 0, none⟩ : Addr))), (17, (Sl.v s39.1)), (18, (.int .i64 s32.2)), (19, (.int .i64 s36.2)), (20, (Ptr (⟨b20, 0, none⟩ : Addr))), (21, (.int .i64 s39.2))])) h (mk_upds (ae rfl (ae rfl (ae rfl (ae rfl (ae rfl (ae rfl (ae rfl ae0)))))))) ?_
                        clear h; rintro s39 _ w n39 ⟨j, rfl⟩ h
                        refine seq_ ?_
                        refine seq_ ?_
                        refine region_ ?_
                        refine st_val (ex_move (v := (.int .i64 s39.2)) rfl) ?_
                        refine st_val (ex_move (v := (.int .i64 s36.2)) rfl) ?_
                        refine st_val (ex_lss (a := s39.2) (b := s36.2) rfl rfl) ?_
                        refine wl_nil ?_
                        refine then_n ?_
                        by_cases hc40 : s39.2 < s36.2
                        · rw [if_pos hc40] at h; refine cond_1 (b := (decide (s39.2 < s36.2))) rfl (decide_eq_true hc40) ?_
                          refine wp_skip ?_
                          refine then_n ?_
                          refine seq_ ?_
                          refine wp_block ?_
                          refine seq_ ?_
                          refine region_ ?_
                          refine st_val (ex_move (v := (Sl.v t0)) rfl) ?_
                          refine st_val (ex_move (v := (.int .i64 s32.2)) rfl) ?_
                          refine st_rnp (fun r => ex_indexAddr rfl rfl r) h ?_; clear h; intro t211 h
                          refine st_val (ex_fa fa48_5 (p := t211) rfl) ?_
                          refine st_rn (fun r => ex_load rfl r) h ?_; clear h; intro t213 w h
                          refine st_val (ex_move (v := (.int .i64 s39.2)) rfl) ?_
                          refine st_rnp (fun r => ex_indexAddr rfl rfl r) h ?_; clear h; intro t215 h
                          refine st_rn (fun r => ex_load rfl r) h ?_; clear h; intro t216 w h
                          refine st_new (f := (fun b => Ptr ⟨b, 0, none⟩)) (ex_allocN zero91 rfl) h ?_; clear h; intro b22 w h
                          refine st_rnu (fun r => ex_store rfl rfl r) h ?_; clear h; intro w h
                          refine wl_nil ?_
                          refine then_n ?_
                          refine wp_jn (σ := Bool) (fun s41 l => ∃ j, l = upds j [(0, (Sl.v t0)), (3, (Ptr (⟨b3, 0, none⟩ : Addr))), (17, (Sl.v s39.1)), (18, (.int .i64 s32.2)), (19, (.int .i64 s36.2)), (20, (Ptr (⟨b20, 0, none⟩ : Addr))), (21, (.int .i64 s39.2)), (233, (.bool s41))]) h ?_ ?_
                          · clear h; rintro s41 _ w ⟨j, rfl⟩ h
                            by_cases hc44 : s41 = true
                            · rw [if_pos hc44] at h; refine cond_1 (b := s41) rfl hc44 ?_
                              refine seq_ ?_
                              refine region_ ?_
                              refine st_val (ex_move (v := (Sl.v s39.1)) rfl) ?_
                              refine st_val (ex_move (v := (.int .i64 s32.2)) rfl) ?_
                              refine st_val (ex_move (v := (.int .i64 s36.2)) rfl) ?_
                              refine st_val (ex_move (v := (.int .i64 s39.2)) rfl) ?_
                              refine st_val (ex_build (a' := [(0, (.int .i64 s32.2)), (1, (.int .i64 s36.2)), (2, (.int .i64 s39.2))]) (v := TWarning14.v (⟨s32.2, s36.2, s39.2⟩ : TWarning14)) rfl (e_build Try.underlying160 zero160 rfl pl160 rfl _)) ?_
                              refine st_new (f := (fun b => Sl.v ⟨some ⟨b, 0, none⟩, 1, 1⟩)) (ex_buildSlice (a' := [(0, (TWarning14.v (⟨s32.2, s36.2, s39.2⟩ : TWarning14)))]) rfl (e_buildSlice (cs := ((TWarning14.cells (⟨s32.2, s36.2, s39.2⟩ : TWarning14)))) Try.underlying99 info160 iz160 (by decide +kernel) (by decide +kernel) (by kernel_rfl) _)) h ?_; clear h; intro b239 w h
                              refine st_rn (fun r => ex_builtin rfl (fun _ => rfl) r) h ?_; clear h; intro t240 w h
                              refine st_val (ex_assign (v := (Sl.v t240)) rfl) ?_
                              refine wl_nil ?_
                              refine then_n ?_
                              refine wp_exit ?_
                              refine inb_o rfl ?_
                              refine then_e ?_
                              refine then_e ?_
                              refine inb_e ?_
                              refine inb_n ?_
                              exact then_n ⟨t240, _, rfl, mk_upds' (ae rfl (ae rfl (ae rfl (ae rfl (ae rfl ae0))))), h⟩
                            · rw [if_neg hc44] at h; refine cond_0 (b := s41) rfl (Bool.eq_false_iff.2 hc44) ?_
                              refine wp_skip ?_
                              refine inb_n ?_
                              refine then_n ?_
                              refine region_ ?_
                              refine st_val (ex_move (v := (.int .i64 s39.2)) rfl) ?_
                              refine st_val (ex_add (a := s39.2) (b := 1) rfl rfl) ?_
                              refine st_val (ex_assign (v := (.int .i64 (IntKind.i64.wrap (s39.2 + 1)))) rfl) ?_
                              refine wl_nil ?_
                              exact then_n ⟨(s39.1, (IntKind.i64.wrap (s39.2 + 1))), mk_upds (ae rfl (ae rfl (ae rfl (ae rfl (ae rfl (ae rfl (ae rfl ae0))))))), h⟩
                          · clear h; intro k41 h
                            refine region_ ?_
                            refine st_val (ex_fa fa91_1 (p := (⟨b22, 0, none⟩ : Addr)) rfl) ?_
                            refine st_rn (fun r => ex_load rfl r) h ?_; clear h; intro t218 w h
                            refine st_val (ex_eqlS (a := t218) (b := (⟨#[42]⟩ : ByteArray)) rfl rfl) ?_
                            refine st_val (ex_move (v := (.bool (decide (t218 = (⟨#[42]⟩ : ByteArray))))) rfl) ?_
                            by_cases hc42 : t218 = (⟨#[42]⟩ : ByteArray)
                            · rw [if_pos hc42] at h
                              refine st_off (t := 220) (c := (decide (t218 = (⟨#[42]⟩ : ByteArray)))) rfl rfl (decide_eq_true hc42) ?_
                              refine st_off (t := 220) (c := (decide (t218 = (⟨#[42]⟩ : ByteArray)))) rfl rfl (decide_eq_true hc42) ?_
                              refine st_off (t := 220) (c := (decide (t218 = (⟨#[42]⟩ : ByteArray)))) rfl rfl (decide_eq_true hc42) ?_
                              refine st_off (t := 220) (c := (decide (t218 = (⟨#[42]⟩ : ByteArray)))) rfl rfl (decide_eq_true hc42) ?_
                              refine st_off (t := 220) (c := (decide (t218 = (⟨#[42]⟩ : ByteArray)))) rfl rfl (decide_eq_true hc42) ?_
                              refine st_val (ex_pick1 (b := (decide (t218 = (⟨#[42]⟩ : ByteArray)))) rfl (decide_eq_true hc42) (v := (.bool true)) rfl) ?_
                              refine st_val (ex_move (v := (.bool true)) rfl) ?_
                              refine st_on (t := 227) (c := true) rfl rfl (rfl : true = true) ?_
                              refine st_val (ex_fa fa91_0 (p := (⟨b22, 0, none⟩ : Addr)) rfl) ?_
                              refine st_on (t := 227) (c := true) rfl rfl (rfl : true = true) ?_
                              refine st_rn (fun r => ex_load rfl r) h ?_; clear h; intro t229 w h
                              refine st_on (t := 227) (c := true) rfl rfl (rfl : true = true) ?_
                              refine st_val (ex_fa fa91_0 (p := (⟨b20, 0, none⟩ : Addr)) rfl) ?_
                              refine st_on (t := 227) (c := true) rfl rfl (rfl : true = true) ?_
                              refine st_rn (fun r => ex_load rfl r) h ?_; clear h; intro t231 w h
                              refine st_on (t := 227) (c := true) rfl rfl (rfl : true = true) ?_
                              refine st_cal en103 rfl h ?_; clear h; intro t232 w h
                              refine st_val (ex_pick1 (b := true) rfl (rfl : true = true) (v := (.bool t232)) rfl) ?_
                              refine wl_nil ?_
                              exact then_n ⟨t232, _, rfl, mk_upds' (ae rfl (ae rfl (ae rfl (ae rfl (ae rfl (ae rfl (ae rfl (ae rfl ae0)))))))), h⟩
                            · rw [if_neg hc42] at h
                              refine st_on (t := 220) (c := (decide (t218 = (⟨#[42]⟩ : ByteArray)))) rfl rfl (decide_eq_false hc42) ?_
                              refine st_val (ex_fa fa91_1 (p := (⟨b22, 0, none⟩ : Addr)) rfl) ?_
                              refine st_on (t := 220) (c := (decide (t218 = (⟨#[42]⟩ : ByteArray)))) rfl rfl (decide_eq_false hc42) ?_
                              refine st_rn (fun r => ex_load rfl r) h ?_; clear h; intro t222 w h
                              refine st_on (t := 220) (c := (decide (t218 = (⟨#[42]⟩ : ByteArray)))) rfl rfl (decide_eq_false hc42) ?_
                              refine st_val (ex_fa fa91_1 (p := (⟨b20, 0, none⟩ : Addr)) rfl) ?_
                              refine st_on (t := 220) (c := (decide (t218 = (⟨#[42]⟩ : ByteArray)))) rfl rfl (decide_eq_false hc42) ?_
                              refine st_rn (fun r => ex_load rfl r) h ?_; clear h; intro t224 w h
                              refine st_on (t := 220) (c := (decide (t218 = (⟨#[42]⟩ : ByteArray)))) rfl rfl (decide_eq_false hc42) ?_
                              refine st_val (ex_eqlS (a := t222) (b := t224) rfl rfl) ?_
                              refine st_val (ex_pick0 (b := (decide (t218 = (⟨#[42]⟩ : ByteArray)))) rfl (decide_eq_false hc42) (v := (.bool (decide (t222 = t224)))) rfl) ?_
                              refine st_val (ex_move (v := (.bool (decide (t222 = t224)))) rfl) ?_
                              by_cases hc43 : t222 = t224
                              · rw [if_pos hc43] at h
                                refine st_on (t := 227) (c := (decide (t222 = t224))) rfl rfl (decide_eq_true hc43) ?_
                                refine st_val (ex_fa fa91_0 (p := (⟨b22, 0, none⟩ : Addr)) rfl) ?_
                                refine st_on (t := 227) (c := (decide (t222 = t224))) rfl rfl (decide_eq_true hc43) ?_
                                refine st_rn (fun r => ex_load rfl r) h ?_; clear h; intro t229_1 w h
                                refine st_on (t := 227) (c := (decide (t222 = t224))) rfl rfl (decide_eq_true hc43) ?_
                                refine st_val (ex_fa fa91_0 (p := (⟨b20, 0, none⟩ : Addr)) rfl) ?_
                                refine st_on (t := 227) (c := (decide (t222 = t224))) rfl rfl (decide_eq_true hc43) ?_
                                refine st_rn (fun r => ex_load rfl r) h ?_; clear h; intro t231_1 w h
                                refine st_on (t := 227) (c := (decide (t222 = t224))) rfl rfl (decide_eq_true hc43) ?_
                                refine st_cal en103 rfl h ?_; clear h; intro t232_1 w h
                                refine st_val (ex_pick1 (b := (decide (t222 = t224))) rfl (decide_eq_true hc43) (v := (.bool t232_1)) rfl) ?_
                                refine wl_nil ?_
                                exact then_n ⟨t232_1, _, rfl, mk_upds' (ae rfl (ae rfl (ae rfl (ae rfl (ae rfl (ae rfl (ae rfl (ae rfl ae0)))))))), h⟩
                              · rw [if_neg hc43] at h
                                refine st_off (t := 227) (c := (decide (t222 = t224))) rfl rfl (decide_eq_false hc43) ?_
                                refine st_off (t := 227) (c := (decide (t222 = t224))) rfl rfl (decide_eq_false hc43) ?_
                                refine st_off (t := 227) (c := (decide (t222 = t224))) rfl rfl (decide_eq_false hc43) ?_
                                refine st_off (t := 227) (c := (decide (t222 = t224))) rfl rfl (decide_eq_false hc43) ?_
                                refine st_off (t := 227) (c := (decide (t222 = t224))) rfl rfl (decide_eq_false hc43) ?_
                                refine st_val (ex_pick0 (b := (decide (t222 = t224))) rfl (decide_eq_false hc43) (v := (.bool false)) rfl) ?_
                                refine wl_nil ?_
                                exact then_n ⟨false, _, rfl, mk_upds' (ae rfl (ae rfl (ae rfl (ae rfl (ae rfl (ae rfl (ae rfl (ae rfl ae0)))))))), h⟩
                        · rw [if_neg hc40] at h; refine cond_0 (b := (decide (s39.2 < s36.2))) rfl (decide_eq_false hc40) ?_
                          refine wp_exit ?_
                          refine then_e ?_
                          refine then_e ?_
                          refine inb_e ?_
                          refine inb_n ?_
                          exact then_n ⟨s39.1, _, rfl, mk_upds' (ae rfl (ae rfl (ae rfl (ae rfl (ae rfl ae0))))), h⟩
                    · rw [if_neg hc37] at h; refine cond_0 (b := (decide (s36.2 < (t191.n : Int)))) rfl (decide_eq_false hc37) ?_
                      refine wp_exit ?_
                      refine then_e ?_
                      refine then_e ?_
                      refine inb_e ?_
                      refine inb_n ?_
                      exact then_n ⟨s36.1, _, rfl, mk_upds' (ae rfl (ae rfl (ae rfl (ae rfl ae0)))), h⟩
              · rw [if_neg hc33] at h; refine cond_0 (b := (decide (s32.2 < (t0.n : Int)))) rfl (decide_eq_false hc33) ?_
                refine wp_exit ?_
                refine then_e ?_
                refine then_e ?_
                refine inb_e ?_
                refine then_n ?_
                refine seq_ ?_
                refine region_ ?_
                refine st_val (ex_move (v := (Sl.v s32.1)) rfl) ?_
                refine st_val (ex_build (a' := []) (v := TFault14.v (⟨0, 0, 0⟩ : TFault14)) rfl (e_build Try.underlying101 zero101 rfl pl101 rfl _)) ?_
                refine st_val (ex_assign (v := (Sl.v s32.1)) rfl) ?_
                refine st_rnu (fun r => ex_store rfl rfl r) h ?_; clear h; intro w h
                refine wl_nil ?_
                refine then_n ?_
                refine wp_ret ?_
                obtain ⟨r1_6, hr1_6, h⟩ := h
                refine ret_tc rfl rfl rfl hr1_6 ⟨(s32.1, r1_6), rfl, h⟩

/-- turnpike/turnpikeref15.All; slots 0:conf, 1:conf, 3:k, 4:round, 5:i, 6:l, 7:ok -/
def f59 (t0 : Sl) (R : ((Option Addr)) → World → Prop) (w : World) : Prop :=
  New 109 (TKnown15.cells (⟨Sl.nil, Sl.nil⟩ : TKnown15)) w fun b9 w =>
  Lp (σ := Int) (fun s1 w n1 =>
    if s1 < (t0.n : Int) then
      Lp (σ := Int) (fun s3 w n3 =>
        if s3 < (t0.n : Int) then
          Jn (σ := Unit) (fun k5 =>
            Jn (σ := Bool) (fun k6 =>
              RnP Try.prog Ptr (Instr.indexAt 22 (Sl.v t0) (.int .i64 s3)) fun t24 =>
              Rn Try.prog (Value.int .i64) (Instr.loadAt 3 (Ptr (t24.add 0))) w fun t26 w =>
              if t26 ≠ 2 then
                k6 true w
              else
                RnP Try.prog Ptr (Instr.indexAt 22 (Sl.v t0) (.int .i64 s3)) fun t32 =>
                Rn Try.prog Value.string (Instr.loadAt 9 (Ptr (t32.add 1))) w fun t34 w =>
                Cal Try.prog (Value.int .i64) 60 #[(Ptr (⟨b9, 0, none⟩ : Addr)), (.string t34)] w fun t35 w =>
                k6 (decide (0 ≤ t35)) w
            ) fun s6 w =>
              if s6 = true then
                k5 () w
              else
                RnP Try.prog Ptr (Instr.indexAt 22 (Sl.v t0) (.int .i64 s3)) fun t42 =>
                Rn Try.prog TResource.v (Instr.loadAt 48 (Ptr t42)) w fun t43 w =>
                Cal Try.prog (fun x : Sl × Bool => Value.tuple #[(Sl.v x.1), (.bool x.2)]) 104 #[(Ptr (⟨b9, 0, none⟩ : Addr)), (TResource.v t43)] w fun t44 w =>
                if t44.2 = true then
                  Dr w fun w10 w =>
                    RnL Try.prog Sl.v (Instr.loadAt 44 (Ptr ((⟨b9, 0, none⟩ : Addr).add 0))) w10 fun t52 =>
                    RnP Try.prog Ptr (Instr.indexAt 22 (Sl.v t0) (.int .i64 s3)) fun t55 =>
                    RnL Try.prog Value.string (Instr.loadAt 9 (Ptr (t55.add 1))) w10 fun t57 =>
                    New 9 ([(.string t57)]) w fun b58 w =>
                    Rn Try.prog Sl.v (Builtin.append_ #[44, 44] 44 #[(Sl.v t52), (Sl.v (⟨some ⟨b58, 0, none⟩, 1, 1⟩ : Sl))]) w fun t59 w =>
                    RnU Try.prog (Instr.storeAt 44 (Ptr ((⟨b9, 0, none⟩ : Addr).add 0)) (Sl.v t59)) w fun w =>
                    Rn Try.prog Sl.v (Instr.loadAt 107 (Ptr ((⟨b9, 0, none⟩ : Addr).add 1))) w fun t66 w =>
                    New 23 ([(Sl.v t44.1)]) w fun b68 w =>
                    Rn Try.prog Sl.v (Builtin.append_ #[107, 107] 107 #[(Sl.v t66), (Sl.v (⟨some ⟨b68, 0, none⟩, 1, 1⟩ : Sl))]) w fun t69 w =>
                    RnU Try.prog (Instr.storeAt 107 (Ptr ((⟨b9, 0, none⟩ : Addr).add 1)) (Sl.v t69)) w fun w =>
                    k5 () w
                else
                  k5 () w
          ) fun s5 w =>
            n3 (IntKind.i64.wrap (s3 + 1)) w
        else
          n1 (IntKind.i64.wrap (s1 + 1)) w
      ) 0 w
    else
      R (some (⟨b9, 0, none⟩ : Addr)) w
  ) 0 w
theorem c59 {t0 : Sl} {R : ((Option Addr)) → World → Prop} {w : World} (h : f59 t0 R w) :
    Cal Try.prog Value.pointer 59 #[(Sl.v t0)] w R := by
  unfold f59 at h
  refine calls_ Try.func59 Try.ntmps59 rfl rfl ?_
  refine seq_ ?_
  refine region_ ?_
  refine st_val (ex_assign (v := (.pointer none)) rfl) ?_
  refine wl_nil ?_
  refine then_n ?_
  refine seq_ ?_
  refine region_ ?_
  refine st_val (ex_build (a' := []) (v := TKnown15.v (⟨Sl.nil, Sl.nil⟩ : TKnown15)) rfl (e_build Try.underlying109 zero109 rfl pl109 rfl _)) ?_
  refine st_new (f := (fun b => Ptr ⟨b, 0, none⟩)) (ex_boxN rfl rfl) h ?_; clear h; intro b9 w h
  refine st_val (ex_assign (v := (Ptr (⟨b9, 0, none⟩ : Addr))) rfl) ?_
  refine wl_nil ?_
  refine then_n ?_
  refine seq_ ?_
  refine seq_ ?_
  refine region_ ?_
  refine st_val (ex_assign (v := (.int .i64 0)) rfl) ?_
  refine wl_nil ?_
  refine then_n ?_
  refine wp_block ?_
  refine wp_lp (σ := Int) (fun s1 a => ∃ j, a = F 73 (upds j [(0, (Sl.v t0)), (3, (Ptr (⟨b9, 0, none⟩ : Addr))), (4, (.int .i64 s1))])) h (mk_upds (ae rfl (ae rfl (ae rfl ae0)))) ?_
  clear h; rintro s1 _ w n1 ⟨j, rfl⟩ h
  refine seq_ ?_
  refine seq_ ?_
  refine region_ ?_
  refine st_val (ex_move (v := (.int .i64 s1)) rfl) ?_
  refine st_val (ex_move (v := (Sl.v t0)) rfl) ?_
  refine st_val (ex_len (s := t0) Try.underlying22 rfl) ?_
  refine st_val (ex_lss (a := s1) (b := (t0.n : Int)) rfl rfl) ?_
  refine wl_nil ?_
  refine then_n ?_
  by_cases hc2 : s1 < (t0.n : Int)
  · rw [if_pos hc2] at h; refine cond_1 (b := (decide (s1 < (t0.n : Int)))) rfl (decide_eq_true hc2) ?_
    refine wp_skip ?_
    refine then_n ?_
    refine seq_ ?_
    refine wp_block ?_
    refine seq_ ?_
    refine region_ ?_
    refine st_val (ex_assign (v := (.int .i64 0)) rfl) ?_
    refine wl_nil ?_
    refine then_n ?_
    refine wp_block ?_
    refine wp_lp (σ := Int) (fun s3 a => ∃ j, a = F 73 (upds j [(0, (Sl.v t0)), (3, (Ptr (⟨b9, 0, none⟩ : Addr))), (4, (.int .i64 s1)), (5, (.int .i64 s3))])) h (mk_upds (ae rfl (ae rfl (ae rfl (ae rfl ae0))))) ?_
    clear h; rintro s3 _ w n3 ⟨j, rfl⟩ h
    refine seq_ ?_
    refine seq_ ?_
    refine region_ ?_
    refine st_val (ex_move (v := (.int .i64 s3)) rfl) ?_
    refine st_val (ex_move (v := (Sl.v t0)) rfl) ?_
    refine st_val (ex_len (s := t0) Try.underlying22 rfl) ?_
    refine st_val (ex_lss (a := s3) (b := (t0.n : Int)) rfl rfl) ?_
    refine wl_nil ?_
    refine then_n ?_
    by_cases hc4 : s3 < (t0.n : Int)
    · rw [if_pos hc4] at h; refine cond_1 (b := (decide (s3 < (t0.n : Int)))) rfl (decide_eq_true hc4) ?_
      refine wp_skip ?_
      refine then_n ?_
      refine wp_jn (σ := Unit) (fun s5 l => ∃ j, l = upds j [(0, (Sl.v t0)), (3, (Ptr (⟨b9, 0, none⟩ : Addr))), (4, (.int .i64 s1)), (5, (.int .i64 s3))]) h ?_ ?_
      · clear h; rintro s5 _ w ⟨j, rfl⟩ h
        refine region_ ?_
        refine st_val (ex_move (v := (.int .i64 s3)) rfl) ?_
        refine st_val (ex_add (a := s3) (b := 1) rfl rfl) ?_
        refine st_val (ex_assign (v := (.int .i64 (IntKind.i64.wrap (s3 + 1)))) rfl) ?_
        refine wl_nil ?_
        exact then_n ⟨(IntKind.i64.wrap (s3 + 1)), mk_upds (ae rfl (ae rfl (ae rfl (ae rfl ae0)))), h⟩
      · clear h; intro k5 h
        refine wp_block ?_
        refine seq_ ?_
        refine wp_jn (σ := Bool) (fun s6 l => ∃ j, l = upds j [(0, (Sl.v t0)), (3, (Ptr (⟨b9, 0, none⟩ : Addr))), (4, (.int .i64 s1)), (5, (.int .i64 s3)), (37, (.bool s6))]) h ?_ ?_
        · clear h; rintro s6 _ w ⟨j, rfl⟩ h
          by_cases hc8 : s6 = true
          · rw [if_pos hc8] at h; refine cond_1 (b := s6) rfl hc8 ?_
            refine wp_exit ?_
            refine then_e ?_
            refine inb_e ?_
            exact then_n ⟨(), _, rfl, mk_upds' (ae rfl (ae rfl (ae rfl (ae rfl ae0)))), h⟩
          · rw [if_neg hc8] at h; refine cond_0 (b := s6) rfl (Bool.eq_false_iff.2 hc8) ?_
            refine wp_skip ?_
            refine then_n ?_
            refine seq_ ?_
            refine region_ ?_
            refine st_val (ex_move (v := (Ptr (⟨b9, 0, none⟩ : Addr))) rfl) ?_
            refine st_val (ex_move (v := (Sl.v t0)) rfl) ?_
            refine st_val (ex_move (v := (.int .i64 s3)) rfl) ?_
            refine st_rnp (fun r => ex_indexAddr rfl rfl r) h ?_; clear h; intro t42 h
            refine st_rn (fun r => ex_load rfl r) h ?_; clear h; intro t43 w h
            refine st_cal en104 rfl h ?_; clear h; intro t44 w h
            refine st_val (ex_move (v := (.tuple #[(Sl.v t44.1), (.bool t44.2)])) rfl) ?_
            refine st_val (ex_extract (u := (.tuple #[(Sl.v t44.1), (.bool t44.2)])) rfl (v := (Sl.v t44.1)) rfl) ?_
            refine st_val (ex_extract (u := (.tuple #[(Sl.v t44.1), (.bool t44.2)])) rfl (v := (.bool t44.2)) rfl) ?_
            refine st_val (ex_assign (v := (Sl.v t44.1)) rfl) ?_
            refine st_val (ex_assign (v := (.bool t44.2)) rfl) ?_
            refine wl_nil ?_
            refine then_n ?_
            refine seq_ ?_
            refine region_ ?_
            refine st_val (ex_move (v := (.bool t44.2)) rfl) ?_
            refine wl_nil ?_
            refine then_n ?_
            by_cases hc9 : t44.2 = true
            · rw [if_pos hc9] at h; refine cond_1 (b := t44.2) rfl hc9 ?_
              refine seq_ ?_
              refine dr_begin mixed [11, 14] (listed := #[false, false, false, false, false, false, false, false, false, false, false, false, false, false, false]) rfl (n := 15) rfl h ?_; clear h; intro w10 h
              have hE : Ext w10 w10 := Ext.refl _
              refine dr_takeP (i := 0) (by kernel_rfl) rfl (fun _ _ _ h => h) (fun _ => hE) (fun _ => ex_move (v := (Ptr (⟨b9, 0, none⟩ : Addr))) rfl) ?_
              refine dr_takeP (i := 1) (by kernel_rfl) rfl (fun _ _ _ h => h) (fun _ => hE) (fun _ => ex_move (v := (Ptr (⟨b9, 0, none⟩ : Addr))) rfl) ?_
              refine dr_takeP (i := 2) (by kernel_rfl) rfl (fun _ _ _ h => h) (fun _ => hE) (fun _ => ex_nilCheck (p := (⟨b9, 0, none⟩ : Addr)) rfl) ?_
              refine dr_takeP (i := 3) (by kernel_rfl) rfl (fun _ _ _ h => h) (fun _ => hE) (fun _ => ex_fa fa109_0 (p := (⟨b9, 0, none⟩ : Addr)) rfl) ?_
              obtain ⟨t52, ht52, h⟩ := h
              refine dr_take (i := 4) (by kernel_rfl) rfl (fun _ _ _ h => h) hE (fun _ hw => (fun r => ex_load rfl r) (ht52 _ hw)) ?_
              refine dr_takeP (i := 5) (by kernel_rfl) rfl (fun _ _ _ h => h) (fun _ => hE) (fun _ => ex_move (v := (Sl.v t0)) rfl) ?_
              refine dr_takeP (i := 6) (by kernel_rfl) rfl (fun _ _ _ h => h) (fun _ => hE) (fun _ => ex_move (v := (.int .i64 s3)) rfl) ?_
              obtain ⟨t55, ht55, h⟩ := h
              refine dr_takeP (i := 7) (by kernel_rfl) rfl (fun _ _ _ h => h) (fun _ => hE) (fun _ => (fun r => ex_indexAddr rfl rfl r) (ht55 _)) ?_
              refine dr_takeP (i := 8) (by kernel_rfl) rfl (fun _ _ _ h => h) (fun _ => hE) (fun _ => ex_fa fa48_1 (p := t55) rfl) ?_
              obtain ⟨t57, ht57, h⟩ := h
              refine dr_take (i := 9) (by kernel_rfl) rfl (fun _ _ _ h => h) hE (fun _ hw => (fun r => ex_load rfl r) (ht57 _ hw)) ?_
              refine dr_only (i := 10) (by kernel_rfl) rfl rfl ?_
              refine o_new (f := (fun b => Sl.v ⟨some ⟨b, 0, none⟩, 1, 1⟩)) (ex_buildSlice (a' := [(0, (.string t57))]) rfl (e_buildSlice (cs := ([(.string t57)])) Try.underlying44 info9 iz9 (by decide +kernel) (by decide +kernel) (by kernel_rfl) _)) h ?_; clear h; intro b58 w hx h; replace hE := hE.trans hx; clear hx; refine ⟨fun _ => hE, ?_⟩
              refine dr_only (i := 11) (by kernel_rfl) rfl rfl ?_
              refine o_rn (fun r => ex_builtin rfl (fun _ => rfl) r) h ?_; clear h; intro t59 w h; refine ⟨noG (by kernel_rfl), ?_⟩
              refine dr_takeP (i := 12) (by kernel_rfl) rfl (fun _ _ _ h => h) (noG (by kernel_rfl)) (fun _ => ex_nilCheck (p := (⟨b9, 0, none⟩ : Addr)) rfl) ?_
              refine dr_takeP (i := 13) (by kernel_rfl) rfl (fun _ _ _ h => h) (noG (by kernel_rfl)) (fun _ => ex_fa fa109_0 (p := (⟨b9, 0, none⟩ : Addr)) rfl) ?_
              refine dr_only (i := 14) (by kernel_rfl) rfl rfl ?_
              refine o_rnu (fun r => ex_store rfl rfl r) h ?_; clear h; intro w h; refine ⟨noG (by kernel_rfl), ?_⟩
              refine dr_end (by kernel_rfl) ?_
              refine then_n ?_
              refine region_ ?_
              refine st_val (ex_move (v := (Ptr (⟨b9, 0, none⟩ : Addr))) rfl) ?_
              refine st_val (ex_move (v := (Ptr (⟨b9, 0, none⟩ : Addr))) rfl) ?_
              refine st_val (ex_nilCheck (p := (⟨b9, 0, none⟩ : Addr)) rfl) ?_
              refine st_val (ex_fa fa109_1 (p := (⟨b9, 0, none⟩ : Addr)) rfl) ?_
              refine st_rn (fun r => ex_load rfl r) h ?_; clear h; intro t66 w h
              refine st_val (ex_move (v := (Sl.v t44.1)) rfl) ?_
              refine st_new (f := (fun b => Sl.v ⟨some ⟨b, 0, none⟩, 1, 1⟩)) (ex_buildSlice (a' := [(0, (Sl.v t44.1))]) rfl (e_buildSlice (cs := ([(Sl.v t44.1)])) Try.underlying107 info23 iz23 (by decide +kernel) (by decide +kernel) (by kernel_rfl) _)) h ?_; clear h; intro b68 w h
              refine st_rn (fun r => ex_builtin rfl (fun _ => rfl) r) h ?_; clear h; intro t69 w h
              refine st_val (ex_nilCheck (p := (⟨b9, 0, none⟩ : Addr)) rfl) ?_
              refine st_val (ex_fa fa109_1 (p := (⟨b9, 0, none⟩ : Addr)) rfl) ?_
              refine st_rnu (fun r => ex_store rfl rfl r) h ?_; clear h; intro w h
              refine wl_nil ?_
              refine inb_n ?_
              exact then_n ⟨(), _, rfl, mk_upds' (ae rfl (ae rfl (ae rfl (ae rfl ae0)))), h⟩
            · rw [if_neg hc9] at h; refine cond_0 (b := t44.2) rfl (Bool.eq_false_iff.2 hc9) ?_
              refine wp_skip ?_
              refine inb_n ?_
              exact then_n ⟨(), _, rfl, mk_upds' (ae rfl (ae rfl (ae rfl (ae rfl ae0)))), h⟩
        · clear h; intro k6 h
          refine region_ ?_
          refine st_val (ex_move (v := (Sl.v t0)) rfl) ?_
          refine st_val (ex_move (v := (.int .i64 s3)) rfl) ?_
          refine st_rnp (fun r => ex_indexAddr rfl rfl r) h ?_; clear h; intro t24 h
          refine st_val (ex_fa fa48_0 (p := t24) rfl) ?_
          refine st_rn (fun r => ex_load rfl r) h ?_; clear h; intro t26 w h
          refine st_val (ex_neq (a := t26) (b := 2) rfl rfl) ?_
          refine st_val (ex_move (v := (.bool (decide (t26 ≠ 2)))) rfl) ?_
          by_cases hc7 : t26 ≠ 2
          · rw [if_pos hc7] at h
            refine st_off (t := 28) (c := (decide (t26 ≠ 2))) rfl rfl (decide_eq_true hc7) ?_
            refine st_off (t := 28) (c := (decide (t26 ≠ 2))) rfl rfl (decide_eq_true hc7) ?_
            refine st_off (t := 28) (c := (decide (t26 ≠ 2))) rfl rfl (decide_eq_true hc7) ?_
            refine st_off (t := 28) (c := (decide (t26 ≠ 2))) rfl rfl (decide_eq_true hc7) ?_
            refine st_off (t := 28) (c := (decide (t26 ≠ 2))) rfl rfl (decide_eq_true hc7) ?_
            refine st_off (t := 28) (c := (decide (t26 ≠ 2))) rfl rfl (decide_eq_true hc7) ?_
            refine st_off (t := 28) (c := (decide (t26 ≠ 2))) rfl rfl (decide_eq_true hc7) ?_
            refine st_off (t := 28) (c := (decide (t26 ≠ 2))) rfl rfl (decide_eq_true hc7) ?_
            refine st_val (ex_pick1 (b := (decide (t26 ≠ 2))) rfl (decide_eq_true hc7) (v := (.bool true)) rfl) ?_
            refine wl_nil ?_
            exact then_n ⟨true, _, rfl, mk_upds' (ae rfl (ae rfl (ae rfl (ae rfl (ae rfl ae0))))), h⟩
          · rw [if_neg hc7] at h
            refine st_on (t := 28) (c := (decide (t26 ≠ 2))) rfl rfl (decide_eq_false hc7) ?_
            refine st_val (ex_move (v := (Ptr (⟨b9, 0, none⟩ : Addr))) rfl) ?_
            refine st_on (t := 28) (c := (decide (t26 ≠ 2))) rfl rfl (decide_eq_false hc7) ?_
            refine st_val (ex_move (v := (Sl.v t0)) rfl) ?_
            refine st_on (t := 28) (c := (decide (t26 ≠ 2))) rfl rfl (decide_eq_false hc7) ?_
            refine st_val (ex_move (v := (.int .i64 s3)) rfl) ?_
            refine st_on (t := 28) (c := (decide (t26 ≠ 2))) rfl rfl (decide_eq_false hc7) ?_
            refine st_rnp (fun r => ex_indexAddr rfl rfl r) h ?_; clear h; intro t32 h
            refine st_on (t := 28) (c := (decide (t26 ≠ 2))) rfl rfl (decide_eq_false hc7) ?_
            refine st_val (ex_fa fa48_1 (p := t32) rfl) ?_
            refine st_on (t := 28) (c := (decide (t26 ≠ 2))) rfl rfl (decide_eq_false hc7) ?_
            refine st_rn (fun r => ex_load rfl r) h ?_; clear h; intro t34 w h
            refine st_on (t := 28) (c := (decide (t26 ≠ 2))) rfl rfl (decide_eq_false hc7) ?_
            refine st_cal en60 rfl h ?_; clear h; intro t35 w h
            refine st_on (t := 28) (c := (decide (t26 ≠ 2))) rfl rfl (decide_eq_false hc7) ?_
            refine st_val (ex_geq (a := t35) (b := 0) rfl rfl) ?_
            refine st_val (ex_pick0 (b := (decide (t26 ≠ 2))) rfl (decide_eq_false hc7) (v := (.bool (decide (0 ≤ t35)))) rfl) ?_
            refine wl_nil ?_
            exact then_n ⟨(decide (0 ≤ t35)), _, rfl, mk_upds' (ae rfl (ae rfl (ae rfl (ae rfl (ae rfl ae0))))), h⟩
    · rw [if_neg hc4] at h; refine cond_0 (b := (decide (s3 < (t0.n : Int)))) rfl (decide_eq_false hc4) ?_
      refine wp_exit ?_
      refine then_e ?_
      refine then_e ?_
      refine inb_e ?_
      refine inb_n ?_
      refine then_n ?_
      refine region_ ?_
      refine st_val (ex_move (v := (.int .i64 s1)) rfl) ?_
      refine st_val (ex_add (a := s1) (b := 1) rfl rfl) ?_
      refine st_val (ex_assign (v := (.int .i64 (IntKind.i64.wrap (s1 + 1)))) rfl) ?_
      refine wl_nil ?_
      exact then_n ⟨(IntKind.i64.wrap (s1 + 1)), mk_upds (ae rfl (ae rfl (ae rfl ae0))), h⟩
  · rw [if_neg hc2] at h; refine cond_0 (b := (decide (s1 < (t0.n : Int)))) rfl (decide_eq_false hc2) ?_
    refine wp_exit ?_
    refine then_e ?_
    refine then_e ?_
    refine inb_e ?_
    refine then_n ?_
    refine seq_ ?_
    refine region_ ?_
    refine st_val (ex_move (v := (Ptr (⟨b9, 0, none⟩ : Addr))) rfl) ?_
    refine st_val (ex_assign (v := (Ptr (⟨b9, 0, none⟩ : Addr))) rfl) ?_
    refine wl_nil ?_
    refine then_n ?_
    refine wp_ret ?_
    refine ret_1 rfl rfl ⟨(some (⟨b9, 0, none⟩ : Addr)), rfl, h⟩

/-- (*turnpike/turnpikeref15.Known).at; slots 0:k, 1:name, 2:k, 3:name, 5:i -/
def f60 (t0 : (Option Addr)) (t1 : ByteArray) (R : (Int) → World → Prop) (w : World) : Prop :=
  Lp (σ := Int) (fun s1 w n1 =>
    NotNil t0 fun t8 =>
    Rn Try.prog Sl.v (Instr.loadAt 44 (Ptr (t8.add 0))) w fun t10 w =>
    if s1 < (t10.n : Int) then
      NotNil t0 fun t16 =>
      Rn Try.prog Sl.v (Instr.loadAt 44 (Ptr (t16.add 0))) w fun t18 w =>
      RnP Try.prog Ptr (Instr.indexAt 44 (Sl.v t18) (.int .i64 s1)) fun t20 =>
      Rn Try.prog Value.string (Instr.loadAt 9 (Ptr t20)) w fun t21 w =>
      if t21 = t1 then
        R s1 w
      else
        n1 (IntKind.i64.wrap (s1 + 1)) w
    else
      R (-1) w
  ) 0 w
theorem c60 {t0 : (Option Addr)} {t1 : ByteArray} {R : (Int) → World → Prop} {w : World} (h : f60 t0 t1 R w) :
    Cal Try.prog (Value.int .i64) 60 #[(.pointer t0), (.string t1)] w R := by
  unfold f60 at h
  refine calls_ Try.func60 Try.ntmps60 rfl rfl ?_
  refine seq_ ?_
  refine region_ ?_
  refine st_val (ex_assign (v := (.int .i64 0)) rfl) ?_
  refine wl_nil ?_
  refine then_n ?_
  refine seq_ ?_
  refine seq_ ?_
  refine region_ ?_
  refine st_val (ex_assign (v := (.int .i64 0)) rfl) ?_
  refine wl_nil ?_
  refine then_n ?_
  refine wp_block ?_
  refine wp_lp (σ := Int) (fun s1 a => ∃ j, a = F 25 (upds j [(0, (.pointer t0)), (1, (.string t1)), (5, (.int .i64 s1))])) h (mk_upds (ae rfl (ae rfl (ae rfl ae0)))) ?_
  clear h; rintro s1 _ w n1 ⟨j, rfl⟩ h
  refine seq_ ?_
  refine seq_ ?_
  refine region_ ?_
  refine st_val (ex_move (v := (.int .i64 s1)) rfl) ?_
  refine st_val (ex_move (v := (.pointer t0)) rfl) ?_
  obtain ⟨t8, ht8, h⟩ := h
  refine st_val (ex_nilCheckP (p := t0) rfl ht8) ?_
  refine st_val (ex_fa fa109_0 (p := t8) rfl) ?_
  refine st_rn (fun r => ex_load rfl r) h ?_; clear h; intro t10 w h
  refine st_val (ex_len (s := t10) Try.underlying44 rfl) ?_
  refine st_val (ex_lss (a := s1) (b := (t10.n : Int)) rfl rfl) ?_
  refine wl_nil ?_
  refine then_n ?_
  by_cases hc2 : s1 < (t10.n : Int)
  · rw [if_pos hc2] at h; refine cond_1 (b := (decide (s1 < (t10.n : Int)))) rfl (decide_eq_true hc2) ?_
    refine wp_skip ?_
    refine then_n ?_
    refine seq_ ?_
    refine wp_block ?_
    refine seq_ ?_
    refine region_ ?_
    refine st_val (ex_move (v := (.pointer t0)) rfl) ?_
    obtain ⟨t16, ht16, h⟩ := h
    refine st_val (ex_nilCheckP (p := t0) rfl ht16) ?_
    refine st_val (ex_fa fa109_0 (p := t16) rfl) ?_
    refine st_rn (fun r => ex_load rfl r) h ?_; clear h; intro t18 w h
    refine st_val (ex_move (v := (.int .i64 s1)) rfl) ?_
    refine st_rnp (fun r => ex_indexAddr rfl rfl r) h ?_; clear h; intro t20 h
    refine st_rn (fun r => ex_load rfl r) h ?_; clear h; intro t21 w h
    refine st_val (ex_move (v := (.string t1)) rfl) ?_
    refine st_val (ex_eqlS (a := t21) (b := t1) rfl rfl) ?_
    refine wl_nil ?_
    refine then_n ?_
    by_cases hc3 : t21 = t1
    · rw [if_pos hc3] at h; refine cond_1 (b := (decide (t21 = t1))) rfl (decide_eq_true hc3) ?_
      refine seq_ ?_
      refine region_ ?_
      refine st_val (ex_move (v := (.int .i64 s1)) rfl) ?_
      refine st_val (ex_assign (v := (.int .i64 s1)) rfl) ?_
      refine wl_nil ?_
      refine then_n ?_
      refine wp_ret ?_
      refine inb_r ?_
      refine then_r ?_
      refine then_r ?_
      refine inb_r ?_
      refine then_r ?_
      refine ret_1 rfl rfl ⟨s1, rfl, h⟩
    · rw [if_neg hc3] at h; refine cond_0 (b := (decide (t21 = t1))) rfl (decide_eq_false hc3) ?_
      refine wp_skip ?_
      refine inb_n ?_
      refine then_n ?_
      refine region_ ?_
      refine st_val (ex_move (v := (.int .i64 s1)) rfl) ?_
      refine st_val (ex_add (a := s1) (b := 1) rfl rfl) ?_
      refine st_val (ex_assign (v := (.int .i64 (IntKind.i64.wrap (s1 + 1)))) rfl) ?_
      refine wl_nil ?_
      exact then_n ⟨(IntKind.i64.wrap (s1 + 1)), mk_upds (ae rfl (ae rfl (ae rfl ae0))), h⟩
  · rw [if_neg hc2] at h; refine cond_0 (b := (decide (s1 < (t10.n : Int)))) rfl (decide_eq_false hc2) ?_
    refine wp_exit ?_
    refine then_e ?_
    refine then_e ?_
    refine inb_e ?_
    refine then_n ?_
    refine seq_ ?_
    refine region_ ?_
    refine st_val (ex_assign (v := (.int .i64 (-1))) rfl) ?_
    refine wl_nil ?_
    refine then_n ?_
    refine wp_ret ?_
    refine ret_1 rfl rfl ⟨(-1), rfl, h⟩

/-- turnpike/turnpikelaw15.alike; slots 0:x, 1:y, 2:x, 3:y -/
def f61 (t0 : Nat) (t1 : Nat) (R : (Bool) → World → Prop) (w : World) : Prop :=
  Jn (σ := Bool) (fun k1 =>
    Rx Try.prog (Value.int .u64) 105 #[(.float .f64 t0)] w fun t6 w =>
    Rx Try.prog (Value.int .u64) 105 #[(.float .f64 t1)] w fun t8 w =>
    if t6 = t8 then
      k1 true w
    else
      if (fNe t0 t0) = true then
        k1 (fNe t1 t1) w
      else
        k1 false w
  ) fun s1 w =>
    R s1 w
theorem c61 {t0 : Nat} {t1 : Nat} {R : (Bool) → World → Prop} {w : World} (h : f61 t0 t1 R w) :
    Cal Try.prog Value.bool 61 #[(.float .f64 t0), (.float .f64 t1)] w R := by
  unfold f61 at h
  refine calls_ Try.func61 Try.ntmps61 rfl rfl ?_
  refine seq_ ?_
  refine region_ ?_
  refine st_val (ex_assign (v := (.bool false)) rfl) ?_
  refine wl_nil ?_
  refine then_n ?_
  refine wp_jn (σ := Bool) (fun s1 l => ∃ j, l = upds j [(4, (.bool s1))]) h ?_ ?_
  · clear h; rintro s1 _ w ⟨j, rfl⟩ h
    refine wp_ret ?_
    refine ret_1 rfl rfl ⟨s1, rfl, h⟩
  · clear h; intro k1 h
    refine region_ ?_
    refine st_val (ex_move (v := (.float .f64 t0)) rfl) ?_
    refine st_rx rfl h ?_; clear h; intro t6 w h
    refine st_val (ex_move (v := (.float .f64 t1)) rfl) ?_
    refine st_rx rfl h ?_; clear h; intro t8 w h
    refine st_val (ex_eql (a := t6) (b := t8) rfl rfl) ?_
    refine st_val (ex_move (v := (.bool (decide (t6 = t8)))) rfl) ?_
    by_cases hc2 : t6 = t8
    · rw [if_pos hc2] at h
      refine st_off (t := 10) (c := (decide (t6 = t8))) rfl rfl (decide_eq_true hc2) ?_
      refine st_off (t := 10) (c := (decide (t6 = t8))) rfl rfl (decide_eq_true hc2) ?_
      refine st_off (t := 10) (c := (decide (t6 = t8))) rfl rfl (decide_eq_true hc2) ?_
      refine st_off (t := 10) (c := (decide (t6 = t8))) rfl rfl (decide_eq_true hc2) ?_
      refine st_offu (t := 14) rfl rfl ?_
      refine st_offu (t := 14) rfl rfl ?_
      refine st_offu (t := 14) rfl rfl ?_
      refine st_off (t := 10) (c := (decide (t6 = t8))) rfl rfl (decide_eq_true hc2) ?_
      refine st_val (ex_pick1 (b := (decide (t6 = t8))) rfl (decide_eq_true hc2) (v := (.bool true)) rfl) ?_
      refine st_val (ex_assign (v := (.bool true)) rfl) ?_
      refine wl_nil ?_
      exact then_n ⟨true, _, rfl, mk_upds' (ae rfl ae0), h⟩
    · rw [if_neg hc2] at h
      refine st_on (t := 10) (c := (decide (t6 = t8))) rfl rfl (decide_eq_false hc2) ?_
      refine st_val (ex_move (v := (.float .f64 t0)) rfl) ?_
      refine st_on (t := 10) (c := (decide (t6 = t8))) rfl rfl (decide_eq_false hc2) ?_
      refine st_val (ex_move (v := (.float .f64 t0)) rfl) ?_
      refine st_on (t := 10) (c := (decide (t6 = t8))) rfl rfl (decide_eq_false hc2) ?_
      refine st_val (ex_neqF (a := t0) (b := t0) rfl rfl) ?_
      refine st_on (t := 10) (c := (decide (t6 = t8))) rfl rfl (decide_eq_false hc2) ?_
      refine st_val (ex_move (v := (.bool (fNe t0 t0))) rfl) ?_
      by_cases hc3 : (fNe t0 t0) = true
      · rw [if_pos hc3] at h
        refine st_on (t := 14) (c := (fNe t0 t0)) rfl rfl hc3 ?_
        refine st_val (ex_move (v := (.float .f64 t1)) rfl) ?_
        refine st_on (t := 14) (c := (fNe t0 t0)) rfl rfl hc3 ?_
        refine st_val (ex_move (v := (.float .f64 t1)) rfl) ?_
        refine st_on (t := 14) (c := (fNe t0 t0)) rfl rfl hc3 ?_
        refine st_val (ex_neqF (a := t1) (b := t1) rfl rfl) ?_
        refine st_on (t := 10) (c := (decide (t6 = t8))) rfl rfl (decide_eq_false hc2) ?_
        refine st_val (ex_pick1 (b := (fNe t0 t0)) rfl hc3 (v := (.bool (fNe t1 t1))) rfl) ?_
        refine st_val (ex_pick0 (b := (decide (t6 = t8))) rfl (decide_eq_false hc2) (v := (.bool (fNe t1 t1))) rfl) ?_
        refine st_val (ex_assign (v := (.bool (fNe t1 t1))) rfl) ?_
        refine wl_nil ?_
        exact then_n ⟨(fNe t1 t1), _, rfl, mk_upds' (ae rfl ae0), h⟩
      · rw [if_neg hc3] at h
        refine st_off (t := 14) (c := (fNe t0 t0)) rfl rfl (Bool.eq_false_iff.2 hc3) ?_
        refine st_off (t := 14) (c := (fNe t0 t0)) rfl rfl (Bool.eq_false_iff.2 hc3) ?_
        refine st_off (t := 14) (c := (fNe t0 t0)) rfl rfl (Bool.eq_false_iff.2 hc3) ?_
        refine st_on (t := 10) (c := (decide (t6 = t8))) rfl rfl (decide_eq_false hc2) ?_
        refine st_val (ex_pick0 (b := (fNe t0 t0)) rfl (Bool.eq_false_iff.2 hc3) (v := (.bool false)) rfl) ?_
        refine st_val (ex_pick0 (b := (decide (t6 = t8))) rfl (decide_eq_false hc2) (v := (.bool false)) rfl) ?_
        refine st_val (ex_assign (v := (.bool false)) rfl) ?_
        refine wl_nil ?_
        exact then_n ⟨false, _, rfl, mk_upds' (ae rfl ae0), h⟩

/-- turnpike/turnpikelaw15.resource; slots 0:a, 1:b, 2:a, 3:b -/
def f62 (t0 : TResource) (t1 : TResource) (R : (Bool) → World → Prop) (w : World) : Prop :=
  New 48 (TResource.cells t0) w fun b2 w =>
  New 48 (TResource.cells t1) w fun b3 w =>
  Jn (σ := Bool) (fun k1 =>
    Rn Try.prog (Value.int .i64) (Instr.loadAt 3 (Ptr ((⟨b2, 0, none⟩ : Addr).add 0))) w fun t6 w =>
    Rn Try.prog (Value.int .i64) (Instr.loadAt 3 (Ptr ((⟨b3, 0, none⟩ : Addr).add 0))) w fun t8 w =>
    if t6 = t8 then
      Rn Try.prog Value.string (Instr.loadAt 9 (Ptr ((⟨b2, 0, none⟩ : Addr).add 1))) w fun t12 w =>
      Rn Try.prog Value.string (Instr.loadAt 9 (Ptr ((⟨b3, 0, none⟩ : Addr).add 1))) w fun t14 w =>
      if t12 = t14 then
        Rn Try.prog Sl.v (Instr.loadAt 44 (Ptr ((⟨b2, 0, none⟩ : Addr).add 2))) w fun t19 w =>
        Rn Try.prog Sl.v (Instr.loadAt 44 (Ptr ((⟨b3, 0, none⟩ : Addr).add 2))) w fun t21 w =>
        Cal Try.prog Value.bool 80 #[(Sl.v t19), (Sl.v t21)] w fun t22 w =>
        if t22 = true then
          Rn Try.prog Sl.v (Instr.loadAt 45 (Ptr ((⟨b2, 0, none⟩ : Addr).add 3))) w fun t26 w =>
          Rn Try.prog Sl.v (Instr.loadAt 45 (Ptr ((⟨b3, 0, none⟩ : Addr).add 3))) w fun t28 w =>
          Cal Try.prog Value.bool 106 #[(Sl.v t26), (Sl.v t28)] w fun t29 w =>
          if t29 = true then
            Rn Try.prog Value.string (Instr.loadAt 9 (Ptr ((⟨b2, 0, none⟩ : Addr).add 4))) w fun t33 w =>
            Rn Try.prog Value.string (Instr.loadAt 9 (Ptr ((⟨b3, 0, none⟩ : Addr).add 4))) w fun t35 w =>
            if t33 = t35 then
              Rn Try.prog Sl.v (Instr.loadAt 46 (Ptr ((⟨b2, 0, none⟩ : Addr).add 5))) w fun t40 w =>
              Rn Try.prog Sl.v (Instr.loadAt 46 (Ptr ((⟨b3, 0, none⟩ : Addr).add 5))) w fun t42 w =>
              Cal Try.prog Value.bool 107 #[(Sl.v t40), (Sl.v t42)] w fun t43 w =>
              if t43 = true then
                Rn Try.prog Value.string (Instr.loadAt 9 (Ptr ((⟨b2, 0, none⟩ : Addr).add 6))) w fun t47 w =>
                Rn Try.prog Value.string (Instr.loadAt 9 (Ptr ((⟨b3, 0, none⟩ : Addr).add 6))) w fun t49 w =>
                if t47 = t49 then
                  Rn Try.prog Value.bool (Instr.loadAt 4 (Ptr ((⟨b2, 0, none⟩ : Addr).add 7))) w fun t54 w =>
                  Rn Try.prog Value.bool (Instr.loadAt 4 (Ptr ((⟨b3, 0, none⟩ : Addr).add 7))) w fun t56 w =>
                  k1 (t54 == t56) w
                else
                  k1 false w
              else
                k1 false w
            else
              k1 false w
          else
            k1 false w
        else
          k1 false w
      else
        k1 false w
    else
      k1 false w
  ) fun s1 w =>
    R s1 w
theorem c62 {t0 : TResource} {t1 : TResource} {R : (Bool) → World → Prop} {w : World} (h : f62 t0 t1 R w) :
    Cal Try.prog Value.bool 62 #[(TResource.v t0), (TResource.v t1)] w R := by
  unfold f62 at h
  refine calls_ Try.func62 Try.ntmps62 rfl rfl ?_
  refine seq_ ?_
  refine region_ ?_
  refine st_new (f := (fun b => Ptr ⟨b, 0, none⟩)) (ex_boxN rfl rfl) h ?_; clear h; intro b2 w h
  refine st_new (f := (fun b => Ptr ⟨b, 0, none⟩)) (ex_boxN rfl rfl) h ?_; clear h; intro b3 w h
  refine st_val (ex_assign (v := (.bool false)) rfl) ?_
  refine wl_nil ?_
  refine then_n ?_
  refine wp_jn (σ := Bool) (fun s1 l => ∃ j, l = upds j [(4, (.bool s1))]) h ?_ ?_
  · clear h; rintro s1 _ w ⟨j, rfl⟩ h
    refine wp_ret ?_
    refine ret_1 rfl rfl ⟨s1, rfl, h⟩
  · clear h; intro k1 h
    refine region_ ?_
    refine st_val (ex_fa fa48_0 (p := (⟨b2, 0, none⟩ : Addr)) rfl) ?_
    refine st_rn (fun r => ex_load rfl r) h ?_; clear h; intro t6 w h
    refine st_val (ex_fa fa48_0 (p := (⟨b3, 0, none⟩ : Addr)) rfl) ?_
    refine st_rn (fun r => ex_load rfl r) h ?_; clear h; intro t8 w h
    refine st_val (ex_eql (a := t6) (b := t8) rfl rfl) ?_
    refine st_val (ex_move (v := (.bool (decide (t6 = t8)))) rfl) ?_
    by_cases hc2 : t6 = t8
    · rw [if_pos hc2] at h
      refine st_on (t := 10) (c := (decide (t6 = t8))) rfl rfl (decide_eq_true hc2) ?_
      refine st_val (ex_fa fa48_1 (p := (⟨b2, 0, none⟩ : Addr)) rfl) ?_
      refine st_on (t := 10) (c := (decide (t6 = t8))) rfl rfl (decide_eq_true hc2) ?_
      refine st_rn (fun r => ex_load rfl r) h ?_; clear h; intro t12 w h
      refine st_on (t := 10) (c := (decide (t6 = t8))) rfl rfl (decide_eq_true hc2) ?_
      refine st_val (ex_fa fa48_1 (p := (⟨b3, 0, none⟩ : Addr)) rfl) ?_
      refine st_on (t := 10) (c := (decide (t6 = t8))) rfl rfl (decide_eq_true hc2) ?_
      refine st_rn (fun r => ex_load rfl r) h ?_; clear h; intro t14 w h
      refine st_on (t := 10) (c := (decide (t6 = t8))) rfl rfl (decide_eq_true hc2) ?_
      refine st_val (ex_eqlS (a := t12) (b := t14) rfl rfl) ?_
      refine st_val (ex_pick1 (b := (decide (t6 = t8))) rfl (decide_eq_true hc2) (v := (.bool (decide (t12 = t14)))) rfl) ?_
      refine st_val (ex_move (v := (.bool (decide (t12 = t14)))) rfl) ?_
      by_cases hc3 : t12 = t14
      · rw [if_pos hc3] at h
        refine st_on (t := 17) (c := (decide (t12 = t14))) rfl rfl (decide_eq_true hc3) ?_
        refine st_val (ex_fa fa48_2 (p := (⟨b2, 0, none⟩ : Addr)) rfl) ?_
        refine st_on (t := 17) (c := (decide (t12 = t14))) rfl rfl (decide_eq_true hc3) ?_
        refine st_rn (fun r => ex_load rfl r) h ?_; clear h; intro t19 w h
        refine st_on (t := 17) (c := (decide (t12 = t14))) rfl rfl (decide_eq_true hc3) ?_
        refine st_val (ex_fa fa48_2 (p := (⟨b3, 0, none⟩ : Addr)) rfl) ?_
        refine st_on (t := 17) (c := (decide (t12 = t14))) rfl rfl (decide_eq_true hc3) ?_
        refine st_rn (fun r => ex_load rfl r) h ?_; clear h; intro t21 w h
        refine st_on (t := 17) (c := (decide (t12 = t14))) rfl rfl (decide_eq_true hc3) ?_
        refine st_cal en80 rfl h ?_; clear h; intro t22 w h
        refine st_val (ex_pick1 (b := (decide (t12 = t14))) rfl (decide_eq_true hc3) (v := (.bool t22)) rfl) ?_
        refine st_val (ex_move (v := (.bool t22)) rfl) ?_
        by_cases hc4 : t22 = true
        · rw [if_pos hc4] at h
          refine st_on (t := 24) (c := t22) rfl rfl hc4 ?_
          refine st_val (ex_fa fa48_3 (p := (⟨b2, 0, none⟩ : Addr)) rfl) ?_
          refine st_on (t := 24) (c := t22) rfl rfl hc4 ?_
          refine st_rn (fun r => ex_load rfl r) h ?_; clear h; intro t26 w h
          refine st_on (t := 24) (c := t22) rfl rfl hc4 ?_
          refine st_val (ex_fa fa48_3 (p := (⟨b3, 0, none⟩ : Addr)) rfl) ?_
          refine st_on (t := 24) (c := t22) rfl rfl hc4 ?_
          refine st_rn (fun r => ex_load rfl r) h ?_; clear h; intro t28 w h
          refine st_on (t := 24) (c := t22) rfl rfl hc4 ?_
          refine st_cal en106 rfl h ?_; clear h; intro t29 w h
          refine st_val (ex_pick1 (b := t22) rfl hc4 (v := (.bool t29)) rfl) ?_
          refine st_val (ex_move (v := (.bool t29)) rfl) ?_
          by_cases hc5 : t29 = true
          · rw [if_pos hc5] at h
            refine st_on (t := 31) (c := t29) rfl rfl hc5 ?_
            refine st_val (ex_fa fa48_4 (p := (⟨b2, 0, none⟩ : Addr)) rfl) ?_
            refine st_on (t := 31) (c := t29) rfl rfl hc5 ?_
            refine st_rn (fun r => ex_load rfl r) h ?_; clear h; intro t33 w h
            refine st_on (t := 31) (c := t29) rfl rfl hc5 ?_
            refine st_val (ex_fa fa48_4 (p := (⟨b3, 0, none⟩ : Addr)) rfl) ?_
            refine st_on (t := 31) (c := t29) rfl rfl hc5 ?_
            refine st_rn (fun r => ex_load rfl r) h ?_; clear h; intro t35 w h
            refine st_on (t := 31) (c := t29) rfl rfl hc5 ?_
            refine st_val (ex_eqlS (a := t33) (b := t35) rfl rfl) ?_
            refine st_val (ex_pick1 (b := t29) rfl hc5 (v := (.bool (decide (t33 = t35)))) rfl) ?_
            refine st_val (ex_move (v := (.bool (decide (t33 = t35)))) rfl) ?_
            by_cases hc6 : t33 = t35
            · rw [if_pos hc6] at h
              refine st_on (t := 38) (c := (decide (t33 = t35))) rfl rfl (decide_eq_true hc6) ?_
              refine st_val (ex_fa fa48_5 (p := (⟨b2, 0, none⟩ : Addr)) rfl) ?_
              refine st_on (t := 38) (c := (decide (t33 = t35))) rfl rfl (decide_eq_true hc6) ?_
              refine st_rn (fun r => ex_load rfl r) h ?_; clear h; intro t40 w h
              refine st_on (t := 38) (c := (decide (t33 = t35))) rfl rfl (decide_eq_true hc6) ?_
              refine st_val (ex_fa fa48_5 (p := (⟨b3, 0, none⟩ : Addr)) rfl) ?_
              refine st_on (t := 38) (c := (decide (t33 = t35))) rfl rfl (decide_eq_true hc6) ?_
              refine st_rn (fun r => ex_load rfl r) h ?_; clear h; intro t42 w h
              refine st_on (t := 38) (c := (decide (t33 = t35))) rfl rfl (decide_eq_true hc6) ?_
              refine st_cal en107 rfl h ?_; clear h; intro t43 w h
              refine st_val (ex_pick1 (b := (decide (t33 = t35))) rfl (decide_eq_true hc6) (v := (.bool t43)) rfl) ?_
              refine st_val (ex_move (v := (.bool t43)) rfl) ?_
              by_cases hc7 : t43 = true
              · rw [if_pos hc7] at h
                refine st_on (t := 45) (c := t43) rfl rfl hc7 ?_
                refine st_val (ex_fa fa48_6 (p := (⟨b2, 0, none⟩ : Addr)) rfl) ?_
                refine st_on (t := 45) (c := t43) rfl rfl hc7 ?_
                refine st_rn (fun r => ex_load rfl r) h ?_; clear h; intro t47 w h
                refine st_on (t := 45) (c := t43) rfl rfl hc7 ?_
                refine st_val (ex_fa fa48_6 (p := (⟨b3, 0, none⟩ : Addr)) rfl) ?_
                refine st_on (t := 45) (c := t43) rfl rfl hc7 ?_
                refine st_rn (fun r => ex_load rfl r) h ?_; clear h; intro t49 w h
                refine st_on (t := 45) (c := t43) rfl rfl hc7 ?_
                refine st_val (ex_eqlS (a := t47) (b := t49) rfl rfl) ?_
                refine st_val (ex_pick1 (b := t43) rfl hc7 (v := (.bool (decide (t47 = t49)))) rfl) ?_
                refine st_val (ex_move (v := (.bool (decide (t47 = t49)))) rfl) ?_
                by_cases hc8 : t47 = t49
                · rw [if_pos hc8] at h
                  refine st_on (t := 52) (c := (decide (t47 = t49))) rfl rfl (decide_eq_true hc8) ?_
                  refine st_val (ex_fa fa48_7 (p := (⟨b2, 0, none⟩ : Addr)) rfl) ?_
                  refine st_on (t := 52) (c := (decide (t47 = t49))) rfl rfl (decide_eq_true hc8) ?_
                  refine st_rn (fun r => ex_load rfl r) h ?_; clear h; intro t54 w h
                  refine st_on (t := 52) (c := (decide (t47 = t49))) rfl rfl (decide_eq_true hc8) ?_
                  refine st_val (ex_fa fa48_7 (p := (⟨b3, 0, none⟩ : Addr)) rfl) ?_
                  refine st_on (t := 52) (c := (decide (t47 = t49))) rfl rfl (decide_eq_true hc8) ?_
                  refine st_rn (fun r => ex_load rfl r) h ?_; clear h; intro t56 w h
                  refine st_on (t := 52) (c := (decide (t47 = t49))) rfl rfl (decide_eq_true hc8) ?_
                  refine st_val (ex_eqlB Try.underlying4 (a := t54) (b := t56) rfl rfl) ?_
                  refine st_val (ex_pick1 (b := (decide (t47 = t49))) rfl (decide_eq_true hc8) (v := (.bool (t54 == t56))) rfl) ?_
                  refine st_val (ex_assign (v := (.bool (t54 == t56))) rfl) ?_
                  refine wl_nil ?_
                  exact then_n ⟨(t54 == t56), _, rfl, mk_upds' (ae rfl ae0), h⟩
                · rw [if_neg hc8] at h
                  refine st_off (t := 52) (c := (decide (t47 = t49))) rfl rfl (decide_eq_false hc8) ?_
                  refine st_off (t := 52) (c := (decide (t47 = t49))) rfl rfl (decide_eq_false hc8) ?_
                  refine st_off (t := 52) (c := (decide (t47 = t49))) rfl rfl (decide_eq_false hc8) ?_
                  refine st_off (t := 52) (c := (decide (t47 = t49))) rfl rfl (decide_eq_false hc8) ?_
                  refine st_off (t := 52) (c := (decide (t47 = t49))) rfl rfl (decide_eq_false hc8) ?_
                  refine st_val (ex_pick0 (b := (decide (t47 = t49))) rfl (decide_eq_false hc8) (v := (.bool false)) rfl) ?_
                  refine st_val (ex_assign (v := (.bool false)) rfl) ?_
                  refine wl_nil ?_
                  exact then_n ⟨false, _, rfl, mk_upds' (ae rfl ae0), h⟩
              · rw [if_neg hc7] at h
                refine st_off (t := 45) (c := t43) rfl rfl (Bool.eq_false_iff.2 hc7) ?_
                refine st_off (t := 45) (c := t43) rfl rfl (Bool.eq_false_iff.2 hc7) ?_
                refine st_off (t := 45) (c := t43) rfl rfl (Bool.eq_false_iff.2 hc7) ?_
                refine st_off (t := 45) (c := t43) rfl rfl (Bool.eq_false_iff.2 hc7) ?_
                refine st_off (t := 45) (c := t43) rfl rfl (Bool.eq_false_iff.2 hc7) ?_
                refine st_val (ex_pick0 (b := t43) rfl (Bool.eq_false_iff.2 hc7) (v := (.bool false)) rfl) ?_
                refine st_val (ex_move (v := (.bool false)) rfl) ?_
                refine st_off (t := 52) (c := false) rfl rfl (rfl : false = !true) ?_
                refine st_off (t := 52) (c := false) rfl rfl (rfl : false = !true) ?_
                refine st_off (t := 52) (c := false) rfl rfl (rfl : false = !true) ?_
                refine st_off (t := 52) (c := false) rfl rfl (rfl : false = !true) ?_
                refine st_off (t := 52) (c := false) rfl rfl (rfl : false = !true) ?_
                refine st_val (ex_pick0 (b := false) rfl (rfl : false = false) (v := (.bool false)) rfl) ?_
                refine st_val (ex_assign (v := (.bool false)) rfl) ?_
                refine wl_nil ?_
                exact then_n ⟨false, _, rfl, mk_upds' (ae rfl ae0), h⟩
            · rw [if_neg hc6] at h
              refine st_off (t := 38) (c := (decide (t33 = t35))) rfl rfl (decide_eq_false hc6) ?_
              refine st_off (t := 38) (c := (decide (t33 = t35))) rfl rfl (decide_eq_false hc6) ?_
              refine st_off (t := 38) (c := (decide (t33 = t35))) rfl rfl (decide_eq_false hc6) ?_
              refine st_off (t := 38) (c := (decide (t33 = t35))) rfl rfl (decide_eq_false hc6) ?_
              refine st_off (t := 38) (c := (decide (t33 = t35))) rfl rfl (decide_eq_false hc6) ?_
              refine st_val (ex_pick0 (b := (decide (t33 = t35))) rfl (decide_eq_false hc6) (v := (.bool false)) rfl) ?_
              refine st_val (ex_move (v := (.bool false)) rfl) ?_
              refine st_off (t := 45) (c := false) rfl rfl (rfl : false = !true) ?_
              refine st_off (t := 45) (c := false) rfl rfl (rfl : false = !true) ?_
              refine st_off (t := 45) (c := false) rfl rfl (rfl : false = !true) ?_
              refine st_off (t := 45) (c := false) rfl rfl (rfl : false = !true) ?_
              refine st_off (t := 45) (c := false) rfl rfl (rfl : false = !true) ?_
              refine st_val (ex_pick0 (b := false) rfl (rfl : false = false) (v := (.bool false)) rfl) ?_
              refine st_val (ex_move (v := (.bool false)) rfl) ?_
              refine st_off (t := 52) (c := false) rfl rfl (rfl : false = !true) ?_
              refine st_off (t := 52) (c := false) rfl rfl (rfl : false = !true) ?_
              refine st_off (t := 52) (c := false) rfl rfl (rfl : false = !true) ?_
              refine st_off (t := 52) (c := false) rfl rfl (rfl : false = !true) ?_
              refine st_off (t := 52) (c := false) rfl rfl (rfl : false = !true) ?_
              refine st_val (ex_pick0 (b := false) rfl (rfl : false = false) (v := (.bool false)) rfl) ?_
              refine st_val (ex_assign (v := (.bool false)) rfl) ?_
              refine wl_nil ?_
              exact then_n ⟨false, _, rfl, mk_upds' (ae rfl ae0), h⟩
          · rw [if_neg hc5] at h
            refine st_off (t := 31) (c := t29) rfl rfl (Bool.eq_false_iff.2 hc5) ?_
            refine st_off (t := 31) (c := t29) rfl rfl (Bool.eq_false_iff.2 hc5) ?_
            refine st_off (t := 31) (c := t29) rfl rfl (Bool.eq_false_iff.2 hc5) ?_
            refine st_off (t := 31) (c := t29) rfl rfl (Bool.eq_false_iff.2 hc5) ?_
            refine st_off (t := 31) (c := t29) rfl rfl (Bool.eq_false_iff.2 hc5) ?_
            refine st_val (ex_pick0 (b := t29) rfl (Bool.eq_false_iff.2 hc5) (v := (.bool false)) rfl) ?_
            refine st_val (ex_move (v := (.bool false)) rfl) ?_
            refine st_off (t := 38) (c := false) rfl rfl (rfl : false = !true) ?_
            refine st_off (t := 38) (c := false) rfl rfl (rfl : false = !true) ?_
            refine st_off (t := 38) (c := false) rfl rfl (rfl : false = !true) ?_
            refine st_off (t := 38) (c := false) rfl rfl (rfl : false = !true) ?_
            refine st_off (t := 38) (c := false) rfl rfl (rfl : false = !true) ?_
            refine st_val (ex_pick0 (b := false) rfl (rfl : false = false) (v := (.bool false)) rfl) ?_
            refine st_val (ex_move (v := (.bool false)) rfl) ?_
            refine st_off (t := 45) (c := false) rfl rfl (rfl : false = !true) ?_
            refine st_off (t := 45) (c := false) rfl rfl (rfl : false = !true) ?_
            refine st_off (t := 45) (c := false) rfl rfl (rfl : false = !true) ?_
            refine st_off (t := 45) (c := false) rfl rfl (rfl : false = !true) ?_
            refine st_off (t := 45) (c := false) rfl rfl (rfl : false = !true) ?_
            refine st_val (ex_pick0 (b := false) rfl (rfl : false = false) (v := (.bool false)) rfl) ?_
            refine st_val (ex_move (v := (.bool false)) rfl) ?_
            refine st_off (t := 52) (c := false) rfl rfl (rfl : false = !true) ?_
            refine st_off (t := 52) (c := false) rfl rfl (rfl : false = !true) ?_
            refine st_off (t := 52) (c := false) rfl rfl (rfl : false = !true) ?_
            refine st_off (t := 52) (c := false) rfl rfl (rfl : false = !true) ?_
            refine st_off (t := 52) (c := false) rfl rfl (rfl : false = !true) ?_
            refine st_val (ex_pick0 (b := false) rfl (rfl : false = false) (v := (.bool false)) rfl) ?_
            refine st_val (ex_assign (v := (.bool false)) rfl) ?_
            refine wl_nil ?_
            exact then_n ⟨false, _, rfl, mk_upds' (ae rfl ae0), h⟩
        · rw [if_neg hc4] at h
          refine st_off (t := 24) (c := t22) rfl rfl (Bool.eq_false_iff.2 hc4) ?_
          refine st_off (t := 24) (c := t22) rfl rfl (Bool.eq_false_iff.2 hc4) ?_
          refine st_off (t := 24) (c := t22) rfl rfl (Bool.eq_false_iff.2 hc4) ?_
          refine st_off (t := 24) (c := t22) rfl rfl (Bool.eq_false_iff.2 hc4) ?_
          refine st_off (t := 24) (c := t22) rfl rfl (Bool.eq_false_iff.2 hc4) ?_
          refine st_val (ex_pick0 (b := t22) rfl (Bool.eq_false_iff.2 hc4) (v := (.bool false)) rfl) ?_
          refine st_val (ex_move (v := (.bool false)) rfl) ?_
          refine st_off (t := 31) (c := false) rfl rfl (rfl : false = !true) ?_
          refine st_off (t := 31) (c := false) rfl rfl (rfl : false = !true) ?_
          refine st_off (t := 31) (c := false) rfl rfl (rfl : false = !true) ?_
          refine st_off (t := 31) (c := false) rfl rfl (rfl : false = !true) ?_
          refine st_off (t := 31) (c := false) rfl rfl (rfl : false = !true) ?_
          refine st_val (ex_pick0 (b := false) rfl (rfl : false = false) (v := (.bool false)) rfl) ?_
          refine st_val (ex_move (v := (.bool false)) rfl) ?_
          refine st_off (t := 38) (c := false) rfl rfl (rfl : false = !true) ?_
          refine st_off (t := 38) (c := false) rfl rfl (rfl : false = !true) ?_
          refine st_off (t := 38) (c := false) rfl rfl (rfl : false = !true) ?_
          refine st_off (t := 38) (c := false) rfl rfl (rfl : false = !true) ?_
          refine st_off (t := 38) (c := false) rfl rfl (rfl : false = !true) ?_
          refine st_val (ex_pick0 (b := false) rfl (rfl : false = false) (v := (.bool false)) rfl) ?_
          refine st_val (ex_move (v := (.bool false)) rfl) ?_
          refine st_off (t := 45) (c := false) rfl rfl (rfl : false = !true) ?_
          refine st_off (t := 45) (c := false) rfl rfl (rfl : false = !true) ?_
          refine st_off (t := 45) (c := false) rfl rfl (rfl : false = !true) ?_
          refine st_off (t := 45) (c := false) rfl rfl (rfl : false = !true) ?_
          refine st_off (t := 45) (c := false) rfl rfl (rfl : false = !true) ?_
          refine st_val (ex_pick0 (b := false) rfl (rfl : false = false) (v := (.bool false)) rfl) ?_
          refine st_val (ex_move (v := (.bool false)) rfl) ?_
          refine st_off (t := 52) (c := false) rfl rfl (rfl : false = !true) ?_
          refine st_off (t := 52) (c := false) rfl rfl (rfl : false = !true) ?_
          refine st_off (t := 52) (c := false) rfl rfl (rfl : false = !true) ?_
          refine st_off (t := 52) (c := false) rfl rfl (rfl : false = !true) ?_
          refine st_off (t := 52) (c := false) rfl rfl (rfl : false = !true) ?_
          refine st_val (ex_pick0 (b := false) rfl (rfl : false = false) (v := (.bool false)) rfl) ?_
          refine st_val (ex_assign (v := (.bool false)) rfl) ?_
          refine wl_nil ?_
          exact then_n ⟨false, _, rfl, mk_upds' (ae rfl ae0), h⟩
      · rw [if_neg hc3] at h
        refine st_off (t := 17) (c := (decide (t12 = t14))) rfl rfl (decide_eq_false hc3) ?_
        refine st_off (t := 17) (c := (decide (t12 = t14))) rfl rfl (decide_eq_false hc3) ?_
        refine st_off (t := 17) (c := (decide (t12 = t14))) rfl rfl (decide_eq_false hc3) ?_
        refine st_off (t := 17) (c := (decide (t12 = t14))) rfl rfl (decide_eq_false hc3) ?_
        refine st_off (t := 17) (c := (decide (t12 = t14))) rfl rfl (decide_eq_false hc3) ?_
        refine st_val (ex_pick0 (b := (decide (t12 = t14))) rfl (decide_eq_false hc3) (v := (.bool false)) rfl) ?_
        refine st_val (ex_move (v := (.bool false)) rfl) ?_
        refine st_off (t := 24) (c := false) rfl rfl (rfl : false = !true) ?_
        refine st_off (t := 24) (c := false) rfl rfl (rfl : false = !true) ?_
        refine st_off (t := 24) (c := false) rfl rfl (rfl : false = !true) ?_
        refine st_off (t := 24) (c := false) rfl rfl (rfl : false = !true) ?_
        refine st_off (t := 24) (c := false) rfl rfl (rfl : false = !true) ?_
        refine st_val (ex_pick0 (b := false) rfl (rfl : false = false) (v := (.bool false)) rfl) ?_
        refine st_val (ex_move (v := (.bool false)) rfl) ?_
        refine st_off (t := 31) (c := false) rfl rfl (rfl : false = !true) ?_
        refine st_off (t := 31) (c := false) rfl rfl (rfl : false = !true) ?_
        refine st_off (t := 31) (c := false) rfl rfl (rfl : false = !true) ?_
        refine st_off (t := 31) (c := false) rfl rfl (rfl : false = !true) ?_
        refine st_off (t := 31) (c := false) rfl rfl (rfl : false = !true) ?_
        refine st_val (ex_pick0 (b := false) rfl (rfl : false = false) (v := (.bool false)) rfl) ?_
        refine st_val (ex_move (v := (.bool false)) rfl) ?_
        refine st_off (t := 38) (c := false) rfl rfl (rfl : false = !true) ?_
        refine st_off (t := 38) (c := false) rfl rfl (rfl : false = !true) ?_
        refine st_off (t := 38) (c := false) rfl rfl (rfl : false = !true) ?_
        refine st_off (t := 38) (c := false) rfl rfl (rfl : false = !true) ?_
        refine st_off (t := 38) (c := false) rfl rfl (rfl : false = !true) ?_
        refine st_val (ex_pick0 (b := false) rfl (rfl : false = false) (v := (.bool false)) rfl) ?_
        refine st_val (ex_move (v := (.bool false)) rfl) ?_
        refine st_off (t := 45) (c := false) rfl rfl (rfl : false = !true) ?_
        refine st_off (t := 45) (c := false) rfl rfl (rfl : false = !true) ?_
        refine st_off (t := 45) (c := false) rfl rfl (rfl : false = !true) ?_
        refine st_off (t := 45) (c := false) rfl rfl (rfl : false = !true) ?_
        refine st_off (t := 45) (c := false) rfl rfl (rfl : false = !true) ?_
        refine st_val (ex_pick0 (b := false) rfl (rfl : false = false) (v := (.bool false)) rfl) ?_
        refine st_val (ex_move (v := (.bool false)) rfl) ?_
        refine st_off (t := 52) (c := false) rfl rfl (rfl : false = !true) ?_
        refine st_off (t := 52) (c := false) rfl rfl (rfl : false = !true) ?_
        refine st_off (t := 52) (c := false) rfl rfl (rfl : false = !true) ?_
        refine st_off (t := 52) (c := false) rfl rfl (rfl : false = !true) ?_
        refine st_off (t := 52) (c := false) rfl rfl (rfl : false = !true) ?_
        refine st_val (ex_pick0 (b := false) rfl (rfl : false = false) (v := (.bool false)) rfl) ?_
        refine st_val (ex_assign (v := (.bool false)) rfl) ?_
        refine wl_nil ?_
        exact then_n ⟨false, _, rfl, mk_upds' (ae rfl ae0), h⟩
    · rw [if_neg hc2] at h
      refine st_off (t := 10) (c := (decide (t6 = t8))) rfl rfl (decide_eq_false hc2) ?_
      refine st_off (t := 10) (c := (decide (t6 = t8))) rfl rfl (decide_eq_false hc2) ?_
      refine st_off (t := 10) (c := (decide (t6 = t8))) rfl rfl (decide_eq_false hc2) ?_
      refine st_off (t := 10) (c := (decide (t6 = t8))) rfl rfl (decide_eq_false hc2) ?_
      refine st_off (t := 10) (c := (decide (t6 = t8))) rfl rfl (decide_eq_false hc2) ?_
      refine st_val (ex_pick0 (b := (decide (t6 = t8))) rfl (decide_eq_false hc2) (v := (.bool false)) rfl) ?_
      refine st_val (ex_move (v := (.bool false)) rfl) ?_
      refine st_off (t := 17) (c := false) rfl rfl (rfl : false = !true) ?_
      refine st_off (t := 17) (c := false) rfl rfl (rfl : false = !true) ?_
      refine st_off (t := 17) (c := false) rfl rfl (rfl : false = !true) ?_
      refine st_off (t := 17) (c := false) rfl rfl (rfl : false = !true) ?_
      refine st_off (t := 17) (c := false) rfl rfl (rfl : false = !true) ?_
      refine st_val (ex_pick0 (b := false) rfl (rfl : false = false) (v := (.bool false)) rfl) ?_
      refine st_val (ex_move (v := (.bool false)) rfl) ?_
      refine st_off (t := 24) (c := false) rfl rfl (rfl : false = !true) ?_
      refine st_off (t := 24) (c := false) rfl rfl (rfl : false = !true) ?_
      refine st_off (t := 24) (c := false) rfl rfl (rfl : false = !true) ?_
      refine st_off (t := 24) (c := false) rfl rfl (rfl : false = !true) ?_
      refine st_off (t := 24) (c := false) rfl rfl (rfl : false = !true) ?_
      refine st_val (ex_pick0 (b := false) rfl (rfl : false = false) (v := (.bool false)) rfl) ?_
      refine st_val (ex_move (v := (.bool false)) rfl) ?_
      refine st_off (t := 31) (c := false) rfl rfl (rfl : false = !true) ?_
      refine st_off (t := 31) (c := false) rfl rfl (rfl : false = !true) ?_
      refine st_off (t := 31) (c := false) rfl rfl (rfl : false = !true) ?_
      refine st_off (t := 31) (c := false) rfl rfl (rfl : false = !true) ?_
      refine st_off (t := 31) (c := false) rfl rfl (rfl : false = !true) ?_
      refine st_val (ex_pick0 (b := false) rfl (rfl : false = false) (v := (.bool false)) rfl) ?_
      refine st_val (ex_move (v := (.bool false)) rfl) ?_
      refine st_off (t := 38) (c := false) rfl rfl (rfl : false = !true) ?_
      refine st_off (t := 38) (c := false) rfl rfl (rfl : false = !true) ?_
      refine st_off (t := 38) (c := false) rfl rfl (rfl : false = !true) ?_
      refine st_off (t := 38) (c := false) rfl rfl (rfl : false = !true) ?_
      refine st_off (t := 38) (c := false) rfl rfl (rfl : false = !true) ?_
      refine st_val (ex_pick0 (b := false) rfl (rfl : false = false) (v := (.bool false)) rfl) ?_
      refine st_val (ex_move (v := (.bool false)) rfl) ?_
      refine st_off (t := 45) (c := false) rfl rfl (rfl : false = !true) ?_
      refine st_off (t := 45) (c := false) rfl rfl (rfl : false = !true) ?_
      refine st_off (t := 45) (c := false) rfl rfl (rfl : false = !true) ?_
      refine st_off (t := 45) (c := false) rfl rfl (rfl : false = !true) ?_
      refine st_off (t := 45) (c := false) rfl rfl (rfl : false = !true) ?_
      refine st_val (ex_pick0 (b := false) rfl (rfl : false = false) (v := (.bool false)) rfl) ?_
      refine st_val (ex_move (v := (.bool false)) rfl) ?_
      refine st_off (t := 52) (c := false) rfl rfl (rfl : false = !true) ?_
      refine st_off (t := 52) (c := false) rfl rfl (rfl : false = !true) ?_
      refine st_off (t := 52) (c := false) rfl rfl (rfl : false = !true) ?_
      refine st_off (t := 52) (c := false) rfl rfl (rfl : false = !true) ?_
      refine st_off (t := 52) (c := false) rfl rfl (rfl : false = !true) ?_
      refine st_val (ex_pick0 (b := false) rfl (rfl : false = false) (v := (.bool false)) rfl) ?_
      refine st_val (ex_assign (v := (.bool false)) rfl) ?_
      refine wl_nil ?_
      exact then_n ⟨false, _, rfl, mk_upds' (ae rfl ae0), h⟩

/-- turnpike/check.of; slots 0:r, 1:r -/
def f63 (t0 : TResource) (R : (TKey) → World → Prop) (w : World) : Prop :=
  New 48 (TResource.cells t0) w fun b1 w =>
  New 113 (TKey.cells (⟨0, ⟨#[]⟩⟩ : TKey)) w fun b2 w =>
  Rn Try.prog (Value.int .i64) (Instr.loadAt 3 (Ptr ((⟨b1, 0, none⟩ : Addr).add 0))) w fun t4 w =>
  Rn Try.prog Value.string (Instr.loadAt 9 (Ptr ((⟨b1, 0, none⟩ : Addr).add 1))) w fun t6 w =>
  RnU Try.prog (Instr.storeAt 113 (Ptr (⟨b2, 0, none⟩ : Addr)) (TKey.v (⟨t4, t6⟩ : TKey))) w fun w =>
  RnR Try.prog TKey.v (loadVar 113 (⟨b2, 0, none⟩ : Addr)) w fun r0 =>
  R r0 w
theorem c63 {t0 : TResource} {R : (TKey) → World → Prop} {w : World} (h : f63 t0 R w) :
    Cal Try.prog TKey.v 63 #[(TResource.v t0)] w R := by
  unfold f63 at h
  refine calls_ Try.func63 Try.ntmps63 rfl rfl ?_
  refine seq_ ?_
  refine region_ ?_
  refine st_new (f := (fun b => Ptr ⟨b, 0, none⟩)) (ex_boxN rfl rfl) h ?_; clear h; intro b1 w h
  refine st_new (f := (fun b => Ptr ⟨b, 0, none⟩)) (ex_allocN zero113 rfl) h ?_; clear h; intro b2 w h
  refine wl_nil ?_
  refine then_n ?_
  refine seq_ ?_
  refine region_ ?_
  refine st_val (ex_fa fa48_0 (p := (⟨b1, 0, none⟩ : Addr)) rfl) ?_
  refine st_rn (fun r => ex_load rfl r) h ?_; clear h; intro t4 w h
  refine st_val (ex_fa fa48_1 (p := (⟨b1, 0, none⟩ : Addr)) rfl) ?_
  refine st_rn (fun r => ex_load rfl r) h ?_; clear h; intro t6 w h
  refine st_val (ex_build (a' := [(0, (.int .i64 t4)), (1, (.string t6))]) (v := TKey.v (⟨t4, t6⟩ : TKey)) rfl (e_build Try.underlying113 zero113 rfl pl113 rfl _)) ?_
  refine st_rnu (fun r => ex_store rfl rfl r) h ?_; clear h; intro w h
  refine wl_nil ?_
  refine then_n ?_
  refine wp_ret ?_
  obtain ⟨r0, hr0, h⟩ := h
  refine ret_c rfl rfl hr0 ⟨r0, rfl, h⟩

/-- turnpike/turnpikeref14.Out; slots 0:conf, 1:conf, 3:i -/
def f65 (t0 : Sl) (R : (Int) → World → Prop) (w : World) : Prop :=
  Lp (σ := Int) (fun s1 w n1 =>
    if s1 < (t0.n : Int) then
      Jn (σ := Bool) (fun k3 =>
        Dr w fun w4 w =>
          RnP Try.prog Ptr (Instr.indexAt 22 (Sl.v t0) (.int .i64 s1)) fun t12 =>
          RnL Try.prog (Value.int .i64) (Instr.loadAt 3 (Ptr (t12.add 0))) w4 fun t14 =>
          if t14 < 1 then
            k3 true w
          else
            RnP Try.prog Ptr (Instr.indexAt 22 (Sl.v t0) (.int .i64 s1)) fun t19 =>
            RnL Try.prog (Value.int .i64) (Instr.loadAt 3 (Ptr (t19.add 0))) w4 fun t21 =>
            if 4 < t21 then
              k3 true w
            else
              RnP Try.prog Ptr (Instr.indexAt 22 (Sl.v t0) (.int .i64 s1)) fun t27 =>
              RnL Try.prog Value.bool (Instr.loadAt 4 (Ptr (t27.add 7))) w4 fun t29 =>
              if t29 = true then
                k3 true w
              else
                if 0 < s1 then
                  RnP Try.prog Ptr (Instr.indexAt 22 (Sl.v t0) (.int .i64 (IntKind.i64.wrap (s1 - 1)))) fun t38 =>
                  RnL Try.prog TResource.v (Instr.loadAt 48 (Ptr t38)) w4 fun t39 =>
                  RnP Try.prog Ptr (Instr.indexAt 22 (Sl.v t0) (.int .i64 s1)) fun t42 =>
                  RnL Try.prog TResource.v (Instr.loadAt 48 (Ptr t42)) w4 fun t43 =>
                  Cal Try.prog Value.bool 47 #[(TResource.v t39), (TResource.v t43)] w (ExtK w fun t44 w =>
                    k3 (!t44) w
                  )
                else
                  k3 false w
      ) fun s3 w =>
        if s3 = true then
          R s1 w
        else
          n1 (IntKind.i64.wrap (s1 + 1)) w
    else
      R (-1) w
  ) 0 w
theorem c65 {t0 : Sl} {R : (Int) → World → Prop} {w : World} (h : f65 t0 R w) :
    Cal Try.prog (Value.int .i64) 65 #[(Sl.v t0)] w R := by
  unfold f65 at h
  refine calls_ Try.func65 Try.ntmps65 rfl rfl ?_
  refine seq_ ?_
  refine region_ ?_
  refine st_val (ex_assign (v := (.int .i64 0)) rfl) ?_
  refine wl_nil ?_
  refine then_n ?_
  refine seq_ ?_
  refine seq_ ?_
  refine region_ ?_
  refine st_val (ex_assign (v := (.int .i64 0)) rfl) ?_
  refine wl_nil ?_
  refine then_n ?_
  refine wp_block ?_
  refine wp_lp (σ := Int) (fun s1 a => ∃ j, a = F 49 (upds j [(0, (Sl.v t0)), (3, (.int .i64 s1))])) h (mk_upds (ae rfl (ae rfl ae0))) ?_
  clear h; rintro s1 _ w n1 ⟨j, rfl⟩ h
  refine seq_ ?_
  refine seq_ ?_
  refine region_ ?_
  refine st_val (ex_move (v := (.int .i64 s1)) rfl) ?_
  refine st_val (ex_move (v := (Sl.v t0)) rfl) ?_
  refine st_val (ex_len (s := t0) Try.underlying22 rfl) ?_
  refine st_val (ex_lss (a := s1) (b := (t0.n : Int)) rfl rfl) ?_
  refine wl_nil ?_
  refine then_n ?_
  by_cases hc2 : s1 < (t0.n : Int)
  · rw [if_pos hc2] at h; refine cond_1 (b := (decide (s1 < (t0.n : Int)))) rfl (decide_eq_true hc2) ?_
    refine wp_skip ?_
    refine then_n ?_
    refine seq_ ?_
    refine wp_block ?_
    refine wp_jn (σ := Bool) (fun s3 l => ∃ j, l = upds j [(0, (Sl.v t0)), (3, (.int .i64 s1)), (47, (.bool s3))]) h ?_ ?_
    · clear h; rintro s3 _ w ⟨j, rfl⟩ h
      by_cases hc9 : s3 = true
      · rw [if_pos hc9] at h; refine cond_1 (b := s3) rfl hc9 ?_
        refine seq_ ?_
        refine region_ ?_
        refine st_val (ex_move (v := (.int .i64 s1)) rfl) ?_
        refine st_val (ex_assign (v := (.int .i64 s1)) rfl) ?_
        refine wl_nil ?_
        refine then_n ?_
        refine wp_ret ?_
        refine inb_r ?_
        refine then_r ?_
        refine then_r ?_
        refine inb_r ?_
        refine then_r ?_
        refine ret_1 rfl rfl ⟨s1, rfl, h⟩
      · rw [if_neg hc9] at h; refine cond_0 (b := s3) rfl (Bool.eq_false_iff.2 hc9) ?_
        refine wp_skip ?_
        refine inb_n ?_
        refine then_n ?_
        refine region_ ?_
        refine st_val (ex_move (v := (.int .i64 s1)) rfl) ?_
        refine st_val (ex_add (a := s1) (b := 1) rfl rfl) ?_
        refine st_val (ex_assign (v := (.int .i64 (IntKind.i64.wrap (s1 + 1)))) rfl) ?_
        refine wl_nil ?_
        exact then_n ⟨(IntKind.i64.wrap (s1 + 1)), mk_upds (ae rfl (ae rfl ae0)), h⟩
    · clear h; intro k3 h
      refine dr_begin mixed [] (listed := #[false, false, false, false, false, false, false, false, false, false, false, false, false, false, false, false, false, false, false, false, false, false, false, false, false, false, false, false, false, false, false, false, false, false, false, false, false, false]) rfl (n := 38) rfl h ?_; clear h; intro w4 h
      have hE : Ext w4 w4 := Ext.refl _
      refine dr_takeP (i := 0) (by kernel_rfl) rfl (fun _ _ _ h => h) (fun _ => hE) (fun _ => ex_move (v := (Sl.v t0)) rfl) ?_
      refine dr_takeP (i := 1) (by kernel_rfl) rfl (fun _ _ _ h => h) (fun _ => hE) (fun _ => ex_move (v := (.int .i64 s1)) rfl) ?_
      obtain ⟨t12, ht12, h⟩ := h
      refine dr_takeP (i := 2) (by kernel_rfl) rfl (fun _ _ _ h => h) (fun _ => hE) (fun _ => (fun r => ex_indexAddr rfl rfl r) (ht12 _)) ?_
      refine dr_takeP (i := 3) (by kernel_rfl) rfl (fun _ _ _ h => h) (fun _ => hE) (fun _ => ex_fa fa48_0 (p := t12) rfl) ?_
      obtain ⟨t14, ht14, h⟩ := h
      refine dr_take (i := 4) (by kernel_rfl) rfl (fun _ _ _ h => h) hE (fun _ hw => (fun r => ex_load rfl r) (ht14 _ hw)) ?_
      refine dr_takeP (i := 5) (by kernel_rfl) rfl (fun _ _ _ h => h) (fun _ => hE) (fun _ => ex_lss (a := t14) (b := 1) rfl rfl) ?_
      refine dr_takeP (i := 6) (by kernel_rfl) rfl (fun _ _ _ h => h) (fun _ => hE) (fun _ => ex_move (v := (.bool (decide (t14 < 1)))) rfl) ?_
      by_cases hc5 : t14 < 1
      · rw [if_pos hc5] at h
        refine dr_take_off (i := 7) (t := 16) (c := (decide (t14 < 1))) (by kernel_rfl) rfl rfl rfl (decide_eq_true hc5) (fun _ _ _ h => h) (fun _ => hE) ?_
        refine dr_take_off (i := 8) (t := 16) (c := (decide (t14 < 1))) (by kernel_rfl) rfl rfl rfl (decide_eq_true hc5) (fun _ _ _ h => h) (fun _ => hE) ?_
        refine dr_take_off (i := 9) (t := 16) (c := (decide (t14 < 1))) (by kernel_rfl) rfl rfl rfl (decide_eq_true hc5) (fun _ _ _ h => h) (fun _ => hE) ?_
        refine dr_take_off (i := 10) (t := 16) (c := (decide (t14 < 1))) (by kernel_rfl) rfl rfl rfl (decide_eq_true hc5) (fun _ _ _ h => h) (fun _ => hE) ?_
        refine dr_take_off (i := 11) (t := 16) (c := (decide (t14 < 1))) (by kernel_rfl) rfl rfl rfl (decide_eq_true hc5) (fun _ _ _ h => h) (fun _ => hE) ?_
        refine dr_take_off (i := 12) (t := 16) (c := (decide (t14 < 1))) (by kernel_rfl) rfl rfl rfl (decide_eq_true hc5) (fun _ _ _ h => h) (fun _ => hE) ?_
        refine dr_takeP (i := 13) (by kernel_rfl) rfl (fun _ _ _ h => h) (fun _ => hE) (fun _ => ex_pick1 (b := (decide (t14 < 1))) rfl (decide_eq_true hc5) (v := (.bool true)) rfl) ?_
        refine dr_takeP (i := 14) (by kernel_rfl) rfl (fun _ _ _ h => h) (fun _ => hE) (fun _ => ex_move (v := (.bool true)) rfl) ?_
        refine dr_take_off (i := 15) (t := 24) (c := true) (by kernel_rfl) rfl rfl rfl (rfl : true = !false) (fun _ _ _ h => h) (fun _ => hE) ?_
        refine dr_take_off (i := 16) (t := 24) (c := true) (by kernel_rfl) rfl rfl rfl (rfl : true = !false) (fun _ _ _ h => h) (fun _ => hE) ?_
        refine dr_take_off (i := 17) (t := 24) (c := true) (by kernel_rfl) rfl rfl rfl (rfl : true = !false) (fun _ _ _ h => h) (fun _ => hE) ?_
        refine dr_take_off (i := 18) (t := 24) (c := true) (by kernel_rfl) rfl rfl rfl (rfl : true = !false) (fun _ _ _ h => h) (fun _ => hE) ?_
        refine dr_take_off (i := 19) (t := 24) (c := true) (by kernel_rfl) rfl rfl rfl (rfl : true = !false) (fun _ _ _ h => h) (fun _ => hE) ?_
        refine dr_takeP (i := 20) (by kernel_rfl) rfl (fun _ _ _ h => h) (fun _ => hE) (fun _ => ex_pick1 (b := true) rfl (rfl : true = true) (v := (.bool true)) rfl) ?_
        refine dr_takeP (i := 21) (by kernel_rfl) rfl (fun _ _ _ h => h) (fun _ => hE) (fun _ => ex_move (v := (.bool true)) rfl) ?_
        refine dr_take_off (i := 22) (t := 31) (c := true) (by kernel_rfl) rfl rfl rfl (rfl : true = !false) (fun _ _ _ h => h) (fun _ => hE) ?_
        refine dr_take_off (i := 23) (t := 31) (c := true) (by kernel_rfl) rfl rfl rfl (rfl : true = !false) (fun _ _ _ h => h) (fun _ => hE) ?_
        refine dr_take_off (i := 24) (t := 31) (c := true) (by kernel_rfl) rfl rfl rfl (rfl : true = !false) (fun _ _ _ h => h) (fun _ => hE) ?_
        refine dr_take_offu (i := 25) (t := 34) (by kernel_rfl) rfl rfl rfl (fun _ _ _ h => h) (fun _ => hE) ?_
        refine dr_take_offu (i := 26) (t := 34) (by kernel_rfl) rfl rfl rfl (fun _ _ _ h => h) (fun _ => hE) ?_
        refine dr_take_offu (i := 27) (t := 34) (by kernel_rfl) rfl rfl rfl (fun _ _ _ h => h) (fun _ => hE) ?_
        refine dr_take_offu (i := 28) (t := 34) (by kernel_rfl) rfl rfl rfl (fun _ _ _ h => h) (fun _ => hE) ?_
        refine dr_take_offu (i := 29) (t := 34) (by kernel_rfl) rfl rfl rfl (fun _ _ _ h => h) (fun _ => hE) ?_
        refine dr_take_offu (i := 30) (t := 34) (by kernel_rfl) rfl rfl rfl (fun _ _ _ h => h) (fun _ => hE) ?_
        refine dr_take_offu (i := 31) (t := 34) (by kernel_rfl) rfl rfl rfl (fun _ _ _ h => h) (fun _ => hE) ?_
        refine dr_take_offu (i := 32) (t := 34) (by kernel_rfl) rfl rfl rfl (fun _ _ _ h => h) (fun _ => hE) ?_
        refine dr_take_offu (i := 33) (t := 34) (by kernel_rfl) rfl rfl rfl (fun _ _ _ h => h) (fun _ => hE) ?_
        refine dr_take_offu (i := 34) (t := 34) (by kernel_rfl) rfl rfl rfl (fun _ _ _ h => h) (fun _ => hE) ?_
        refine dr_take_offu (i := 35) (t := 34) (by kernel_rfl) rfl rfl rfl (fun _ _ _ h => h) (fun _ => hE) ?_
        refine dr_take_off (i := 36) (t := 31) (c := true) (by kernel_rfl) rfl rfl rfl (rfl : true = !false) (fun _ _ _ h => h) (fun _ => hE) ?_
        refine dr_takeP (i := 37) (by kernel_rfl) rfl (fun _ _ _ h => h) (fun _ => hE) (fun _ => ex_pick1 (b := true) rfl (rfl : true = true) (v := (.bool true)) rfl) ?_
        refine dr_end (by kernel_rfl) ?_
        exact then_n ⟨true, _, rfl, mk_upds' (ae rfl (ae rfl (ae rfl ae0))), h⟩
      · rw [if_neg hc5] at h
        refine dr_takeP_on (i := 7) (t := 16) (c := (decide (t14 < 1))) (by kernel_rfl) rfl rfl rfl (decide_eq_false hc5) (fun _ _ _ h => h) (fun _ => hE) (fun _ => ex_move (v := (Sl.v t0)) rfl) ?_
        refine dr_takeP_on (i := 8) (t := 16) (c := (decide (t14 < 1))) (by kernel_rfl) rfl rfl rfl (decide_eq_false hc5) (fun _ _ _ h => h) (fun _ => hE) (fun _ => ex_move (v := (.int .i64 s1)) rfl) ?_
        obtain ⟨t19, ht19, h⟩ := h
        refine dr_takeP_on (i := 9) (t := 16) (c := (decide (t14 < 1))) (by kernel_rfl) rfl rfl rfl (decide_eq_false hc5) (fun _ _ _ h => h) (fun _ => hE) (fun _ => (fun r => ex_indexAddr rfl rfl r) (ht19 _)) ?_
        refine dr_takeP_on (i := 10) (t := 16) (c := (decide (t14 < 1))) (by kernel_rfl) rfl rfl rfl (decide_eq_false hc5) (fun _ _ _ h => h) (fun _ => hE) (fun _ => ex_fa fa48_0 (p := t19) rfl) ?_
        obtain ⟨t21, ht21, h⟩ := h
        refine dr_take_on (i := 11) (t := 16) (c := (decide (t14 < 1))) (by kernel_rfl) rfl rfl rfl (decide_eq_false hc5) (fun _ _ _ h => h) hE (fun _ hw => (fun r => ex_load rfl r) (ht21 _ hw)) ?_
        refine dr_takeP_on (i := 12) (t := 16) (c := (decide (t14 < 1))) (by kernel_rfl) rfl rfl rfl (decide_eq_false hc5) (fun _ _ _ h => h) (fun _ => hE) (fun _ => ex_gtr (a := t21) (b := 4) rfl rfl) ?_
        refine dr_takeP (i := 13) (by kernel_rfl) rfl (fun _ _ _ h => h) (fun _ => hE) (fun _ => ex_pick0 (b := (decide (t14 < 1))) rfl (decide_eq_false hc5) (v := (.bool (decide (4 < t21)))) rfl) ?_
        refine dr_takeP (i := 14) (by kernel_rfl) rfl (fun _ _ _ h => h) (fun _ => hE) (fun _ => ex_move (v := (.bool (decide (4 < t21)))) rfl) ?_
        by_cases hc6 : 4 < t21
        · rw [if_pos hc6] at h
          refine dr_take_off (i := 15) (t := 24) (c := (decide (4 < t21))) (by kernel_rfl) rfl rfl rfl (decide_eq_true hc6) (fun _ _ _ h => h) (fun _ => hE) ?_
          refine dr_take_off (i := 16) (t := 24) (c := (decide (4 < t21))) (by kernel_rfl) rfl rfl rfl (decide_eq_true hc6) (fun _ _ _ h => h) (fun _ => hE) ?_
          refine dr_take_off (i := 17) (t := 24) (c := (decide (4 < t21))) (by kernel_rfl) rfl rfl rfl (decide_eq_true hc6) (fun _ _ _ h => h) (fun _ => hE) ?_
          refine dr_take_off (i := 18) (t := 24) (c := (decide (4 < t21))) (by kernel_rfl) rfl rfl rfl (decide_eq_true hc6) (fun _ _ _ h => h) (fun _ => hE) ?_
          refine dr_take_off (i := 19) (t := 24) (c := (decide (4 < t21))) (by kernel_rfl) rfl rfl rfl (decide_eq_true hc6) (fun _ _ _ h => h) (fun _ => hE) ?_
          refine dr_takeP (i := 20) (by kernel_rfl) rfl (fun _ _ _ h => h) (fun _ => hE) (fun _ => ex_pick1 (b := (decide (4 < t21))) rfl (decide_eq_true hc6) (v := (.bool true)) rfl) ?_
          refine dr_takeP (i := 21) (by kernel_rfl) rfl (fun _ _ _ h => h) (fun _ => hE) (fun _ => ex_move (v := (.bool true)) rfl) ?_
          refine dr_take_off (i := 22) (t := 31) (c := true) (by kernel_rfl) rfl rfl rfl (rfl : true = !false) (fun _ _ _ h => h) (fun _ => hE) ?_
          refine dr_take_off (i := 23) (t := 31) (c := true) (by kernel_rfl) rfl rfl rfl (rfl : true = !false) (fun _ _ _ h => h) (fun _ => hE) ?_
          refine dr_take_off (i := 24) (t := 31) (c := true) (by kernel_rfl) rfl rfl rfl (rfl : true = !false) (fun _ _ _ h => h) (fun _ => hE) ?_
          refine dr_take_offu (i := 25) (t := 34) (by kernel_rfl) rfl rfl rfl (fun _ _ _ h => h) (fun _ => hE) ?_
          refine dr_take_offu (i := 26) (t := 34) (by kernel_rfl) rfl rfl rfl (fun _ _ _ h => h) (fun _ => hE) ?_
          refine dr_take_offu (i := 27) (t := 34) (by kernel_rfl) rfl rfl rfl (fun _ _ _ h => h) (fun _ => hE) ?_
          refine dr_take_offu (i := 28) (t := 34) (by kernel_rfl) rfl rfl rfl (fun _ _ _ h => h) (fun _ => hE) ?_
          refine dr_take_offu (i := 29) (t := 34) (by kernel_rfl) rfl rfl rfl (fun _ _ _ h => h) (fun _ => hE) ?_
          refine dr_take_offu (i := 30) (t := 34) (by kernel_rfl) rfl rfl rfl (fun _ _ _ h => h) (fun _ => hE) ?_
          refine dr_take_offu (i := 31) (t := 34) (by kernel_rfl) rfl rfl rfl (fun _ _ _ h => h) (fun _ => hE) ?_
          refine dr_take_offu (i := 32) (t := 34) (by kernel_rfl) rfl rfl rfl (fun _ _ _ h => h) (fun _ => hE) ?_
          refine dr_take_offu (i := 33) (t := 34) (by kernel_rfl) rfl rfl rfl (fun _ _ _ h => h) (fun _ => hE) ?_
          refine dr_take_offu (i := 34) (t := 34) (by kernel_rfl) rfl rfl rfl (fun _ _ _ h => h) (fun _ => hE) ?_
          refine dr_take_offu (i := 35) (t := 34) (by kernel_rfl) rfl rfl rfl (fun _ _ _ h => h) (fun _ => hE) ?_
          refine dr_take_off (i := 36) (t := 31) (c := true) (by kernel_rfl) rfl rfl rfl (rfl : true = !false) (fun _ _ _ h => h) (fun _ => hE) ?_
          refine dr_takeP (i := 37) (by kernel_rfl) rfl (fun _ _ _ h => h) (fun _ => hE) (fun _ => ex_pick1 (b := true) rfl (rfl : true = true) (v := (.bool true)) rfl) ?_
          refine dr_end (by kernel_rfl) ?_
          exact then_n ⟨true, _, rfl, mk_upds' (ae rfl (ae rfl (ae rfl ae0))), h⟩
        · rw [if_neg hc6] at h
          refine dr_takeP_on (i := 15) (t := 24) (c := (decide (4 < t21))) (by kernel_rfl) rfl rfl rfl (decide_eq_false hc6) (fun _ _ _ h => h) (fun _ => hE) (fun _ => ex_move (v := (Sl.v t0)) rfl) ?_
          refine dr_takeP_on (i := 16) (t := 24) (c := (decide (4 < t21))) (by kernel_rfl) rfl rfl rfl (decide_eq_false hc6) (fun _ _ _ h => h) (fun _ => hE) (fun _ => ex_move (v := (.int .i64 s1)) rfl) ?_
          obtain ⟨t27, ht27, h⟩ := h
          refine dr_takeP_on (i := 17) (t := 24) (c := (decide (4 < t21))) (by kernel_rfl) rfl rfl rfl (decide_eq_false hc6) (fun _ _ _ h => h) (fun _ => hE) (fun _ => (fun r => ex_indexAddr rfl rfl r) (ht27 _)) ?_
          refine dr_takeP_on (i := 18) (t := 24) (c := (decide (4 < t21))) (by kernel_rfl) rfl rfl rfl (decide_eq_false hc6) (fun _ _ _ h => h) (fun _ => hE) (fun _ => ex_fa fa48_7 (p := t27) rfl) ?_
          obtain ⟨t29, ht29, h⟩ := h
          refine dr_take_on (i := 19) (t := 24) (c := (decide (4 < t21))) (by kernel_rfl) rfl rfl rfl (decide_eq_false hc6) (fun _ _ _ h => h) hE (fun _ hw => (fun r => ex_load rfl r) (ht29 _ hw)) ?_
          refine dr_takeP (i := 20) (by kernel_rfl) rfl (fun _ _ _ h => h) (fun _ => hE) (fun _ => ex_pick0 (b := (decide (4 < t21))) rfl (decide_eq_false hc6) (v := (.bool t29)) rfl) ?_
          refine dr_takeP (i := 21) (by kernel_rfl) rfl (fun _ _ _ h => h) (fun _ => hE) (fun _ => ex_move (v := (.bool t29)) rfl) ?_
          by_cases hc7 : t29 = true
          · rw [if_pos hc7] at h
            refine dr_take_off (i := 22) (t := 31) (c := t29) (by kernel_rfl) rfl rfl rfl hc7 (fun _ _ _ h => h) (fun _ => hE) ?_
            refine dr_take_off (i := 23) (t := 31) (c := t29) (by kernel_rfl) rfl rfl rfl hc7 (fun _ _ _ h => h) (fun _ => hE) ?_
            refine dr_take_off (i := 24) (t := 31) (c := t29) (by kernel_rfl) rfl rfl rfl hc7 (fun _ _ _ h => h) (fun _ => hE) ?_
            refine dr_take_offu (i := 25) (t := 34) (by kernel_rfl) rfl rfl rfl (fun _ _ _ h => h) (fun _ => hE) ?_
            refine dr_take_offu (i := 26) (t := 34) (by kernel_rfl) rfl rfl rfl (fun _ _ _ h => h) (fun _ => hE) ?_
            refine dr_take_offu (i := 27) (t := 34) (by kernel_rfl) rfl rfl rfl (fun _ _ _ h => h) (fun _ => hE) ?_
            refine dr_take_offu (i := 28) (t := 34) (by kernel_rfl) rfl rfl rfl (fun _ _ _ h => h) (fun _ => hE) ?_
            refine dr_take_offu (i := 29) (t := 34) (by kernel_rfl) rfl rfl rfl (fun _ _ _ h => h) (fun _ => hE) ?_
            refine dr_take_offu (i := 30) (t := 34) (by kernel_rfl) rfl rfl rfl (fun _ _ _ h => h) (fun _ => hE) ?_
            refine dr_take_offu (i := 31) (t := 34) (by kernel_rfl) rfl rfl rfl (fun _ _ _ h => h) (fun _ => hE) ?_
            refine dr_take_offu (i := 32) (t := 34) (by kernel_rfl) rfl rfl rfl (fun _ _ _ h => h) (fun _ => hE) ?_
            refine dr_take_offu (i := 33) (t := 34) (by kernel_rfl) rfl rfl rfl (fun _ _ _ h => h) (fun _ => hE) ?_
            refine dr_take_offu (i := 34) (t := 34) (by kernel_rfl) rfl rfl rfl (fun _ _ _ h => h) (fun _ => hE) ?_
            refine dr_take_offu (i := 35) (t := 34) (by kernel_rfl) rfl rfl rfl (fun _ _ _ h => h) (fun _ => hE) ?_
            refine dr_take_off (i := 36) (t := 31) (c := t29) (by kernel_rfl) rfl rfl rfl hc7 (fun _ _ _ h => h) (fun _ => hE) ?_
            refine dr_takeP (i := 37) (by kernel_rfl) rfl (fun _ _ _ h => h) (fun _ => hE) (fun _ => ex_pick1 (b := t29) rfl hc7 (v := (.bool true)) rfl) ?_
            refine dr_end (by kernel_rfl) ?_
            exact then_n ⟨true, _, rfl, mk_upds' (ae rfl (ae rfl (ae rfl ae0))), h⟩
          · rw [if_neg hc7] at h
            refine dr_takeP_on (i := 22) (t := 31) (c := t29) (by kernel_rfl) rfl rfl rfl (Bool.eq_false_iff.2 hc7) (fun _ _ _ h => h) (fun _ => hE) (fun _ => ex_move (v := (.int .i64 s1)) rfl) ?_
            refine dr_takeP_on (i := 23) (t := 31) (c := t29) (by kernel_rfl) rfl rfl rfl (Bool.eq_false_iff.2 hc7) (fun _ _ _ h => h) (fun _ => hE) (fun _ => ex_gtr (a := s1) (b := 0) rfl rfl) ?_
            refine dr_takeP_on (i := 24) (t := 31) (c := t29) (by kernel_rfl) rfl rfl rfl (Bool.eq_false_iff.2 hc7) (fun _ _ _ h => h) (fun _ => hE) (fun _ => ex_move (v := (.bool (decide (0 < s1)))) rfl) ?_
            by_cases hc8 : 0 < s1
            · rw [if_pos hc8] at h
              refine dr_takeP_on (i := 25) (t := 34) (c := (decide (0 < s1))) (by kernel_rfl) rfl rfl rfl (decide_eq_true hc8) (fun _ _ _ h => h) (fun _ => hE) (fun _ => ex_move (v := (Sl.v t0)) rfl) ?_
              refine dr_takeP_on (i := 26) (t := 34) (c := (decide (0 < s1))) (by kernel_rfl) rfl rfl rfl (decide_eq_true hc8) (fun _ _ _ h => h) (fun _ => hE) (fun _ => ex_move (v := (.int .i64 s1)) rfl) ?_
              refine dr_takeP_on (i := 27) (t := 34) (c := (decide (0 < s1))) (by kernel_rfl) rfl rfl rfl (decide_eq_true hc8) (fun _ _ _ h => h) (fun _ => hE) (fun _ => ex_sub (a := s1) (b := 1) rfl rfl) ?_
              obtain ⟨t38, ht38, h⟩ := h
              refine dr_takeP_on (i := 28) (t := 34) (c := (decide (0 < s1))) (by kernel_rfl) rfl rfl rfl (decide_eq_true hc8) (fun _ _ _ h => h) (fun _ => hE) (fun _ => (fun r => ex_indexAddr rfl rfl r) (ht38 _)) ?_
              obtain ⟨t39, ht39, h⟩ := h
              refine dr_take_on (i := 29) (t := 34) (c := (decide (0 < s1))) (by kernel_rfl) rfl rfl rfl (decide_eq_true hc8) (fun _ _ _ h => h) hE (fun _ hw => (fun r => ex_load rfl r) (ht39 _ hw)) ?_
              refine dr_takeP_on (i := 30) (t := 34) (c := (decide (0 < s1))) (by kernel_rfl) rfl rfl rfl (decide_eq_true hc8) (fun _ _ _ h => h) (fun _ => hE) (fun _ => ex_move (v := (Sl.v t0)) rfl) ?_
              refine dr_takeP_on (i := 31) (t := 34) (c := (decide (0 < s1))) (by kernel_rfl) rfl rfl rfl (decide_eq_true hc8) (fun _ _ _ h => h) (fun _ => hE) (fun _ => ex_move (v := (.int .i64 s1)) rfl) ?_
              obtain ⟨t42, ht42, h⟩ := h
              refine dr_takeP_on (i := 32) (t := 34) (c := (decide (0 < s1))) (by kernel_rfl) rfl rfl rfl (decide_eq_true hc8) (fun _ _ _ h => h) (fun _ => hE) (fun _ => (fun r => ex_indexAddr rfl rfl r) (ht42 _)) ?_
              obtain ⟨t43, ht43, h⟩ := h
              refine dr_take_on (i := 33) (t := 34) (c := (decide (0 < s1))) (by kernel_rfl) rfl rfl rfl (decide_eq_true hc8) (fun _ _ _ h => h) hE (fun _ hw => (fun r => ex_load rfl r) (ht43 _ hw)) ?_
              refine dr_only_on (i := 34) (t := 34) (c := (decide (0 < s1))) (by kernel_rfl) rfl rfl rfl (decide_eq_true hc8) ?_
              refine o_cal en47 rfl h ?_; clear h; intro t44 w h; obtain ⟨hx, h⟩ := h; replace hE := hE.trans hx; clear hx; refine ⟨fun _ => hE, ?_⟩
              refine dr_takeP_on (i := 35) (t := 34) (c := (decide (0 < s1))) (by kernel_rfl) rfl rfl rfl (decide_eq_true hc8) (fun _ _ _ h => h) (fun _ => hE) (fun _ => ex_not (b := t44) rfl) ?_
              refine dr_takeP_on (i := 36) (t := 31) (c := t29) (by kernel_rfl) rfl rfl rfl (Bool.eq_false_iff.2 hc7) (fun _ _ _ h => h) (fun _ => hE) (fun _ => ex_pick1 (b := (decide (0 < s1))) rfl (decide_eq_true hc8) (v := (.bool (!t44))) rfl) ?_
              refine dr_takeP (i := 37) (by kernel_rfl) rfl (fun _ _ _ h => h) (fun _ => hE) (fun _ => ex_pick0 (b := t29) rfl (Bool.eq_false_iff.2 hc7) (v := (.bool (!t44))) rfl) ?_
              refine dr_end (by kernel_rfl) ?_
              exact then_n ⟨(!t44), _, rfl, mk_upds' (ae rfl (ae rfl (ae rfl ae0))), h⟩
            · rw [if_neg hc8] at h
              refine dr_take_off (i := 25) (t := 34) (c := (decide (0 < s1))) (by kernel_rfl) rfl rfl rfl (decide_eq_false hc8) (fun _ _ _ h => h) (fun _ => hE) ?_
              refine dr_take_off (i := 26) (t := 34) (c := (decide (0 < s1))) (by kernel_rfl) rfl rfl rfl (decide_eq_false hc8) (fun _ _ _ h => h) (fun _ => hE) ?_
              refine dr_take_off (i := 27) (t := 34) (c := (decide (0 < s1))) (by kernel_rfl) rfl rfl rfl (decide_eq_false hc8) (fun _ _ _ h => h) (fun _ => hE) ?_
              refine dr_take_off (i := 28) (t := 34) (c := (decide (0 < s1))) (by kernel_rfl) rfl rfl rfl (decide_eq_false hc8) (fun _ _ _ h => h) (fun _ => hE) ?_
              refine dr_take_off (i := 29) (t := 34) (c := (decide (0 < s1))) (by kernel_rfl) rfl rfl rfl (decide_eq_false hc8) (fun _ _ _ h => h) (fun _ => hE) ?_
              refine dr_take_off (i := 30) (t := 34) (c := (decide (0 < s1))) (by kernel_rfl) rfl rfl rfl (decide_eq_false hc8) (fun _ _ _ h => h) (fun _ => hE) ?_
              refine dr_take_off (i := 31) (t := 34) (c := (decide (0 < s1))) (by kernel_rfl) rfl rfl rfl (decide_eq_false hc8) (fun _ _ _ h => h) (fun _ => hE) ?_
              refine dr_take_off (i := 32) (t := 34) (c := (decide (0 < s1))) (by kernel_rfl) rfl rfl rfl (decide_eq_false hc8) (fun _ _ _ h => h) (fun _ => hE) ?_
              refine dr_take_off (i := 33) (t := 34) (c := (decide (0 < s1))) (by kernel_rfl) rfl rfl rfl (decide_eq_false hc8) (fun _ _ _ h => h) (fun _ => hE) ?_
              refine dr_take_off (i := 34) (t := 34) (c := (decide (0 < s1))) (by kernel_rfl) rfl rfl rfl (decide_eq_false hc8) (fun _ _ _ h => h) (fun _ => hE) ?_
              refine dr_take_off (i := 35) (t := 34) (c := (decide (0 < s1))) (by kernel_rfl) rfl rfl rfl (decide_eq_false hc8) (fun _ _ _ h => h) (fun _ => hE) ?_
              refine dr_takeP_on (i := 36) (t := 31) (c := t29) (by kernel_rfl) rfl rfl rfl (Bool.eq_false_iff.2 hc7) (fun _ _ _ h => h) (fun _ => hE) (fun _ => ex_pick0 (b := (decide (0 < s1))) rfl (decide_eq_false hc8) (v := (.bool false)) rfl) ?_
              refine dr_takeP (i := 37) (by kernel_rfl) rfl (fun _ _ _ h => h) (fun _ => hE) (fun _ => ex_pick0 (b := t29) rfl (Bool.eq_false_iff.2 hc7) (v := (.bool false)) rfl) ?_
              refine dr_end (by kernel_rfl) ?_
              exact then_n ⟨false, _, rfl, mk_upds' (ae rfl (ae rfl (ae rfl ae0))), h⟩
  · rw [if_neg hc2] at h; refine cond_0 (b := (decide (s1 < (t0.n : Int)))) rfl (decide_eq_false hc2) ?_
    refine wp_exit ?_
    refine then_e ?_
    refine then_e ?_
    refine inb_e ?_
    refine then_n ?_
    refine seq_ ?_
    refine region_ ?_
    refine st_val (ex_assign (v := (.int .i64 (-1))) rfl) ?_
    refine wl_nil ?_
    refine then_n ?_
    refine wp_ret ?_
    refine ret_1 rfl rfl ⟨(-1), rfl, h⟩

end Go.Proofs.Ytdoeegfcmbcbkaa.Tr

/- Made by program: typed transformers of the functions, each met by its code. -/
namespace Go.Proofs.Ytdoeegfcmbcbkaa.Tr
open Go Go.Eng
set_option linter.unusedVariables false
set_option maxRecDepth 100000
set_option maxHeartbeats 4000000
/-- turnpike/turnpikeref14.find; slots 0:l, 1:kind, 2:name, 3:l, 4:kind, 5:name, 7:i -/
def f66 (t0 : Sl) (t1 : Int) (t2 : ByteArray) (R : (Int) → World → Prop) (w : World) : Prop :=
  Lp (σ := Int) (fun s1 w n1 =>
    if s1 < (t0.n : Int) then
      Jn (σ := Bool) (fun k3 =>
        RnP Try.prog Ptr (Instr.indexAt 22 (Sl.v t0) (.int .i64 s1)) fun t16 =>
        Rn Try.prog (Value.int .i64) (Instr.loadAt 3 (Ptr (t16.add 0))) w fun t18 w =>
        if t18 = t1 then
          RnP Try.prog Ptr (Instr.indexAt 22 (Sl.v t0) (.int .i64 s1)) fun t24 =>
          Rn Try.prog Value.string (Instr.loadAt 9 (Ptr (t24.add 1))) w fun t26 w =>
          k3 (decide (t26 = t2)) w
        else
          k3 false w
      ) fun s3 w =>
        if s3 = true then
          R s1 w
        else
          n1 (IntKind.i64.wrap (s1 + 1)) w
    else
      R (-1) w
  ) 0 w
theorem c66 {t0 : Sl} {t1 : Int} {t2 : ByteArray} {R : (Int) → World → Prop} {w : World} (h : f66 t0 t1 t2 R w) :
    Cal Try.prog (Value.int .i64) 66 #[(Sl.v t0), (.int .i64 t1), (.string t2)] w R := by
  unfold f66 at h
  refine calls_ Try.func66 Try.ntmps66 rfl rfl ?_
  refine seq_ ?_
  refine region_ ?_
  refine st_val (ex_assign (v := (.int .i64 0)) rfl) ?_
  refine wl_nil ?_
  refine then_n ?_
  refine seq_ ?_
  refine seq_ ?_
  refine region_ ?_
  refine st_val (ex_assign (v := (.int .i64 0)) rfl) ?_
  refine wl_nil ?_
  refine then_n ?_
  refine wp_block ?_
  refine wp_lp (σ := Int) (fun s1 a => ∃ j, a = F 31 (upds j [(0, (Sl.v t0)), (1, (.int .i64 t1)), (2, (.string t2)), (7, (.int .i64 s1))])) h (mk_upds (ae rfl (ae rfl (ae rfl (ae rfl ae0))))) ?_
  clear h; rintro s1 _ w n1 ⟨j, rfl⟩ h
  refine seq_ ?_
  refine seq_ ?_
  refine region_ ?_
  refine st_val (ex_move (v := (.int .i64 s1)) rfl) ?_
  refine st_val (ex_move (v := (Sl.v t0)) rfl) ?_
  refine st_val (ex_len (s := t0) Try.underlying22 rfl) ?_
  refine st_val (ex_lss (a := s1) (b := (t0.n : Int)) rfl rfl) ?_
  refine wl_nil ?_
  refine then_n ?_
  by_cases hc2 : s1 < (t0.n : Int)
  · rw [if_pos hc2] at h; refine cond_1 (b := (decide (s1 < (t0.n : Int)))) rfl (decide_eq_true hc2) ?_
    refine wp_skip ?_
    refine then_n ?_
    refine seq_ ?_
    refine wp_block ?_
    refine wp_jn (σ := Bool) (fun s3 l => ∃ j, l = upds j [(0, (Sl.v t0)), (1, (.int .i64 t1)), (2, (.string t2)), (7, (.int .i64 s1)), (29, (.bool s3))]) h ?_ ?_
    · clear h; rintro s3 _ w ⟨j, rfl⟩ h
      by_cases hc5 : s3 = true
      · rw [if_pos hc5] at h; refine cond_1 (b := s3) rfl hc5 ?_
        refine seq_ ?_
        refine region_ ?_
        refine st_val (ex_move (v := (.int .i64 s1)) rfl) ?_
        refine st_val (ex_assign (v := (.int .i64 s1)) rfl) ?_
        refine wl_nil ?_
        refine then_n ?_
        refine wp_ret ?_
        refine inb_r ?_
        refine then_r ?_
        refine then_r ?_
        refine inb_r ?_
        refine then_r ?_
        refine ret_1 rfl rfl ⟨s1, rfl, h⟩
      · rw [if_neg hc5] at h; refine cond_0 (b := s3) rfl (Bool.eq_false_iff.2 hc5) ?_
        refine wp_skip ?_
        refine inb_n ?_
        refine then_n ?_
        refine region_ ?_
        refine st_val (ex_move (v := (.int .i64 s1)) rfl) ?_
        refine st_val (ex_add (a := s1) (b := 1) rfl rfl) ?_
        refine st_val (ex_assign (v := (.int .i64 (IntKind.i64.wrap (s1 + 1)))) rfl) ?_
        refine wl_nil ?_
        exact then_n ⟨(IntKind.i64.wrap (s1 + 1)), mk_upds (ae rfl (ae rfl (ae rfl (ae rfl ae0)))), h⟩
    · clear h; intro k3 h
      refine region_ ?_
      refine st_val (ex_move (v := (Sl.v t0)) rfl) ?_
      refine st_val (ex_move (v := (.int .i64 s1)) rfl) ?_
      refine st_rnp (fun r => ex_indexAddr rfl rfl r) h ?_; clear h; intro t16 h
      refine st_val (ex_fa fa48_0 (p := t16) rfl) ?_
      refine st_rn (fun r => ex_load rfl r) h ?_; clear h; intro t18 w h
      refine st_val (ex_move (v := (.int .i64 t1)) rfl) ?_
      refine st_val (ex_eql (a := t18) (b := t1) rfl rfl) ?_
      refine st_val (ex_move (v := (.bool (decide (t18 = t1)))) rfl) ?_
      by_cases hc4 : t18 = t1
      · rw [if_pos hc4] at h
        refine st_on (t := 21) (c := (decide (t18 = t1))) rfl rfl (decide_eq_true hc4) ?_
        refine st_val (ex_move (v := (Sl.v t0)) rfl) ?_
        refine st_on (t := 21) (c := (decide (t18 = t1))) rfl rfl (decide_eq_true hc4) ?_
        refine st_val (ex_move (v := (.int .i64 s1)) rfl) ?_
        refine st_on (t := 21) (c := (decide (t18 = t1))) rfl rfl (decide_eq_true hc4) ?_
        refine st_rnp (fun r => ex_indexAddr rfl rfl r) h ?_; clear h; intro t24 h
        refine st_on (t := 21) (c := (decide (t18 = t1))) rfl rfl (decide_eq_true hc4) ?_
        refine st_val (ex_fa fa48_1 (p := t24) rfl) ?_
        refine st_on (t := 21) (c := (decide (t18 = t1))) rfl rfl (decide_eq_true hc4) ?_
        refine st_rn (fun r => ex_load rfl r) h ?_; clear h; intro t26 w h
        refine st_on (t := 21) (c := (decide (t18 = t1))) rfl rfl (decide_eq_true hc4) ?_
        refine st_val (ex_move (v := (.string t2)) rfl) ?_
        refine st_on (t := 21) (c := (decide (t18 = t1))) rfl rfl (decide_eq_true hc4) ?_
        refine st_val (ex_eqlS (a := t26) (b := t2) rfl rfl) ?_
        refine st_val (ex_pick1 (b := (decide (t18 = t1))) rfl (decide_eq_true hc4) (v := (.bool (decide (t26 = t2)))) rfl) ?_
        refine wl_nil ?_
        exact then_n ⟨(decide (t26 = t2)), _, rfl, mk_upds' (ae rfl (ae rfl (ae rfl (ae rfl (ae rfl ae0))))), h⟩
      · rw [if_neg hc4] at h
        refine st_off (t := 21) (c := (decide (t18 = t1))) rfl rfl (decide_eq_false hc4) ?_
        refine st_off (t := 21) (c := (decide (t18 = t1))) rfl rfl (decide_eq_false hc4) ?_
        refine st_off (t := 21) (c := (decide (t18 = t1))) rfl rfl (decide_eq_false hc4) ?_
        refine st_off (t := 21) (c := (decide (t18 = t1))) rfl rfl (decide_eq_false hc4) ?_
        refine st_off (t := 21) (c := (decide (t18 = t1))) rfl rfl (decide_eq_false hc4) ?_
        refine st_off (t := 21) (c := (decide (t18 = t1))) rfl rfl (decide_eq_false hc4) ?_
        refine st_off (t := 21) (c := (decide (t18 = t1))) rfl rfl (decide_eq_false hc4) ?_
        refine st_val (ex_pick0 (b := (decide (t18 = t1))) rfl (decide_eq_false hc4) (v := (.bool false)) rfl) ?_
        refine wl_nil ?_
        exact then_n ⟨false, _, rfl, mk_upds' (ae rfl (ae rfl (ae rfl (ae rfl (ae rfl ae0))))), h⟩
  · rw [if_neg hc2] at h; refine cond_0 (b := (decide (s1 < (t0.n : Int)))) rfl (decide_eq_false hc2) ?_
    refine wp_exit ?_
    refine then_e ?_
    refine then_e ?_
    refine inb_e ?_
    refine then_n ?_
    refine seq_ ?_
    refine region_ ?_
    refine st_val (ex_assign (v := (.int .i64 (-1))) rfl) ?_
    refine wl_nil ?_
    refine then_n ?_
    refine wp_ret ?_
    refine ret_1 rfl rfl ⟨(-1), rfl, h⟩

/-- turnpike/turnpikelaw15.texts; slots 0:a, 1:b, 2:a, 3:b, 5:i -/
def f80 (t0 : Sl) (t1 : Sl) (R : (Bool) → World → Prop) (w : World) : Prop :=
  if (t0.n : Int) ≠ (t1.n : Int) then
    R false w
  else
    Lp (σ := Int) (fun s2 w n2 =>
      if s2 < (t0.n : Int) then
        Dr w fun w4 w =>
          RnP Try.prog Ptr (Instr.indexAt 44 (Sl.v t0) (.int .i64 s2)) fun t19 =>
          RnL Try.prog Value.string (Instr.loadAt 9 (Ptr t19)) w4 fun t20 =>
          RnP Try.prog Ptr (Instr.indexAt 44 (Sl.v t1) (.int .i64 s2)) fun t23 =>
          RnL Try.prog Value.string (Instr.loadAt 9 (Ptr t23)) w4 fun t24 =>
          if t20 ≠ t24 then
            R false w
          else
            n2 (IntKind.i64.wrap (s2 + 1)) w
      else
        R true w
    ) 0 w
theorem c80 {t0 : Sl} {t1 : Sl} {R : (Bool) → World → Prop} {w : World} (h : f80 t0 t1 R w) :
    Cal Try.prog Value.bool 80 #[(Sl.v t0), (Sl.v t1)] w R := by
  unfold f80 at h
  refine calls_ Try.func80 Try.ntmps80 rfl rfl ?_
  refine seq_ ?_
  refine region_ ?_
  refine st_val (ex_assign (v := (.bool false)) rfl) ?_
  refine wl_nil ?_
  refine then_n ?_
  refine seq_ ?_
  refine seq_ ?_
  refine region_ ?_
  refine st_val (ex_move (v := (Sl.v t0)) rfl) ?_
  refine st_val (ex_len (s := t0) Try.underlying44 rfl) ?_
  refine st_val (ex_move (v := (Sl.v t1)) rfl) ?_
  refine st_val (ex_len (s := t1) Try.underlying44 rfl) ?_
  refine st_val (ex_neq (a := (t0.n : Int)) (b := (t1.n : Int)) rfl rfl) ?_
  refine wl_nil ?_
  refine then_n ?_
  by_cases hc1 : (t0.n : Int) ≠ (t1.n : Int)
  · rw [if_pos hc1] at h; refine cond_1 (b := (decide ((t0.n : Int) ≠ (t1.n : Int)))) rfl (decide_eq_true hc1) ?_
    refine seq_ ?_
    refine region_ ?_
    refine st_val (ex_assign (v := (.bool false)) rfl) ?_
    refine wl_nil ?_
    refine then_n ?_
    refine wp_ret ?_
    refine then_r ?_
    refine ret_1 rfl rfl ⟨false, rfl, h⟩
  · rw [if_neg hc1] at h; refine cond_0 (b := (decide ((t0.n : Int) ≠ (t1.n : Int)))) rfl (decide_eq_false hc1) ?_
    refine wp_skip ?_
    refine then_n ?_
    refine seq_ ?_
    refine seq_ ?_
    refine region_ ?_
    refine st_val (ex_assign (v := (.int .i64 0)) rfl) ?_
    refine wl_nil ?_
    refine then_n ?_
    refine wp_block ?_
    refine wp_lp (σ := Int) (fun s2 a => ∃ j, a = F 26 (upds j [(0, (Sl.v t0)), (1, (Sl.v t1)), (5, (.int .i64 s2))])) h (mk_upds (ae rfl (ae rfl (ae rfl ae0)))) ?_
    clear h; rintro s2 _ w n2 ⟨j, rfl⟩ h
    refine seq_ ?_
    refine seq_ ?_
    refine region_ ?_
    refine st_val (ex_move (v := (.int .i64 s2)) rfl) ?_
    refine st_val (ex_move (v := (Sl.v t0)) rfl) ?_
    refine st_val (ex_len (s := t0) Try.underlying44 rfl) ?_
    refine st_val (ex_lss (a := s2) (b := (t0.n : Int)) rfl rfl) ?_
    refine wl_nil ?_
    refine then_n ?_
    by_cases hc3 : s2 < (t0.n : Int)
    · rw [if_pos hc3] at h; refine cond_1 (b := (decide (s2 < (t0.n : Int)))) rfl (decide_eq_true hc3) ?_
      refine wp_skip ?_
      refine then_n ?_
      refine seq_ ?_
      refine wp_block ?_
      refine seq_ ?_
      refine dr_begin mixed [] (listed := #[false, false, false, false, false, false, false, false, false]) rfl (n := 9) rfl h ?_; clear h; intro w4 h
      have hE : Ext w4 w4 := Ext.refl _
      refine dr_takeP (i := 0) (by kernel_rfl) rfl (fun _ _ _ h => h) (fun _ => hE) (fun _ => ex_move (v := (Sl.v t0)) rfl) ?_
      refine dr_takeP (i := 1) (by kernel_rfl) rfl (fun _ _ _ h => h) (fun _ => hE) (fun _ => ex_move (v := (.int .i64 s2)) rfl) ?_
      obtain ⟨t19, ht19, h⟩ := h
      refine dr_takeP (i := 2) (by kernel_rfl) rfl (fun _ _ _ h => h) (fun _ => hE) (fun _ => (fun r => ex_indexAddr rfl rfl r) (ht19 _)) ?_
      obtain ⟨t20, ht20, h⟩ := h
      refine dr_take (i := 3) (by kernel_rfl) rfl (fun _ _ _ h => h) hE (fun _ hw => (fun r => ex_load rfl r) (ht20 _ hw)) ?_
      refine dr_takeP (i := 4) (by kernel_rfl) rfl (fun _ _ _ h => h) (fun _ => hE) (fun _ => ex_move (v := (Sl.v t1)) rfl) ?_
      refine dr_takeP (i := 5) (by kernel_rfl) rfl (fun _ _ _ h => h) (fun _ => hE) (fun _ => ex_move (v := (.int .i64 s2)) rfl) ?_
      obtain ⟨t23, ht23, h⟩ := h
      refine dr_takeP (i := 6) (by kernel_rfl) rfl (fun _ _ _ h => h) (fun _ => hE) (fun _ => (fun r => ex_indexAddr rfl rfl r) (ht23 _)) ?_
      obtain ⟨t24, ht24, h⟩ := h
      refine dr_take (i := 7) (by kernel_rfl) rfl (fun _ _ _ h => h) hE (fun _ hw => (fun r => ex_load rfl r) (ht24 _ hw)) ?_
      refine dr_takeP (i := 8) (by kernel_rfl) rfl (fun _ _ _ h => h) (fun _ => hE) (fun _ => ex_neqS (a := t20) (b := t24) rfl rfl) ?_
      refine dr_end (by kernel_rfl) ?_
      refine then_n ?_
      by_cases hc5 : t20 ≠ t24
      · rw [if_pos hc5] at h; refine cond_1 (b := (decide (t20 ≠ t24))) rfl (decide_eq_true hc5) ?_
        refine seq_ ?_
        refine region_ ?_
        refine st_val (ex_assign (v := (.bool false)) rfl) ?_
        refine wl_nil ?_
        refine then_n ?_
        refine wp_ret ?_
        refine inb_r ?_
        refine then_r ?_
        refine then_r ?_
        refine inb_r ?_
        refine then_r ?_
        refine ret_1 rfl rfl ⟨false, rfl, h⟩
      · rw [if_neg hc5] at h; refine cond_0 (b := (decide (t20 ≠ t24))) rfl (decide_eq_false hc5) ?_
        refine wp_skip ?_
        refine inb_n ?_
        refine then_n ?_
        refine region_ ?_
        refine st_val (ex_move (v := (.int .i64 s2)) rfl) ?_
        refine st_val (ex_add (a := s2) (b := 1) rfl rfl) ?_
        refine st_val (ex_assign (v := (.int .i64 (IntKind.i64.wrap (s2 + 1)))) rfl) ?_
        refine wl_nil ?_
        exact then_n ⟨(IntKind.i64.wrap (s2 + 1)), mk_upds (ae rfl (ae rfl (ae rfl ae0))), h⟩
    · rw [if_neg hc3] at h; refine cond_0 (b := (decide (s2 < (t0.n : Int)))) rfl (decide_eq_false hc3) ?_
      refine wp_exit ?_
      refine then_e ?_
      refine then_e ?_
      refine inb_e ?_
      refine then_n ?_
      refine seq_ ?_
      refine region_ ?_
      refine st_val (ex_assign (v := (.bool true)) rfl) ?_
      refine wl_nil ?_
      refine then_n ?_
      refine wp_ret ?_
      refine ret_1 rfl rfl ⟨true, rfl, h⟩


end Go.Proofs.Ytdoeegfcmbcbkaa.Tr

/- Made by program: typed transformers of the functions, each met by its code. -/
namespace Go.Proofs.Ytdoeegfcmbcbkaa.Tr
open Go Go.Eng
set_option linter.unusedVariables false
set_option maxRecDepth 100000
set_option maxHeartbeats 4000000
/-- cmp.Compare[int]; slots 0:x, 1:y, 2:x, 3:y, 5:xNaN, 6:yNaN -/
def f87 (t0 : Int) (t1 : Int) (R : (Int) → World → Prop) (w : World) : Prop :=
  Cal Try.prog Value.bool 118 #[(.int .i64 t0)] w fun t8 w =>
  Cal Try.prog Value.bool 118 #[(.int .i64 t1)] w fun t10 w =>
  if t8 = true then
    if t10 = true then
      R 0 w
    else
      R (-1) w
  else
    if t10 = true then
      R 1 w
    else
      if t0 < t1 then
        R (-1) w
      else
        if t1 < t0 then
          R 1 w
        else
          R 0 w
theorem c87 {t0 : Int} {t1 : Int} {R : (Int) → World → Prop} {w : World} (h : f87 t0 t1 R w) :
    Cal Try.prog (Value.int .i64) 87 #[(.int .i64 t0), (.int .i64 t1)] w R := by
  unfold f87 at h
  refine calls_ Try.func87 Try.ntmps87 rfl rfl ?_
  refine seq_ ?_
  refine region_ ?_
  refine st_val (ex_assign (v := (.int .i64 0)) rfl) ?_
  refine wl_nil ?_
  refine then_n ?_
  refine seq_ ?_
  refine region_ ?_
  refine st_val (ex_move (v := (.int .i64 t0)) rfl) ?_
  refine st_cal en118 rfl h ?_; clear h; intro t8 w h
  refine st_val (ex_assign (v := (.bool t8)) rfl) ?_
  refine wl_nil ?_
  refine then_n ?_
  refine seq_ ?_
  refine region_ ?_
  refine st_val (ex_move (v := (.int .i64 t1)) rfl) ?_
  refine st_cal en118 rfl h ?_; clear h; intro t10 w h
  refine st_val (ex_assign (v := (.bool t10)) rfl) ?_
  refine wl_nil ?_
  refine then_n ?_
  refine seq_ ?_
  refine seq_ ?_
  refine region_ ?_
  refine st_val (ex_move (v := (.bool t8)) rfl) ?_
  refine wl_nil ?_
  refine then_n ?_
  by_cases hc1 : t8 = true
  · rw [if_pos hc1] at h; refine cond_1 (b := t8) rfl hc1 ?_
    refine seq_ ?_
    refine seq_ ?_
    refine region_ ?_
    refine st_val (ex_move (v := (.bool t10)) rfl) ?_
    refine wl_nil ?_
    refine then_n ?_
    by_cases hc2 : t10 = true
    · rw [if_pos hc2] at h; refine cond_1 (b := t10) rfl hc2 ?_
      refine seq_ ?_
      refine region_ ?_
      refine st_val (ex_assign (v := (.int .i64 0)) rfl) ?_
      refine wl_nil ?_
      refine then_n ?_
      refine wp_ret ?_
      refine then_r ?_
      refine then_r ?_
      refine ret_1 rfl rfl ⟨0, rfl, h⟩
    · rw [if_neg hc2] at h; refine cond_0 (b := t10) rfl (Bool.eq_false_iff.2 hc2) ?_
      refine wp_skip ?_
      refine then_n ?_
      refine seq_ ?_
      refine region_ ?_
      refine st_val (ex_assign (v := (.int .i64 (-1))) rfl) ?_
      refine wl_nil ?_
      refine then_n ?_
      refine wp_ret ?_
      refine then_r ?_
      refine ret_1 rfl rfl ⟨(-1), rfl, h⟩
  · rw [if_neg hc1] at h; refine cond_0 (b := t8) rfl (Bool.eq_false_iff.2 hc1) ?_
    refine wp_skip ?_
    refine then_n ?_
    refine seq_ ?_
    refine seq_ ?_
    refine region_ ?_
    refine st_val (ex_move (v := (.bool t10)) rfl) ?_
    refine wl_nil ?_
    refine then_n ?_
    by_cases hc3 : t10 = true
    · rw [if_pos hc3] at h; refine cond_1 (b := t10) rfl hc3 ?_
      refine seq_ ?_
      refine region_ ?_
      refine st_val (ex_assign (v := (.int .i64 1)) rfl) ?_
      refine wl_nil ?_
      refine then_n ?_
      refine wp_ret ?_
      refine then_r ?_
      refine ret_1 rfl rfl ⟨1, rfl, h⟩
    · rw [if_neg hc3] at h; refine cond_0 (b := t10) rfl (Bool.eq_false_iff.2 hc3) ?_
      refine wp_skip ?_
      refine then_n ?_
      refine seq_ ?_
      refine seq_ ?_
      refine region_ ?_
      refine st_val (ex_move (v := (.int .i64 t0)) rfl) ?_
      refine st_val (ex_move (v := (.int .i64 t1)) rfl) ?_
      refine st_val (ex_lss (a := t0) (b := t1) rfl rfl) ?_
      refine wl_nil ?_
      refine then_n ?_
      by_cases hc4 : t0 < t1
      · rw [if_pos hc4] at h; refine cond_1 (b := (decide (t0 < t1))) rfl (decide_eq_true hc4) ?_
        refine seq_ ?_
        refine region_ ?_
        refine st_val (ex_assign (v := (.int .i64 (-1))) rfl) ?_
        refine wl_nil ?_
        refine then_n ?_
        refine wp_ret ?_
        refine then_r ?_
        refine ret_1 rfl rfl ⟨(-1), rfl, h⟩
      · rw [if_neg hc4] at h; refine cond_0 (b := (decide (t0 < t1))) rfl (decide_eq_false hc4) ?_
        refine wp_skip ?_
        refine then_n ?_
        refine seq_ ?_
        refine seq_ ?_
        refine region_ ?_
        refine st_val (ex_move (v := (.int .i64 t0)) rfl) ?_
        refine st_val (ex_move (v := (.int .i64 t1)) rfl) ?_
        refine st_val (ex_gtr (a := t0) (b := t1) rfl rfl) ?_
        refine wl_nil ?_
        refine then_n ?_
        by_cases hc5 : t1 < t0
        · rw [if_pos hc5] at h; refine cond_1 (b := (decide (t1 < t0))) rfl (decide_eq_true hc5) ?_
          refine seq_ ?_
          refine region_ ?_
          refine st_val (ex_assign (v := (.int .i64 1)) rfl) ?_
          refine wl_nil ?_
          refine then_n ?_
          refine wp_ret ?_
          refine then_r ?_
          refine ret_1 rfl rfl ⟨1, rfl, h⟩
        · rw [if_neg hc5] at h; refine cond_0 (b := (decide (t1 < t0))) rfl (decide_eq_false hc5) ?_
          refine wp_skip ?_
          refine then_n ?_
          refine seq_ ?_
          refine region_ ?_
          refine st_val (ex_assign (v := (.int .i64 0)) rfl) ?_
          refine wl_nil ?_
          refine then_n ?_
          refine wp_ret ?_
          refine ret_1 rfl rfl ⟨0, rfl, h⟩

/-- turnpike/check.out; slots 0:conf, 1:conf, 3:i, 4:r -/
def f93 (t0 : Sl) (R : (Int) → World → Prop) (w : World) : Prop :=
  Lp (σ := Int) (fun s1 w n1 =>
    if s1 < (t0.n : Int) then
      RnP Try.prog Ptr (Instr.indexAt 22 (Sl.v t0) (.int .i64 s1)) fun t10 =>
      Rn Try.prog TResource.v (Instr.loadAt 48 (Ptr t10)) w fun t11 w =>
      New 48 (TResource.cells (⟨0, ⟨#[]⟩, Sl.nil, Sl.nil, ⟨#[]⟩, Sl.nil, ⟨#[]⟩, false⟩ : TResource)) w fun b4 w =>
      RnU Try.prog (Instr.storeAt 48 (Ptr (⟨b4, 0, none⟩ : Addr)) (TResource.v t11)) w fun w =>
      Jn (σ := Bool) (fun k3 =>
        Dr w fun w4 w =>
          RnL Try.prog (Value.int .i64) (Instr.loadAt 3 (Ptr ((⟨b4, 0, none⟩ : Addr).add 0))) w4 fun t13 =>
          if t13 < 1 then
            k3 true w
          else
            RnL Try.prog (Value.int .i64) (Instr.loadAt 3 (Ptr ((⟨b4, 0, none⟩ : Addr).add 0))) w4 fun t17 =>
            if 4 < t17 then
              k3 true w
            else
              RnL Try.prog Value.bool (Instr.loadAt 4 (Ptr ((⟨b4, 0, none⟩ : Addr).add 7))) w4 fun t22 =>
              if t22 = true then
                k3 true w
              else
                if 0 < s1 then
                  RnP Try.prog Ptr (Instr.indexAt 22 (Sl.v t0) (.int .i64 (IntKind.i64.wrap (s1 - 1)))) fun t31 =>
                  RnL Try.prog TResource.v (Instr.loadAt 48 (Ptr t31)) w4 fun t32 =>
                  RnL Try.prog TResource.v (Instr.loadAt 48 (Ptr (⟨b4, 0, none⟩ : Addr))) w4 fun t34 =>
                  Cal Try.prog TKey.v 63 #[(TResource.v t32)] w (ExtK w fun t33 w =>
                    Cal Try.prog TKey.v 63 #[(TResource.v t34)] w (ExtK w fun t35 w =>
                      Cal Try.prog (Value.int .i64) 111 #[(TKey.v t33), (TKey.v t35)] w (ExtK w fun t36 w =>
                        k3 (decide (0 ≤ t36)) w
                      )
                    )
                  )
                else
                  k3 false w
      ) fun s3 w =>
        if s3 = true then
          R s1 w
        else
          n1 (IntKind.i64.wrap (s1 + 1)) w
    else
      R (-1) w
  ) 0 w
theorem c93 {t0 : Sl} {R : (Int) → World → Prop} {w : World} (h : f93 t0 R w) :
    Cal Try.prog (Value.int .i64) 93 #[(Sl.v t0)] w R := by
  unfold f93 at h
  refine calls_ Try.func93 Try.ntmps93 rfl rfl ?_
  refine seq_ ?_
  refine region_ ?_
  refine st_val (ex_assign (v := (.int .i64 0)) rfl) ?_
  refine wl_nil ?_
  refine then_n ?_
  refine seq_ ?_
  refine seq_ ?_
  refine region_ ?_
  refine st_val (ex_move (v := (Sl.v t0)) rfl) ?_
  refine st_val (ex_len (s := t0) Try.underlying22 rfl) ?_
  refine st_val (ex_move (v := (.int .i64 0)) rfl) ?_
  refine wl_nil ?_
  refine then_n ?_
  refine wp_block ?_
  refine wp_lp (σ := Int) (fun s1 a => ∃ j, a = F 42 (upds j [(0, (Sl.v t0)), (5, (Sl.v t0)), (6, (.int .i64 (t0.n : Int))), (7, (.int .i64 s1))])) h (mk_upds (ae rfl (ae rfl (ae rfl (ae rfl ae0))))) ?_
  clear h; rintro s1 _ w n1 ⟨j, rfl⟩ h
  refine seq_ ?_
  refine region_ ?_
  refine st_val (ex_lss (a := s1) (b := (t0.n : Int)) rfl rfl) ?_
  refine wl_nil ?_
  refine then_n ?_
  refine seq_ ?_
  by_cases hc2 : s1 < (t0.n : Int)
  · rw [if_pos hc2] at h; refine cond_1 (b := (decide (s1 < (t0.n : Int)))) rfl (decide_eq_true hc2) ?_
    refine wp_skip ?_
    refine then_n ?_
    refine seq_ ?_
    refine wp_block ?_
    refine seq_ ?_
    refine region_ ?_
    refine st_val (ex_move (v := (.int .i64 s1)) rfl) ?_
    refine st_rnp (fun r => ex_indexAddr rfl rfl r) h ?_; clear h; intro t10 h
    refine st_rn (fun r => ex_load rfl r) h ?_; clear h; intro t11 w h
    refine st_new (f := (fun b => Ptr ⟨b, 0, none⟩)) (ex_allocN zero48 rfl) h ?_; clear h; intro b4 w h
    refine st_val (ex_assign (v := (.int .i64 s1)) rfl) ?_
    refine st_rnu (fun r => ex_store rfl rfl r) h ?_; clear h; intro w h
    refine wl_nil ?_
    refine then_n ?_
    refine wp_jn (σ := Bool) (fun s3 l => ∃ j, l = upds j [(0, (Sl.v t0)), (3, (.int .i64 s1)), (5, (Sl.v t0)), (6, (.int .i64 (t0.n : Int))), (7, (.int .i64 s1)), (39, (.bool s3))]) h ?_ ?_
    · clear h; rintro s3 _ w ⟨j, rfl⟩ h
      by_cases hc9 : s3 = true
      · rw [if_pos hc9] at h; refine cond_1 (b := s3) rfl hc9 ?_
        refine seq_ ?_
        refine region_ ?_
        refine st_val (ex_move (v := (.int .i64 s1)) rfl) ?_
        refine st_val (ex_assign (v := (.int .i64 s1)) rfl) ?_
        refine wl_nil ?_
        refine then_n ?_
        refine wp_ret ?_
        refine inb_r ?_
        refine then_r ?_
        refine then_r ?_
        refine inb_r ?_
        refine then_r ?_
        refine ret_1 rfl rfl ⟨s1, rfl, h⟩
      · rw [if_neg hc9] at h; refine cond_0 (b := s3) rfl (Bool.eq_false_iff.2 hc9) ?_
        refine wp_skip ?_
        refine inb_n ?_
        refine then_n ?_
        refine region_ ?_
        refine st_val (ex_add (a := s1) (b := 1) rfl rfl) ?_
        refine st_val (ex_move (v := (.int .i64 (IntKind.i64.wrap (s1 + 1)))) rfl) ?_
        refine wl_nil ?_
        exact then_n ⟨(IntKind.i64.wrap (s1 + 1)), mk_upds (ae rfl (ae rfl (ae rfl (ae rfl ae0)))), h⟩
    · clear h; intro k3 h
      refine dr_begin mixed [] (listed := #[false, false, false, false, false, false, false, false, false, false, false, false, false, false, false, false, false, false, false, false, false, false, false, false, false, false, false, false]) rfl (n := 28) rfl h ?_; clear h; intro w4 h
      have hE : Ext w4 w4 := Ext.refl _
      refine dr_takeP (i := 0) (by kernel_rfl) rfl (fun _ _ _ h => h) (fun _ => hE) (fun _ => ex_fa fa48_0 (p := (⟨b4, 0, none⟩ : Addr)) rfl) ?_
      obtain ⟨t13, ht13, h⟩ := h
      refine dr_take (i := 1) (by kernel_rfl) rfl (fun _ _ _ h => h) hE (fun _ hw => (fun r => ex_load rfl r) (ht13 _ hw)) ?_
      refine dr_takeP (i := 2) (by kernel_rfl) rfl (fun _ _ _ h => h) (fun _ => hE) (fun _ => ex_lss (a := t13) (b := 1) rfl rfl) ?_
      refine dr_takeP (i := 3) (by kernel_rfl) rfl (fun _ _ _ h => h) (fun _ => hE) (fun _ => ex_move (v := (.bool (decide (t13 < 1)))) rfl) ?_
      by_cases hc5 : t13 < 1
      · rw [if_pos hc5] at h
        refine dr_take_off (i := 4) (t := 15) (c := (decide (t13 < 1))) (by kernel_rfl) rfl rfl rfl (decide_eq_true hc5) (fun _ _ _ h => h) (fun _ => hE) ?_
        refine dr_take_off (i := 5) (t := 15) (c := (decide (t13 < 1))) (by kernel_rfl) rfl rfl rfl (decide_eq_true hc5) (fun _ _ _ h => h) (fun _ => hE) ?_
        refine dr_take_off (i := 6) (t := 15) (c := (decide (t13 < 1))) (by kernel_rfl) rfl rfl rfl (decide_eq_true hc5) (fun _ _ _ h => h) (fun _ => hE) ?_
        refine dr_takeP (i := 7) (by kernel_rfl) rfl (fun _ _ _ h => h) (fun _ => hE) (fun _ => ex_pick1 (b := (decide (t13 < 1))) rfl (decide_eq_true hc5) (v := (.bool true)) rfl) ?_
        refine dr_takeP (i := 8) (by kernel_rfl) rfl (fun _ _ _ h => h) (fun _ => hE) (fun _ => ex_move (v := (.bool true)) rfl) ?_
        refine dr_take_off (i := 9) (t := 20) (c := true) (by kernel_rfl) rfl rfl rfl (rfl : true = !false) (fun _ _ _ h => h) (fun _ => hE) ?_
        refine dr_take_off (i := 10) (t := 20) (c := true) (by kernel_rfl) rfl rfl rfl (rfl : true = !false) (fun _ _ _ h => h) (fun _ => hE) ?_
        refine dr_takeP (i := 11) (by kernel_rfl) rfl (fun _ _ _ h => h) (fun _ => hE) (fun _ => ex_pick1 (b := true) rfl (rfl : true = true) (v := (.bool true)) rfl) ?_
        refine dr_takeP (i := 12) (by kernel_rfl) rfl (fun _ _ _ h => h) (fun _ => hE) (fun _ => ex_move (v := (.bool true)) rfl) ?_
        refine dr_take_off (i := 13) (t := 24) (c := true) (by kernel_rfl) rfl rfl rfl (rfl : true = !false) (fun _ _ _ h => h) (fun _ => hE) ?_
        refine dr_take_off (i := 14) (t := 24) (c := true) (by kernel_rfl) rfl rfl rfl (rfl : true = !false) (fun _ _ _ h => h) (fun _ => hE) ?_
        refine dr_take_off (i := 15) (t := 24) (c := true) (by kernel_rfl) rfl rfl rfl (rfl : true = !false) (fun _ _ _ h => h) (fun _ => hE) ?_
        refine dr_take_offu (i := 16) (t := 27) (by kernel_rfl) rfl rfl rfl (fun _ _ _ h => h) (fun _ => hE) ?_
        refine dr_take_offu (i := 17) (t := 27) (by kernel_rfl) rfl rfl rfl (fun _ _ _ h => h) (fun _ => hE) ?_
        refine dr_take_offu (i := 18) (t := 27) (by kernel_rfl) rfl rfl rfl (fun _ _ _ h => h) (fun _ => hE) ?_
        refine dr_take_offu (i := 19) (t := 27) (by kernel_rfl) rfl rfl rfl (fun _ _ _ h => h) (fun _ => hE) ?_
        refine dr_take_offu (i := 20) (t := 27) (by kernel_rfl) rfl rfl rfl (fun _ _ _ h => h) (fun _ => hE) ?_
        refine dr_take_offu (i := 21) (t := 27) (by kernel_rfl) rfl rfl rfl (fun _ _ _ h => h) (fun _ => hE) ?_
        refine dr_take_offu (i := 22) (t := 27) (by kernel_rfl) rfl rfl rfl (fun _ _ _ h => h) (fun _ => hE) ?_
        refine dr_take_offu (i := 23) (t := 27) (by kernel_rfl) rfl rfl rfl (fun _ _ _ h => h) (fun _ => hE) ?_
        refine dr_take_offu (i := 24) (t := 27) (by kernel_rfl) rfl rfl rfl (fun _ _ _ h => h) (fun _ => hE) ?_
        refine dr_take_offu (i := 25) (t := 27) (by kernel_rfl) rfl rfl rfl (fun _ _ _ h => h) (fun _ => hE) ?_
        refine dr_take_off (i := 26) (t := 24) (c := true) (by kernel_rfl) rfl rfl rfl (rfl : true = !false) (fun _ _ _ h => h) (fun _ => hE) ?_
        refine dr_takeP (i := 27) (by kernel_rfl) rfl (fun _ _ _ h => h) (fun _ => hE) (fun _ => ex_pick1 (b := true) rfl (rfl : true = true) (v := (.bool true)) rfl) ?_
        refine dr_end (by kernel_rfl) ?_
        exact then_n ⟨true, _, rfl, mk_upds' (ae rfl (ae rfl (ae rfl (ae rfl (ae rfl (ae rfl ae0)))))), h⟩
      · rw [if_neg hc5] at h
        refine dr_takeP_on (i := 4) (t := 15) (c := (decide (t13 < 1))) (by kernel_rfl) rfl rfl rfl (decide_eq_false hc5) (fun _ _ _ h => h) (fun _ => hE) (fun _ => ex_fa fa48_0 (p := (⟨b4, 0, none⟩ : Addr)) rfl) ?_
        obtain ⟨t17, ht17, h⟩ := h
        refine dr_take_on (i := 5) (t := 15) (c := (decide (t13 < 1))) (by kernel_rfl) rfl rfl rfl (decide_eq_false hc5) (fun _ _ _ h => h) hE (fun _ hw => (fun r => ex_load rfl r) (ht17 _ hw)) ?_
        refine dr_takeP_on (i := 6) (t := 15) (c := (decide (t13 < 1))) (by kernel_rfl) rfl rfl rfl (decide_eq_false hc5) (fun _ _ _ h => h) (fun _ => hE) (fun _ => ex_gtr (a := t17) (b := 4) rfl rfl) ?_
        refine dr_takeP (i := 7) (by kernel_rfl) rfl (fun _ _ _ h => h) (fun _ => hE) (fun _ => ex_pick0 (b := (decide (t13 < 1))) rfl (decide_eq_false hc5) (v := (.bool (decide (4 < t17)))) rfl) ?_
        refine dr_takeP (i := 8) (by kernel_rfl) rfl (fun _ _ _ h => h) (fun _ => hE) (fun _ => ex_move (v := (.bool (decide (4 < t17)))) rfl) ?_
        by_cases hc6 : 4 < t17
        · rw [if_pos hc6] at h
          refine dr_take_off (i := 9) (t := 20) (c := (decide (4 < t17))) (by kernel_rfl) rfl rfl rfl (decide_eq_true hc6) (fun _ _ _ h => h) (fun _ => hE) ?_
          refine dr_take_off (i := 10) (t := 20) (c := (decide (4 < t17))) (by kernel_rfl) rfl rfl rfl (decide_eq_true hc6) (fun _ _ _ h => h) (fun _ => hE) ?_
          refine dr_takeP (i := 11) (by kernel_rfl) rfl (fun _ _ _ h => h) (fun _ => hE) (fun _ => ex_pick1 (b := (decide (4 < t17))) rfl (decide_eq_true hc6) (v := (.bool true)) rfl) ?_
          refine dr_takeP (i := 12) (by kernel_rfl) rfl (fun _ _ _ h => h) (fun _ => hE) (fun _ => ex_move (v := (.bool true)) rfl) ?_
          refine dr_take_off (i := 13) (t := 24) (c := true) (by kernel_rfl) rfl rfl rfl (rfl : true = !false) (fun _ _ _ h => h) (fun _ => hE) ?_
          refine dr_take_off (i := 14) (t := 24) (c := true) (by kernel_rfl) rfl rfl rfl (rfl : true = !false) (fun _ _ _ h => h) (fun _ => hE) ?_
          refine dr_take_off (i := 15) (t := 24) (c := true) (by kernel_rfl) rfl rfl rfl (rfl : true = !false) (fun _ _ _ h => h) (fun _ => hE) ?_
          refine dr_take_offu (i := 16) (t := 27) (by kernel_rfl) rfl rfl rfl (fun _ _ _ h => h) (fun _ => hE) ?_
          refine dr_take_offu (i := 17) (t := 27) (by kernel_rfl) rfl rfl rfl (fun _ _ _ h => h) (fun _ => hE) ?_
          refine dr_take_offu (i := 18) (t := 27) (by kernel_rfl) rfl rfl rfl (fun _ _ _ h => h) (fun _ => hE) ?_
          refine dr_take_offu (i := 19) (t := 27) (by kernel_rfl) rfl rfl rfl (fun _ _ _ h => h) (fun _ => hE) ?_
          refine dr_take_offu (i := 20) (t := 27) (by kernel_rfl) rfl rfl rfl (fun _ _ _ h => h) (fun _ => hE) ?_
          refine dr_take_offu (i := 21) (t := 27) (by kernel_rfl) rfl rfl rfl (fun _ _ _ h => h) (fun _ => hE) ?_
          refine dr_take_offu (i := 22) (t := 27) (by kernel_rfl) rfl rfl rfl (fun _ _ _ h => h) (fun _ => hE) ?_
          refine dr_take_offu (i := 23) (t := 27) (by kernel_rfl) rfl rfl rfl (fun _ _ _ h => h) (fun _ => hE) ?_
          refine dr_take_offu (i := 24) (t := 27) (by kernel_rfl) rfl rfl rfl (fun _ _ _ h => h) (fun _ => hE) ?_
          refine dr_take_offu (i := 25) (t := 27) (by kernel_rfl) rfl rfl rfl (fun _ _ _ h => h) (fun _ => hE) ?_
          refine dr_take_off (i := 26) (t := 24) (c := true) (by kernel_rfl) rfl rfl rfl (rfl : true = !false) (fun _ _ _ h => h) (fun _ => hE) ?_
          refine dr_takeP (i := 27) (by kernel_rfl) rfl (fun _ _ _ h => h) (fun _ => hE) (fun _ => ex_pick1 (b := true) rfl (rfl : true = true) (v := (.bool true)) rfl) ?_
          refine dr_end (by kernel_rfl) ?_
          exact then_n ⟨true, _, rfl, mk_upds' (ae rfl (ae rfl (ae rfl (ae rfl (ae rfl (ae rfl ae0)))))), h⟩
        · rw [if_neg hc6] at h
          refine dr_takeP_on (i := 9) (t := 20) (c := (decide (4 < t17))) (by kernel_rfl) rfl rfl rfl (decide_eq_false hc6) (fun _ _ _ h => h) (fun _ => hE) (fun _ => ex_fa fa48_7 (p := (⟨b4, 0, none⟩ : Addr)) rfl) ?_
          obtain ⟨t22, ht22, h⟩ := h
          refine dr_take_on (i := 10) (t := 20) (c := (decide (4 < t17))) (by kernel_rfl) rfl rfl rfl (decide_eq_false hc6) (fun _ _ _ h => h) hE (fun _ hw => (fun r => ex_load rfl r) (ht22 _ hw)) ?_
          refine dr_takeP (i := 11) (by kernel_rfl) rfl (fun _ _ _ h => h) (fun _ => hE) (fun _ => ex_pick0 (b := (decide (4 < t17))) rfl (decide_eq_false hc6) (v := (.bool t22)) rfl) ?_
          refine dr_takeP (i := 12) (by kernel_rfl) rfl (fun _ _ _ h => h) (fun _ => hE) (fun _ => ex_move (v := (.bool t22)) rfl) ?_
          by_cases hc7 : t22 = true
          · rw [if_pos hc7] at h
            refine dr_take_off (i := 13) (t := 24) (c := t22) (by kernel_rfl) rfl rfl rfl hc7 (fun _ _ _ h => h) (fun _ => hE) ?_
            refine dr_take_off (i := 14) (t := 24) (c := t22) (by kernel_rfl) rfl rfl rfl hc7 (fun _ _ _ h => h) (fun _ => hE) ?_
            refine dr_take_off (i := 15) (t := 24) (c := t22) (by kernel_rfl) rfl rfl rfl hc7 (fun _ _ _ h => h) (fun _ => hE) ?_
            refine dr_take_offu (i := 16) (t := 27) (by kernel_rfl) rfl rfl rfl (fun _ _ _ h => h) (fun _ => hE) ?_
            refine dr_take_offu (i := 17) (t := 27) (by kernel_rfl) rfl rfl rfl (fun _ _ _ h => h) (fun _ => hE) ?_
            refine dr_take_offu (i := 18) (t := 27) (by kernel_rfl) rfl rfl rfl (fun _ _ _ h => h) (fun _ => hE) ?_
            refine dr_take_offu (i := 19) (t := 27) (by kernel_rfl) rfl rfl rfl (fun _ _ _ h => h) (fun _ => hE) ?_
            refine dr_take_offu (i := 20) (t := 27) (by kernel_rfl) rfl rfl rfl (fun _ _ _ h => h) (fun _ => hE) ?_
            refine dr_take_offu (i := 21) (t := 27) (by kernel_rfl) rfl rfl rfl (fun _ _ _ h => h) (fun _ => hE) ?_
            refine dr_take_offu (i := 22) (t := 27) (by kernel_rfl) rfl rfl rfl (fun _ _ _ h => h) (fun _ => hE) ?_
            refine dr_take_offu (i := 23) (t := 27) (by kernel_rfl) rfl rfl rfl (fun _ _ _ h => h) (fun _ => hE) ?_
            refine dr_take_offu (i := 24) (t := 27) (by kernel_rfl) rfl rfl rfl (fun _ _ _ h => h) (fun _ => hE) ?_
            refine dr_take_offu (i := 25) (t := 27) (by kernel_rfl) rfl rfl rfl (fun _ _ _ h => h) (fun _ => hE) ?_
            refine dr_take_off (i := 26) (t := 24) (c := t22) (by kernel_rfl) rfl rfl rfl hc7 (fun _ _ _ h => h) (fun _ => hE) ?_
            refine dr_takeP (i := 27) (by kernel_rfl) rfl (fun _ _ _ h => h) (fun _ => hE) (fun _ => ex_pick1 (b := t22) rfl hc7 (v := (.bool true)) rfl) ?_
            refine dr_end (by kernel_rfl) ?_
            exact then_n ⟨true, _, rfl, mk_upds' (ae rfl (ae rfl (ae rfl (ae rfl (ae rfl (ae rfl ae0)))))), h⟩
          · rw [if_neg hc7] at h
            refine dr_takeP_on (i := 13) (t := 24) (c := t22) (by kernel_rfl) rfl rfl rfl (Bool.eq_false_iff.2 hc7) (fun _ _ _ h => h) (fun _ => hE) (fun _ => ex_move (v := (.int .i64 s1)) rfl) ?_
            refine dr_takeP_on (i := 14) (t := 24) (c := t22) (by kernel_rfl) rfl rfl rfl (Bool.eq_false_iff.2 hc7) (fun _ _ _ h => h) (fun _ => hE) (fun _ => ex_gtr (a := s1) (b := 0) rfl rfl) ?_
            refine dr_takeP_on (i := 15) (t := 24) (c := t22) (by kernel_rfl) rfl rfl rfl (Bool.eq_false_iff.2 hc7) (fun _ _ _ h => h) (fun _ => hE) (fun _ => ex_move (v := (.bool (decide (0 < s1)))) rfl) ?_
            by_cases hc8 : 0 < s1
            · rw [if_pos hc8] at h
              refine dr_takeP_on (i := 16) (t := 27) (c := (decide (0 < s1))) (by kernel_rfl) rfl rfl rfl (decide_eq_true hc8) (fun _ _ _ h => h) (fun _ => hE) (fun _ => ex_move (v := (Sl.v t0)) rfl) ?_
              refine dr_takeP_on (i := 17) (t := 27) (c := (decide (0 < s1))) (by kernel_rfl) rfl rfl rfl (decide_eq_true hc8) (fun _ _ _ h => h) (fun _ => hE) (fun _ => ex_move (v := (.int .i64 s1)) rfl) ?_
              refine dr_takeP_on (i := 18) (t := 27) (c := (decide (0 < s1))) (by kernel_rfl) rfl rfl rfl (decide_eq_true hc8) (fun _ _ _ h => h) (fun _ => hE) (fun _ => ex_sub (a := s1) (b := 1) rfl rfl) ?_
              obtain ⟨t31, ht31, h⟩ := h
              refine dr_takeP_on (i := 19) (t := 27) (c := (decide (0 < s1))) (by kernel_rfl) rfl rfl rfl (decide_eq_true hc8) (fun _ _ _ h => h) (fun _ => hE) (fun _ => (fun r => ex_indexAddr rfl rfl r) (ht31 _)) ?_
              obtain ⟨t32, ht32, h⟩ := h
              refine dr_take_on (i := 20) (t := 27) (c := (decide (0 < s1))) (by kernel_rfl) rfl rfl rfl (decide_eq_true hc8) (fun _ _ _ h => h) hE (fun _ hw => (fun r => ex_load rfl r) (ht32 _ hw)) ?_
              obtain ⟨t34, ht34, h⟩ := h
              refine dr_take_on (i := 22) (t := 27) (c := (decide (0 < s1))) (by kernel_rfl) rfl rfl rfl (decide_eq_true hc8) (fun _ _ _ h => h) hE (fun _ hw => (fun r => ex_load rfl r) (ht34 _ hw)) ?_
              refine dr_only_on (i := 21) (t := 27) (c := (decide (0 < s1))) (by kernel_rfl) rfl rfl rfl (decide_eq_true hc8) ?_
              refine o_cal en63 rfl h ?_; clear h; intro t33 w h; obtain ⟨hx, h⟩ := h; replace hE := hE.trans hx; clear hx; refine ⟨fun _ => hE, ?_⟩
              refine dr_only_on (i := 23) (t := 27) (c := (decide (0 < s1))) (by kernel_rfl) rfl rfl rfl (decide_eq_true hc8) ?_
              refine o_cal en63 rfl h ?_; clear h; intro t35 w h; obtain ⟨hx, h⟩ := h; replace hE := hE.trans hx; clear hx; refine ⟨fun _ => hE, ?_⟩
              refine dr_only_on (i := 24) (t := 27) (c := (decide (0 < s1))) (by kernel_rfl) rfl rfl rfl (decide_eq_true hc8) ?_
              refine o_cal en111 rfl h ?_; clear h; intro t36 w h; obtain ⟨hx, h⟩ := h; replace hE := hE.trans hx; clear hx; refine ⟨fun _ => hE, ?_⟩
              refine dr_takeP_on (i := 25) (t := 27) (c := (decide (0 < s1))) (by kernel_rfl) rfl rfl rfl (decide_eq_true hc8) (fun _ _ _ h => h) (fun _ => hE) (fun _ => ex_geq (a := t36) (b := 0) rfl rfl) ?_
              refine dr_takeP_on (i := 26) (t := 24) (c := t22) (by kernel_rfl) rfl rfl rfl (Bool.eq_false_iff.2 hc7) (fun _ _ _ h => h) (fun _ => hE) (fun _ => ex_pick1 (b := (decide (0 < s1))) rfl (decide_eq_true hc8) (v := (.bool (decide (0 ≤ t36)))) rfl) ?_
              refine dr_takeP (i := 27) (by kernel_rfl) rfl (fun _ _ _ h => h) (fun _ => hE) (fun _ => ex_pick0 (b := t22) rfl (Bool.eq_false_iff.2 hc7) (v := (.bool (decide (0 ≤ t36)))) rfl) ?_
              refine dr_end (by kernel_rfl) ?_
              exact then_n ⟨(decide (0 ≤ t36)), _, rfl, mk_upds' (ae rfl (ae rfl (ae rfl (ae rfl (ae rfl (ae rfl ae0)))))), h⟩
            · rw [if_neg hc8] at h
              refine dr_take_off (i := 16) (t := 27) (c := (decide (0 < s1))) (by kernel_rfl) rfl rfl rfl (decide_eq_false hc8) (fun _ _ _ h => h) (fun _ => hE) ?_
              refine dr_take_off (i := 17) (t := 27) (c := (decide (0 < s1))) (by kernel_rfl) rfl rfl rfl (decide_eq_false hc8) (fun _ _ _ h => h) (fun _ => hE) ?_
              refine dr_take_off (i := 18) (t := 27) (c := (decide (0 < s1))) (by kernel_rfl) rfl rfl rfl (decide_eq_false hc8) (fun _ _ _ h => h) (fun _ => hE) ?_
              refine dr_take_off (i := 19) (t := 27) (c := (decide (0 < s1))) (by kernel_rfl) rfl rfl rfl (decide_eq_false hc8) (fun _ _ _ h => h) (fun _ => hE) ?_
              refine dr_take_off (i := 20) (t := 27) (c := (decide (0 < s1))) (by kernel_rfl) rfl rfl rfl (decide_eq_false hc8) (fun _ _ _ h => h) (fun _ => hE) ?_
              refine dr_take_off (i := 21) (t := 27) (c := (decide (0 < s1))) (by kernel_rfl) rfl rfl rfl (decide_eq_false hc8) (fun _ _ _ h => h) (fun _ => hE) ?_
              refine dr_take_off (i := 22) (t := 27) (c := (decide (0 < s1))) (by kernel_rfl) rfl rfl rfl (decide_eq_false hc8) (fun _ _ _ h => h) (fun _ => hE) ?_
              refine dr_take_off (i := 23) (t := 27) (c := (decide (0 < s1))) (by kernel_rfl) rfl rfl rfl (decide_eq_false hc8) (fun _ _ _ h => h) (fun _ => hE) ?_
              refine dr_take_off (i := 24) (t := 27) (c := (decide (0 < s1))) (by kernel_rfl) rfl rfl rfl (decide_eq_false hc8) (fun _ _ _ h => h) (fun _ => hE) ?_
              refine dr_take_off (i := 25) (t := 27) (c := (decide (0 < s1))) (by kernel_rfl) rfl rfl rfl (decide_eq_false hc8) (fun _ _ _ h => h) (fun _ => hE) ?_
              refine dr_takeP_on (i := 26) (t := 24) (c := t22) (by kernel_rfl) rfl rfl rfl (Bool.eq_false_iff.2 hc7) (fun _ _ _ h => h) (fun _ => hE) (fun _ => ex_pick0 (b := (decide (0 < s1))) rfl (decide_eq_false hc8) (v := (.bool false)) rfl) ?_
              refine dr_takeP (i := 27) (by kernel_rfl) rfl (fun _ _ _ h => h) (fun _ => hE) (fun _ => ex_pick0 (b := t22) rfl (Bool.eq_false_iff.2 hc7) (v := (.bool false)) rfl) ?_
              refine dr_end (by kernel_rfl) ?_
              exact then_n ⟨false, _, rfl, mk_upds' (ae rfl (ae rfl (ae rfl (ae rfl (ae rfl (ae rfl ae0)))))), h⟩
  · rw [if_neg hc2] at h; refine cond_0 (b := (decide (s1 < (t0.n : Int)))) rfl (decide_eq_false hc2) ?_
    refine wp_exit ?_
    refine then_e ?_
    refine then_e ?_
    refine inb_e ?_
    refine then_n ?_
    refine seq_ ?_
    refine region_ ?_
    refine st_val (ex_assign (v := (.int .i64 (-1))) rfl) ?_
    refine wl_nil ?_
    refine then_n ?_
    refine wp_ret ?_
    refine ret_1 rfl rfl ⟨(-1), rfl, h⟩

/-- turnpike/check.dangling; slots 0:r, 1:there, 2:r, 3:there, 5:i, 6:t, 7:i, 8:x -/
def f94 (t0 : TResource) (t1 : (Option Nat)) (R : (Int) → World → Prop) (w : World) : Prop :=
  New 48 (TResource.cells t0) w fun b2 w =>
  Jn (σ := Unit) (fun k1 =>
    Rn Try.prog (Value.int .i64) (Instr.loadAt 3 (Ptr ((⟨b2, 0, none⟩ : Addr).add 0))) w fun t10 w =>
    if t10 = 2 then
      Rn Try.prog Sl.v (Instr.loadAt 45 (Ptr ((⟨b2, 0, none⟩ : Addr).add 3))) w fun t14 w =>
      Lp (σ := Int) (fun s3 w n3 =>
        if s3 < (t14.n : Int) then
          RnP Try.prog Ptr (Instr.indexAt 45 (Sl.v t14) (.int .i64 s3)) fun t19 =>
          Rn Try.prog TTarget.v (Instr.loadAt 84 (Ptr t19)) w fun t20 w =>
          New 84 (TTarget.cells (⟨⟨#[]⟩, ⟨#[]⟩, 0⟩ : TTarget)) w fun b6 w =>
          RnU Try.prog (Instr.storeAt 84 (Ptr (⟨b6, 0, none⟩ : Addr)) (TTarget.v t20)) w fun w =>
          Jn (σ := Bool) (fun k5 =>
            Rn Try.prog Value.string (Instr.loadAt 9 (Ptr ((⟨b6, 0, none⟩ : Addr).add 0))) w fun t22 w =>
            if t22 ≠ (⟨#[]⟩ : ByteArray) then
              Rn Try.prog Value.string (Instr.loadAt 9 (Ptr ((⟨b6, 0, none⟩ : Addr).add 0))) w fun t27 w =>
              Rn Try.prog Value.bool (Instr.lookup 115 (.map t1) (TKey.v (⟨1, t27⟩ : TKey)) false) w fun t29 w =>
              if (!t29) = true then
                k5 true w
              else
                Rn Try.prog Value.string (Instr.loadAt 9 (Ptr ((⟨b6, 0, none⟩ : Addr).add 0))) w fun t34 w =>
                if t34 = (⟨#[]⟩ : ByteArray) then
                  Rn Try.prog Value.string (Instr.loadAt 9 (Ptr ((⟨b6, 0, none⟩ : Addr).add 1))) w fun t39 w =>
                  Rn Try.prog Value.bool (Instr.lookup 115 (.map t1) (TKey.v (⟨2, t39⟩ : TKey)) false) w fun t41 w =>
                  k5 (!t41) w
                else
                  k5 false w
            else
              Rn Try.prog Value.string (Instr.loadAt 9 (Ptr ((⟨b6, 0, none⟩ : Addr).add 0))) w fun t34_1 w =>
              if t34_1 = (⟨#[]⟩ : ByteArray) then
                Rn Try.prog Value.string (Instr.loadAt 9 (Ptr ((⟨b6, 0, none⟩ : Addr).add 1))) w fun t39_1 w =>
                Rn Try.prog Value.bool (Instr.lookup 115 (.map t1) (TKey.v (⟨2, t39_1⟩ : TKey)) false) w fun t41_1 w =>
                k5 (!t41_1) w
              else
                k5 false w
          ) fun s5 w =>
            if s5 = true then
              R (IntKind.i64.wrap (s3 + 1)) w
            else
              n3 (IntKind.i64.wrap (s3 + 1)) w
        else
          k1 () w
      ) 0 w
    else
      if t10 = 3 then
        Rn Try.prog Sl.v (Instr.loadAt 46 (Ptr ((⟨b2, 0, none⟩ : Addr).add 5))) w fun t51 w =>
        Lp (σ := Int) (fun s12 w n12 =>
          if s12 < (t51.n : Int) then
            RnP Try.prog Ptr (Instr.indexAt 46 (Sl.v t51) (.int .i64 s12)) fun t56 =>
            Rn Try.prog TRule.v (Instr.loadAt 91 (Ptr t56)) w fun t57 w =>
            New 91 (TRule.cells (⟨⟨#[]⟩, ⟨#[]⟩, ⟨#[]⟩, false⟩ : TRule)) w fun b8 w =>
            RnU Try.prog (Instr.storeAt 91 (Ptr (⟨b8, 0, none⟩ : Addr)) (TRule.v t57)) w fun w =>
            Rn Try.prog Value.string (Instr.loadAt 9 (Ptr ((⟨b8, 0, none⟩ : Addr).add 2))) w fun t60 w =>
            Rn Try.prog Value.bool (Instr.lookup 115 (.map t1) (TKey.v (⟨2, t60⟩ : TKey)) false) w fun t62 w =>
            if (!t62) = true then
              R (IntKind.i64.wrap (s12 + 1)) w
            else
              n12 (IntKind.i64.wrap (s12 + 1)) w
          else
            k1 () w
        ) 0 w
      else
        if t10 = 4 then
          Rn Try.prog Value.string (Instr.loadAt 9 (Ptr ((⟨b2, 0, none⟩ : Addr).add 6))) w fun t71 w =>
          Rn Try.prog Value.bool (Instr.lookup 115 (.map t1) (TKey.v (⟨3, t71⟩ : TKey)) false) w fun t73 w =>
          if (!t73) = true then
            R 0 w
          else
            k1 () w
        else
          k1 () w
  ) fun s1 w =>
    R (-1) w
theorem c94 {t0 : TResource} {t1 : (Option Nat)} {R : (Int) → World → Prop} {w : World} (h : f94 t0 t1 R w) :
    Cal Try.prog (Value.int .i64) 94 #[(TResource.v t0), (.map t1)] w R := by
  unfold f94 at h
  refine calls_ Try.func94 Try.ntmps94 rfl rfl ?_
  refine seq_ ?_
  refine region_ ?_
  refine st_new (f := (fun b => Ptr ⟨b, 0, none⟩)) (ex_boxN rfl rfl) h ?_; clear h; intro b2 w h
  refine st_val (ex_assign (v := (.int .i64 0)) rfl) ?_
  refine wl_nil ?_
  refine then_n ?_
  refine wp_jn (σ := Unit) (fun s1 l => ∃ j, l = upds j []) h ?_ ?_
  · clear h; rintro s1 _ w ⟨j, rfl⟩ h
    refine seq_ ?_
    refine region_ ?_
    refine st_val (ex_assign (v := (.int .i64 (-1))) rfl) ?_
    refine wl_nil ?_
    refine then_n ?_
    refine wp_ret ?_
    refine ret_1 rfl rfl ⟨(-1), rfl, h⟩
  · clear h; intro k1 h
    refine seq_ ?_
    refine region_ ?_
    refine st_val (ex_fa fa48_0 (p := (⟨b2, 0, none⟩ : Addr)) rfl) ?_
    refine st_rn (fun r => ex_load rfl r) h ?_; clear h; intro t10 w h
    refine wl_nil ?_
    refine then_n ?_
    refine wp_block ?_
    refine seq_ ?_
    refine region_ ?_
    refine st_val (ex_eql (a := t10) (b := 2) rfl rfl) ?_
    refine st_val (ex_assign (v := (.bool (decide (t10 = 2)))) rfl) ?_
    refine wl_nil ?_
    refine then_n ?_
    by_cases hc2 : t10 = 2
    · rw [if_pos hc2] at h; refine cond_1 (b := (decide (t10 = 2))) rfl (decide_eq_true hc2) ?_
      refine seq_ ?_
      refine region_ ?_
      refine st_val (ex_fa fa48_3 (p := (⟨b2, 0, none⟩ : Addr)) rfl) ?_
      refine st_rn (fun r => ex_load rfl r) h ?_; clear h; intro t14 w h
      refine st_val (ex_len (s := t14) Try.underlying45 rfl) ?_
      refine st_val (ex_move (v := (.int .i64 0)) rfl) ?_
      refine wl_nil ?_
      refine then_n ?_
      refine wp_block ?_
      refine wp_lp (σ := Int) (fun s3 a => ∃ j, a = F 75 (upds j [(1, (.map t1)), (14, (Sl.v t14)), (15, (.int .i64 (t14.n : Int))), (16, (.int .i64 s3))])) h (mk_upds (ae rfl (ae rfl (ae rfl (ae rfl ae0))))) ?_
      clear h; rintro s3 _ w n3 ⟨j, rfl⟩ h
      refine seq_ ?_
      refine region_ ?_
      refine st_val (ex_lss (a := s3) (b := (t14.n : Int)) rfl rfl) ?_
      refine wl_nil ?_
      refine then_n ?_
      refine seq_ ?_
      by_cases hc4 : s3 < (t14.n : Int)
      · rw [if_pos hc4] at h; refine cond_1 (b := (decide (s3 < (t14.n : Int)))) rfl (decide_eq_true hc4) ?_
        refine wp_skip ?_
        refine then_n ?_
        refine seq_ ?_
        refine wp_block ?_
        refine seq_ ?_
        refine region_ ?_
        refine st_val (ex_move (v := (.int .i64 s3)) rfl) ?_
        refine st_rnp (fun r => ex_indexAddr rfl rfl r) h ?_; clear h; intro t19 h
        refine st_rn (fun r => ex_load rfl r) h ?_; clear h; intro t20 w h
        refine st_new (f := (fun b => Ptr ⟨b, 0, none⟩)) (ex_allocN zero84 rfl) h ?_; clear h; intro b6 w h
        refine st_val (ex_assign (v := (.int .i64 s3)) rfl) ?_
        refine st_rnu (fun r => ex_store rfl rfl r) h ?_; clear h; intro w h
        refine wl_nil ?_
        refine then_n ?_
        refine wp_jn (σ := Bool) (fun s5 l => ∃ j, l = upds j [(1, (.map t1)), (5, (.int .i64 s3)), (14, (Sl.v t14)), (15, (.int .i64 (t14.n : Int))), (16, (.int .i64 s3)), (44, (.bool s5))]) h ?_ ?_
        · clear h; rintro s5 _ w ⟨j, rfl⟩ h
          by_cases hc10 : s5 = true
          · rw [if_pos hc10] at h; refine cond_1 (b := s5) rfl hc10 ?_
            refine seq_ ?_
            refine region_ ?_
            refine st_val (ex_move (v := (.int .i64 s3)) rfl) ?_
            refine st_val (ex_add (a := s3) (b := 1) rfl rfl) ?_
            refine st_val (ex_assign (v := (.int .i64 (IntKind.i64.wrap (s3 + 1)))) rfl) ?_
            refine wl_nil ?_
            refine then_n ?_
            refine wp_ret ?_
            refine inb_r ?_
            refine then_r ?_
            refine then_r ?_
            refine inb_r ?_
            refine inb_r ?_
            refine then_r ?_
            refine ret_1 rfl rfl ⟨(IntKind.i64.wrap (s3 + 1)), rfl, h⟩
          · rw [if_neg hc10] at h; refine cond_0 (b := s5) rfl (Bool.eq_false_iff.2 hc10) ?_
            refine wp_skip ?_
            refine inb_n ?_
            refine then_n ?_
            refine region_ ?_
            refine st_val (ex_add (a := s3) (b := 1) rfl rfl) ?_
            refine st_val (ex_move (v := (.int .i64 (IntKind.i64.wrap (s3 + 1)))) rfl) ?_
            refine wl_nil ?_
            exact then_n ⟨(IntKind.i64.wrap (s3 + 1)), mk_upds (ae rfl (ae rfl (ae rfl (ae rfl ae0)))), h⟩
        · clear h; intro k5 h
          refine region_ ?_
          refine st_val (ex_fa fa84_0 (p := (⟨b6, 0, none⟩ : Addr)) rfl) ?_
          refine st_rn (fun r => ex_load rfl r) h ?_; clear h; intro t22 w h
          refine st_val (ex_neqS (a := t22) (b := (⟨#[]⟩ : ByteArray)) rfl rfl) ?_
          refine st_val (ex_move (v := (.bool (decide (t22 ≠ (⟨#[]⟩ : ByteArray))))) rfl) ?_
          by_cases hc6 : t22 ≠ (⟨#[]⟩ : ByteArray)
          · rw [if_pos hc6] at h
            refine st_on (t := 24) (c := (decide (t22 ≠ (⟨#[]⟩ : ByteArray)))) rfl rfl (decide_eq_true hc6) ?_
            refine st_val (ex_move (v := (.map t1)) rfl) ?_
            refine st_on (t := 24) (c := (decide (t22 ≠ (⟨#[]⟩ : ByteArray)))) rfl rfl (decide_eq_true hc6) ?_
            refine st_val (ex_fa fa84_0 (p := (⟨b6, 0, none⟩ : Addr)) rfl) ?_
            refine st_on (t := 24) (c := (decide (t22 ≠ (⟨#[]⟩ : ByteArray)))) rfl rfl (decide_eq_true hc6) ?_
            refine st_rn (fun r => ex_load rfl r) h ?_; clear h; intro t27 w h
            refine st_on (t := 24) (c := (decide (t22 ≠ (⟨#[]⟩ : ByteArray)))) rfl rfl (decide_eq_true hc6) ?_
            refine st_val (ex_build (a' := [(0, (.int .i64 1)), (1, (.string t27))]) (v := TKey.v (⟨1, t27⟩ : TKey)) rfl (e_build Try.underlying113 zero113 rfl pl113 rfl _)) ?_
            refine st_on (t := 24) (c := (decide (t22 ≠ (⟨#[]⟩ : ByteArray)))) rfl rfl (decide_eq_true hc6) ?_
            refine st_rn (fun r => ex_lookup rfl rfl r) h ?_; clear h; intro t29 w h
            refine st_on (t := 24) (c := (decide (t22 ≠ (⟨#[]⟩ : ByteArray)))) rfl rfl (decide_eq_true hc6) ?_
            refine st_val (ex_not (b := t29) rfl) ?_
            refine st_val (ex_pick1 (b := (decide (t22 ≠ (⟨#[]⟩ : ByteArray)))) rfl (decide_eq_true hc6) (v := (.bool (!t29))) rfl) ?_
            refine st_val (ex_move (v := (.bool (!t29))) rfl) ?_
            by_cases hc7 : (!t29) = true
            · rw [if_pos hc7] at h
              refine st_off (t := 32) (c := (!t29)) rfl rfl hc7 ?_
              refine st_off (t := 32) (c := (!t29)) rfl rfl hc7 ?_
              refine st_off (t := 32) (c := (!t29)) rfl rfl hc7 ?_
              refine st_off (t := 32) (c := (!t29)) rfl rfl hc7 ?_
              refine st_offu (t := 36) rfl rfl ?_
              refine st_offu (t := 36) rfl rfl ?_
              refine st_offu (t := 36) rfl rfl ?_
              refine st_offu (t := 36) rfl rfl ?_
              refine st_offu (t := 36) rfl rfl ?_
              refine st_offu (t := 36) rfl rfl ?_
              refine st_off (t := 32) (c := (!t29)) rfl rfl hc7 ?_
              refine st_val (ex_pick1 (b := (!t29)) rfl hc7 (v := (.bool true)) rfl) ?_
              refine wl_nil ?_
              exact then_n ⟨true, _, rfl, mk_upds' (ae rfl (ae rfl (ae rfl (ae rfl (ae rfl (ae rfl ae0)))))), h⟩
            · rw [if_neg hc7] at h
              refine st_on (t := 32) (c := (!t29)) rfl rfl (Bool.eq_false_iff.2 hc7) ?_
              refine st_val (ex_fa fa84_0 (p := (⟨b6, 0, none⟩ : Addr)) rfl) ?_
              refine st_on (t := 32) (c := (!t29)) rfl rfl (Bool.eq_false_iff.2 hc7) ?_
              refine st_rn (fun r => ex_load rfl r) h ?_; clear h; intro t34 w h
              refine st_on (t := 32) (c := (!t29)) rfl rfl (Bool.eq_false_iff.2 hc7) ?_
              refine st_val (ex_eqlS (a := t34) (b := (⟨#[]⟩ : ByteArray)) rfl rfl) ?_
              refine st_on (t := 32) (c := (!t29)) rfl rfl (Bool.eq_false_iff.2 hc7) ?_
              refine st_val (ex_move (v := (.bool (decide (t34 = (⟨#[]⟩ : ByteArray))))) rfl) ?_
              by_cases hc8 : t34 = (⟨#[]⟩ : ByteArray)
              · rw [if_pos hc8] at h
                refine st_on (t := 36) (c := (decide (t34 = (⟨#[]⟩ : ByteArray)))) rfl rfl (decide_eq_true hc8) ?_
                refine st_val (ex_move (v := (.map t1)) rfl) ?_
                refine st_on (t := 36) (c := (decide (t34 = (⟨#[]⟩ : ByteArray)))) rfl rfl (decide_eq_true hc8) ?_
                refine st_val (ex_fa fa84_1 (p := (⟨b6, 0, none⟩ : Addr)) rfl) ?_
                refine st_on (t := 36) (c := (decide (t34 = (⟨#[]⟩ : ByteArray)))) rfl rfl (decide_eq_true hc8) ?_
                refine st_rn (fun r => ex_load rfl r) h ?_; clear h; intro t39 w h
                refine st_on (t := 36) (c := (decide (t34 = (⟨#[]⟩ : ByteArray)))) rfl rfl (decide_eq_true hc8) ?_
                refine st_val (ex_build (a' := [(0, (.int .i64 2)), (1, (.string t39))]) (v := TKey.v (⟨2, t39⟩ : TKey)) rfl (e_build Try.underlying113 zero113 rfl pl113 rfl _)) ?_
                refine st_on (t := 36) (c := (decide (t34 = (⟨#[]⟩ : ByteArray)))) rfl rfl (decide_eq_true hc8) ?_
                refine st_rn (fun r => ex_lookup rfl rfl r) h ?_; clear h; intro t41 w h
                refine st_on (t := 36) (c := (decide (t34 = (⟨#[]⟩ : ByteArray)))) rfl rfl (decide_eq_true hc8) ?_
                refine st_val (ex_not (b := t41) rfl) ?_
                refine st_on (t := 32) (c := (!t29)) rfl rfl (Bool.eq_false_iff.2 hc7) ?_
                refine st_val (ex_pick1 (b := (decide (t34 = (⟨#[]⟩ : ByteArray)))) rfl (decide_eq_true hc8) (v := (.bool (!t41))) rfl) ?_
                refine st_val (ex_pick0 (b := (!t29)) rfl (Bool.eq_false_iff.2 hc7) (v := (.bool (!t41))) rfl) ?_
                refine wl_nil ?_
                exact then_n ⟨(!t41), _, rfl, mk_upds' (ae rfl (ae rfl (ae rfl (ae rfl (ae rfl (ae rfl ae0)))))), h⟩
              · rw [if_neg hc8] at h
                refine st_off (t := 36) (c := (decide (t34 = (⟨#[]⟩ : ByteArray)))) rfl rfl (decide_eq_false hc8) ?_
                refine st_off (t := 36) (c := (decide (t34 = (⟨#[]⟩ : ByteArray)))) rfl rfl (decide_eq_false hc8) ?_
                refine st_off (t := 36) (c := (decide (t34 = (⟨#[]⟩ : ByteArray)))) rfl rfl (decide_eq_false hc8) ?_
                refine st_off (t := 36) (c := (decide (t34 = (⟨#[]⟩ : ByteArray)))) rfl rfl (decide_eq_false hc8) ?_
                refine st_off (t := 36) (c := (decide (t34 = (⟨#[]⟩ : ByteArray)))) rfl rfl (decide_eq_false hc8) ?_
                refine st_off (t := 36) (c := (decide (t34 = (⟨#[]⟩ : ByteArray)))) rfl rfl (decide_eq_false hc8) ?_
                refine st_on (t := 32) (c := (!t29)) rfl rfl (Bool.eq_false_iff.2 hc7) ?_
                refine st_val (ex_pick0 (b := (decide (t34 = (⟨#[]⟩ : ByteArray)))) rfl (decide_eq_false hc8) (v := (.bool false)) rfl) ?_
                refine st_val (ex_pick0 (b := (!t29)) rfl (Bool.eq_false_iff.2 hc7) (v := (.bool false)) rfl) ?_
                refine wl_nil ?_
                exact then_n ⟨false, _, rfl, mk_upds' (ae rfl (ae rfl (ae rfl (ae rfl (ae rfl (ae rfl ae0)))))), h⟩
          · rw [if_neg hc6] at h
            refine st_off (t := 24) (c := (decide (t22 ≠ (⟨#[]⟩ : ByteArray)))) rfl rfl (decide_eq_false hc6) ?_
            refine st_off (t := 24) (c := (decide (t22 ≠ (⟨#[]⟩ : ByteArray)))) rfl rfl (decide_eq_false hc6) ?_
            refine st_off (t := 24) (c := (decide (t22 ≠ (⟨#[]⟩ : ByteArray)))) rfl rfl (decide_eq_false hc6) ?_
            refine st_off (t := 24) (c := (decide (t22 ≠ (⟨#[]⟩ : ByteArray)))) rfl rfl (decide_eq_false hc6) ?_
            refine st_off (t := 24) (c := (decide (t22 ≠ (⟨#[]⟩ : ByteArray)))) rfl rfl (decide_eq_false hc6) ?_
            refine st_off (t := 24) (c := (decide (t22 ≠ (⟨#[]⟩ : ByteArray)))) rfl rfl (decide_eq_false hc6) ?_
            refine st_val (ex_pick0 (b := (decide (t22 ≠ (⟨#[]⟩ : ByteArray)))) rfl (decide_eq_false hc6) (v := (.bool false)) rfl) ?_
            refine st_val (ex_move (v := (.bool false)) rfl) ?_
            refine st_on (t := 32) (c := false) rfl rfl (rfl : false = false) ?_
            refine st_val (ex_fa fa84_0 (p := (⟨b6, 0, none⟩ : Addr)) rfl) ?_
            refine st_on (t := 32) (c := false) rfl rfl (rfl : false = false) ?_
            refine st_rn (fun r => ex_load rfl r) h ?_; clear h; intro t34_1 w h
            refine st_on (t := 32) (c := false) rfl rfl (rfl : false = false) ?_
            refine st_val (ex_eqlS (a := t34_1) (b := (⟨#[]⟩ : ByteArray)) rfl rfl) ?_
            refine st_on (t := 32) (c := false) rfl rfl (rfl : false = false) ?_
            refine st_val (ex_move (v := (.bool (decide (t34_1 = (⟨#[]⟩ : ByteArray))))) rfl) ?_
            by_cases hc9 : t34_1 = (⟨#[]⟩ : ByteArray)
            · rw [if_pos hc9] at h
              refine st_on (t := 36) (c := (decide (t34_1 = (⟨#[]⟩ : ByteArray)))) rfl rfl (decide_eq_true hc9) ?_
              refine st_val (ex_move (v := (.map t1)) rfl) ?_
              refine st_on (t := 36) (c := (decide (t34_1 = (⟨#[]⟩ : ByteArray)))) rfl rfl (decide_eq_true hc9) ?_
              refine st_val (ex_fa fa84_1 (p := (⟨b6, 0, none⟩ : Addr)) rfl) ?_
              refine st_on (t := 36) (c := (decide (t34_1 = (⟨#[]⟩ : ByteArray)))) rfl rfl (decide_eq_true hc9) ?_
              refine st_rn (fun r => ex_load rfl r) h ?_; clear h; intro t39_1 w h
              refine st_on (t := 36) (c := (decide (t34_1 = (⟨#[]⟩ : ByteArray)))) rfl rfl (decide_eq_true hc9) ?_
              refine st_val (ex_build (a' := [(0, (.int .i64 2)), (1, (.string t39_1))]) (v := TKey.v (⟨2, t39_1⟩ : TKey)) rfl (e_build Try.underlying113 zero113 rfl pl113 rfl _)) ?_
              refine st_on (t := 36) (c := (decide (t34_1 = (⟨#[]⟩ : ByteArray)))) rfl rfl (decide_eq_true hc9) ?_
              refine st_rn (fun r => ex_lookup rfl rfl r) h ?_; clear h; intro t41_1 w h
              refine st_on (t := 36) (c := (decide (t34_1 = (⟨#[]⟩ : ByteArray)))) rfl rfl (decide_eq_true hc9) ?_
              refine st_val (ex_not (b := t41_1) rfl) ?_
              refine st_on (t := 32) (c := false) rfl rfl (rfl : false = false) ?_
              refine st_val (ex_pick1 (b := (decide (t34_1 = (⟨#[]⟩ : ByteArray)))) rfl (decide_eq_true hc9) (v := (.bool (!t41_1))) rfl) ?_
              refine st_val (ex_pick0 (b := false) rfl (rfl : false = false) (v := (.bool (!t41_1))) rfl) ?_
              refine wl_nil ?_
              exact then_n ⟨(!t41_1), _, rfl, mk_upds' (ae rfl (ae rfl (ae rfl (ae rfl (ae rfl (ae rfl ae0)))))), h⟩
            · rw [if_neg hc9] at h
              refine st_off (t := 36) (c := (decide (t34_1 = (⟨#[]⟩ : ByteArray)))) rfl rfl (decide_eq_false hc9) ?_
              refine st_off (t := 36) (c := (decide (t34_1 = (⟨#[]⟩ : ByteArray)))) rfl rfl (decide_eq_false hc9) ?_
              refine st_off (t := 36) (c := (decide (t34_1 = (⟨#[]⟩ : ByteArray)))) rfl rfl (decide_eq_false hc9) ?_
              refine st_off (t := 36) (c := (decide (t34_1 = (⟨#[]⟩ : ByteArray)))) rfl rfl (decide_eq_false hc9) ?_
              refine st_off (t := 36) (c := (decide (t34_1 = (⟨#[]⟩ : ByteArray)))) rfl rfl (decide_eq_false hc9) ?_
              refine st_off (t := 36) (c := (decide (t34_1 = (⟨#[]⟩ : ByteArray)))) rfl rfl (decide_eq_false hc9) ?_
              refine st_on (t := 32) (c := false) rfl rfl (rfl : false = false) ?_
              refine st_val (ex_pick0 (b := (decide (t34_1 = (⟨#[]⟩ : ByteArray)))) rfl (decide_eq_false hc9) (v := (.bool false)) rfl) ?_
              refine st_val (ex_pick0 (b := false) rfl (rfl : false = false) (v := (.bool false)) rfl) ?_
              refine wl_nil ?_
              exact then_n ⟨false, _, rfl, mk_upds' (ae rfl (ae rfl (ae rfl (ae rfl (ae rfl (ae rfl ae0)))))), h⟩
      · rw [if_neg hc4] at h; refine cond_0 (b := (decide (s3 < (t14.n : Int)))) rfl (decide_eq_false hc4) ?_
        refine wp_exit ?_
        refine then_e ?_
        refine then_e ?_
        refine inb_e ?_
        refine inb_n ?_
        exact then_n ⟨(), _, rfl, mk_upds' ae0, h⟩
    · rw [if_neg hc2] at h; refine cond_0 (b := (decide (t10 = 2))) rfl (decide_eq_false hc2) ?_
      refine seq_ ?_
      refine region_ ?_
      refine st_val (ex_eql (a := t10) (b := 3) rfl rfl) ?_
      refine st_val (ex_assign (v := (.bool (decide (t10 = 3)))) rfl) ?_
      refine wl_nil ?_
      refine then_n ?_
      by_cases hc11 : t10 = 3
      · rw [if_pos hc11] at h; refine cond_1 (b := (decide (t10 = 3))) rfl (decide_eq_true hc11) ?_
        refine seq_ ?_
        refine region_ ?_
        refine st_val (ex_fa fa48_5 (p := (⟨b2, 0, none⟩ : Addr)) rfl) ?_
        refine st_rn (fun r => ex_load rfl r) h ?_; clear h; intro t51 w h
        refine st_val (ex_len (s := t51) Try.underlying46 rfl) ?_
        refine st_val (ex_move (v := (.int .i64 0)) rfl) ?_
        refine wl_nil ?_
        refine then_n ?_
        refine wp_block ?_
        refine wp_lp (σ := Int) (fun s12 a => ∃ j, a = F 75 (upds j [(1, (.map t1)), (51, (Sl.v t51)), (52, (.int .i64 (t51.n : Int))), (53, (.int .i64 s12))])) h (mk_upds (ae rfl (ae rfl (ae rfl (ae rfl ae0))))) ?_
        clear h; rintro s12 _ w n12 ⟨j, rfl⟩ h
        refine seq_ ?_
        refine region_ ?_
        refine st_val (ex_lss (a := s12) (b := (t51.n : Int)) rfl rfl) ?_
        refine wl_nil ?_
        refine then_n ?_
        refine seq_ ?_
        by_cases hc13 : s12 < (t51.n : Int)
        · rw [if_pos hc13] at h; refine cond_1 (b := (decide (s12 < (t51.n : Int)))) rfl (decide_eq_true hc13) ?_
          refine wp_skip ?_
          refine then_n ?_
          refine seq_ ?_
          refine wp_block ?_
          refine seq_ ?_
          refine region_ ?_
          refine st_val (ex_move (v := (.int .i64 s12)) rfl) ?_
          refine st_rnp (fun r => ex_indexAddr rfl rfl r) h ?_; clear h; intro t56 h
          refine st_rn (fun r => ex_load rfl r) h ?_; clear h; intro t57 w h
          refine st_new (f := (fun b => Ptr ⟨b, 0, none⟩)) (ex_allocN zero91 rfl) h ?_; clear h; intro b8 w h
          refine st_val (ex_assign (v := (.int .i64 s12)) rfl) ?_
          refine st_rnu (fun r => ex_store rfl rfl r) h ?_; clear h; intro w h
          refine wl_nil ?_
          refine then_n ?_
          refine seq_ ?_
          refine region_ ?_
          refine st_val (ex_move (v := (.map t1)) rfl) ?_
          refine st_val (ex_fa fa91_2 (p := (⟨b8, 0, none⟩ : Addr)) rfl) ?_
          refine st_rn (fun r => ex_load rfl r) h ?_; clear h; intro t60 w h
          refine st_val (ex_build (a' := [(0, (.int .i64 2)), (1, (.string t60))]) (v := TKey.v (⟨2, t60⟩ : TKey)) rfl (e_build Try.underlying113 zero113 rfl pl113 rfl _)) ?_
          refine st_rn (fun r => ex_lookup rfl rfl r) h ?_; clear h; intro t62 w h
          refine st_val (ex_not (b := t62) rfl) ?_
          refine wl_nil ?_
          refine then_n ?_
          by_cases hc14 : (!t62) = true
          · rw [if_pos hc14] at h; refine cond_1 (b := (!t62)) rfl hc14 ?_
            refine seq_ ?_
            refine region_ ?_
            refine st_val (ex_move (v := (.int .i64 s12)) rfl) ?_
            refine st_val (ex_add (a := s12) (b := 1) rfl rfl) ?_
            refine st_val (ex_assign (v := (.int .i64 (IntKind.i64.wrap (s12 + 1)))) rfl) ?_
            refine wl_nil ?_
            refine then_n ?_
            refine wp_ret ?_
            refine inb_r ?_
            refine then_r ?_
            refine then_r ?_
            refine inb_r ?_
            refine inb_r ?_
            refine then_r ?_
            refine ret_1 rfl rfl ⟨(IntKind.i64.wrap (s12 + 1)), rfl, h⟩
          · rw [if_neg hc14] at h; refine cond_0 (b := (!t62)) rfl (Bool.eq_false_iff.2 hc14) ?_
            refine wp_skip ?_
            refine inb_n ?_
            refine then_n ?_
            refine region_ ?_
            refine st_val (ex_add (a := s12) (b := 1) rfl rfl) ?_
            refine st_val (ex_move (v := (.int .i64 (IntKind.i64.wrap (s12 + 1)))) rfl) ?_
            refine wl_nil ?_
            exact then_n ⟨(IntKind.i64.wrap (s12 + 1)), mk_upds (ae rfl (ae rfl (ae rfl (ae rfl ae0)))), h⟩
        · rw [if_neg hc13] at h; refine cond_0 (b := (decide (s12 < (t51.n : Int)))) rfl (decide_eq_false hc13) ?_
          refine wp_exit ?_
          refine then_e ?_
          refine then_e ?_
          refine inb_e ?_
          refine inb_n ?_
          exact then_n ⟨(), _, rfl, mk_upds' ae0, h⟩
      · rw [if_neg hc11] at h; refine cond_0 (b := (decide (t10 = 3))) rfl (decide_eq_false hc11) ?_
        refine seq_ ?_
        refine region_ ?_
        refine st_val (ex_eql (a := t10) (b := 4) rfl rfl) ?_
        refine st_val (ex_assign (v := (.bool (decide (t10 = 4)))) rfl) ?_
        refine wl_nil ?_
        refine then_n ?_
        by_cases hc15 : t10 = 4
        · rw [if_pos hc15] at h; refine cond_1 (b := (decide (t10 = 4))) rfl (decide_eq_true hc15) ?_
          refine seq_ ?_
          refine region_ ?_
          refine st_val (ex_move (v := (.map t1)) rfl) ?_
          refine st_val (ex_fa fa48_6 (p := (⟨b2, 0, none⟩ : Addr)) rfl) ?_
          refine st_rn (fun r => ex_load rfl r) h ?_; clear h; intro t71 w h
          refine st_val (ex_build (a' := [(0, (.int .i64 3)), (1, (.string t71))]) (v := TKey.v (⟨3, t71⟩ : TKey)) rfl (e_build Try.underlying113 zero113 rfl pl113 rfl _)) ?_
          refine st_rn (fun r => ex_lookup rfl rfl r) h ?_; clear h; intro t73 w h
          refine st_val (ex_not (b := t73) rfl) ?_
          refine wl_nil ?_
          refine then_n ?_
          by_cases hc16 : (!t73) = true
          · rw [if_pos hc16] at h; refine cond_1 (b := (!t73)) rfl hc16 ?_
            refine seq_ ?_
            refine region_ ?_
            refine st_val (ex_assign (v := (.int .i64 0)) rfl) ?_
            refine wl_nil ?_
            refine then_n ?_
            refine wp_ret ?_
            refine inb_r ?_
            refine then_r ?_
            refine ret_1 rfl rfl ⟨0, rfl, h⟩
          · rw [if_neg hc16] at h; refine cond_0 (b := (!t73)) rfl (Bool.eq_false_iff.2 hc16) ?_
            refine wp_skip ?_
            refine inb_n ?_
            exact then_n ⟨(), _, rfl, mk_upds' ae0, h⟩
        · rw [if_neg hc15] at h; refine cond_0 (b := (decide (t10 = 4))) rfl (decide_eq_false hc15) ?_
          refine wp_skip ?_
          refine inb_n ?_
          exact then_n ⟨(), _, rfl, mk_upds' ae0, h⟩

/-- turnpike/check.heavy; slots 0:r, 1:r, 3:sum, 4:_, 5:t -/
def f95 (t0 : TResource) (R : (Bool) → World → Prop) (w : World) : Prop :=
  New 48 (TResource.cells t0) w fun b1 w =>
  Rn Try.prog Sl.v (Instr.loadAt 45 (Ptr ((⟨b1, 0, none⟩ : Addr).add 3))) w fun t7 w =>
  Lp (σ := Nat × Int) (fun s1 w n1 =>
    if s1.2 < (t7.n : Int) then
      RnP Try.prog Ptr (Instr.indexAt 45 (Sl.v t7) (.int .i64 s1.2)) fun t11 =>
      Rn Try.prog TTarget.v (Instr.loadAt 84 (Ptr t11)) w fun t12 w =>
      New 84 (TTarget.cells (⟨⟨#[]⟩, ⟨#[]⟩, 0⟩ : TTarget)) w fun b5 w =>
      RnU Try.prog (Instr.storeAt 84 (Ptr (⟨b5, 0, none⟩ : Addr)) (TTarget.v t12)) w fun w =>
      Jn (σ := Bool) (fun k3 =>
        Rn Try.prog (Value.float .f64) (Instr.loadAt 30 (Ptr ((⟨b5, 0, none⟩ : Addr).add 2))) w fun t14 w =>
        if (fGe t14 0) = true then
          Rn Try.prog (Value.float .f64) (Instr.loadAt 30 (Ptr ((⟨b5, 0, none⟩ : Addr).add 2))) w fun t18 w =>
          k3 (!(fLe t18 4636737291354636288)) w
        else
          k3 (!false) w
      ) fun s3 w =>
        if s3 = true then
          R true w
        else
          Rn Try.prog (Value.float .f64) (Instr.loadAt 30 (Ptr ((⟨b5, 0, none⟩ : Addr).add 2))) w fun t24 w =>
          Rn Try.prog (Value.float .f64) (Op.floatArith .add .f64 s1.1 t24) w fun t25 w =>
          n1 (t25, (IntKind.i64.wrap (s1.2 + 1))) w
    else
      Jn (σ := Bool) (fun k6 =>
        if (fGe s1.1 4636737291287527424) = true then
          k6 (!(fLe s1.1 4636737291421745152)) w
        else
          k6 (!false) w
      ) fun s6 w =>
        R s6 w
  ) (0, 0) w
theorem c95 {t0 : TResource} {R : (Bool) → World → Prop} {w : World} (h : f95 t0 R w) :
    Cal Try.prog Value.bool 95 #[(TResource.v t0)] w R := by
  unfold f95 at h
  refine calls_ Try.func95 Try.ntmps95 rfl rfl ?_
  refine seq_ ?_
  refine region_ ?_
  refine st_new (f := (fun b => Ptr ⟨b, 0, none⟩)) (ex_boxN rfl rfl) h ?_; clear h; intro b1 w h
  refine st_val (ex_assign (v := (.bool false)) rfl) ?_
  refine wl_nil ?_
  refine then_n ?_
  refine seq_ ?_
  refine region_ ?_
  refine st_val (ex_assign (v := (.float .f64 0)) rfl) ?_
  refine wl_nil ?_
  refine then_n ?_
  refine seq_ ?_
  refine seq_ ?_
  refine region_ ?_
  refine st_val (ex_fa fa48_3 (p := (⟨b1, 0, none⟩ : Addr)) rfl) ?_
  refine st_rn (fun r => ex_load rfl r) h ?_; clear h; intro t7 w h
  refine st_val (ex_len (s := t7) Try.underlying45 rfl) ?_
  refine st_val (ex_move (v := (.int .i64 0)) rfl) ?_
  refine wl_nil ?_
  refine then_n ?_
  refine wp_block ?_
  refine wp_lp (σ := Nat × Int) (fun s1 a => ∃ j, a = F 34 (upds j [(3, (.float .f64 s1.1)), (7, (Sl.v t7)), (8, (.int .i64 (t7.n : Int))), (9, (.int .i64 s1.2))])) h (mk_upds (ae rfl (ae rfl (ae rfl (ae rfl ae0))))) ?_
  clear h; rintro s1 _ w n1 ⟨j, rfl⟩ h
  refine seq_ ?_
  refine region_ ?_
  refine st_val (ex_lss (a := s1.2) (b := (t7.n : Int)) rfl rfl) ?_
  refine wl_nil ?_
  refine then_n ?_
  refine seq_ ?_
  by_cases hc2 : s1.2 < (t7.n : Int)
  · rw [if_pos hc2] at h; refine cond_1 (b := (decide (s1.2 < (t7.n : Int)))) rfl (decide_eq_true hc2) ?_
    refine wp_skip ?_
    refine then_n ?_
    refine seq_ ?_
    refine wp_block ?_
    refine seq_ ?_
    refine region_ ?_
    refine st_rnp (fun r => ex_indexAddr rfl rfl r) h ?_; clear h; intro t11 h
    refine st_rn (fun r => ex_load rfl r) h ?_; clear h; intro t12 w h
    refine st_new (f := (fun b => Ptr ⟨b, 0, none⟩)) (ex_allocN zero84 rfl) h ?_; clear h; intro b5 w h
    refine st_rnu (fun r => ex_store rfl rfl r) h ?_; clear h; intro w h
    refine wl_nil ?_
    refine then_n ?_
    refine seq_ ?_
    refine wp_jn (σ := Bool) (fun s3 l => ∃ j, l = upds j [(3, (.float .f64 s1.1)), (5, (Ptr (⟨b5, 0, none⟩ : Addr))), (7, (Sl.v t7)), (8, (.int .i64 (t7.n : Int))), (9, (.int .i64 s1.2)), (21, (.bool s3))]) h ?_ ?_
    · clear h; rintro s3 _ w ⟨j, rfl⟩ h
      by_cases hc5 : s3 = true
      · rw [if_pos hc5] at h; refine cond_1 (b := s3) rfl hc5 ?_
        refine seq_ ?_
        refine region_ ?_
        refine st_val (ex_assign (v := (.bool true)) rfl) ?_
        refine wl_nil ?_
        refine then_n ?_
        refine wp_ret ?_
        refine then_r ?_
        refine inb_r ?_
        refine then_r ?_
        refine then_r ?_
        refine inb_r ?_
        refine then_r ?_
        refine ret_1 rfl rfl ⟨true, rfl, h⟩
      · rw [if_neg hc5] at h; refine cond_0 (b := s3) rfl (Bool.eq_false_iff.2 hc5) ?_
        refine wp_skip ?_
        refine then_n ?_
        refine region_ ?_
        refine st_val (ex_move (v := (.float .f64 s1.1)) rfl) ?_
        refine st_val (ex_fa fa84_2 (p := (⟨b5, 0, none⟩ : Addr)) rfl) ?_
        refine st_rn (fun r => ex_load rfl r) h ?_; clear h; intro t24 w h
        refine st_rn (fun r => ex_addF (a := s1.1) (b := t24) rfl rfl r) h ?_; clear h; intro t25 w h
        refine st_val (ex_assign (v := (.float .f64 t25)) rfl) ?_
        refine wl_nil ?_
        refine inb_n ?_
        refine then_n ?_
        refine region_ ?_
        refine st_val (ex_add (a := s1.2) (b := 1) rfl rfl) ?_
        refine st_val (ex_move (v := (.int .i64 (IntKind.i64.wrap (s1.2 + 1)))) rfl) ?_
        refine wl_nil ?_
        exact then_n ⟨(t25, (IntKind.i64.wrap (s1.2 + 1))), mk_upds (ae rfl (ae rfl (ae rfl (ae rfl ae0)))), h⟩
    · clear h; intro k3 h
      refine region_ ?_
      refine st_val (ex_fa fa84_2 (p := (⟨b5, 0, none⟩ : Addr)) rfl) ?_
      refine st_rn (fun r => ex_load rfl r) h ?_; clear h; intro t14 w h
      refine st_val (ex_geqF (a := t14) (b := 0) rfl rfl) ?_
      refine st_val (ex_move (v := (.bool (fGe t14 0))) rfl) ?_
      by_cases hc4 : (fGe t14 0) = true
      · rw [if_pos hc4] at h
        refine st_on (t := 16) (c := (fGe t14 0)) rfl rfl hc4 ?_
        refine st_val (ex_fa fa84_2 (p := (⟨b5, 0, none⟩ : Addr)) rfl) ?_
        refine st_on (t := 16) (c := (fGe t14 0)) rfl rfl hc4 ?_
        refine st_rn (fun r => ex_load rfl r) h ?_; clear h; intro t18 w h
        refine st_on (t := 16) (c := (fGe t14 0)) rfl rfl hc4 ?_
        refine st_val (ex_leqF (a := t18) (b := 4636737291354636288) rfl rfl) ?_
        refine st_val (ex_pick1 (b := (fGe t14 0)) rfl hc4 (v := (.bool (fLe t18 4636737291354636288))) rfl) ?_
        refine st_val (ex_not (b := (fLe t18 4636737291354636288)) rfl) ?_
        refine wl_nil ?_
        exact then_n ⟨(!(fLe t18 4636737291354636288)), _, rfl, mk_upds' (ae rfl (ae rfl (ae rfl (ae rfl (ae rfl (ae rfl ae0)))))), h⟩
      · rw [if_neg hc4] at h
        refine st_off (t := 16) (c := (fGe t14 0)) rfl rfl (Bool.eq_false_iff.2 hc4) ?_
        refine st_off (t := 16) (c := (fGe t14 0)) rfl rfl (Bool.eq_false_iff.2 hc4) ?_
        refine st_off (t := 16) (c := (fGe t14 0)) rfl rfl (Bool.eq_false_iff.2 hc4) ?_
        refine st_val (ex_pick0 (b := (fGe t14 0)) rfl (Bool.eq_false_iff.2 hc4) (v := (.bool false)) rfl) ?_
        refine st_val (ex_not (b := false) rfl) ?_
        refine wl_nil ?_
        exact then_n ⟨(!false), _, rfl, mk_upds' (ae rfl (ae rfl (ae rfl (ae rfl (ae rfl (ae rfl ae0)))))), h⟩
  · rw [if_neg hc2] at h; refine cond_0 (b := (decide (s1.2 < (t7.n : Int)))) rfl (decide_eq_false hc2) ?_
    refine wp_exit ?_
    refine then_e ?_
    refine then_e ?_
    refine inb_e ?_
    refine then_n ?_
    refine wp_jn (σ := Bool) (fun s6 l => ∃ j, l = upds j [(2, (.bool s6))]) h ?_ ?_
    · clear h; rintro s6 _ w ⟨j, rfl⟩ h
      refine wp_ret ?_
      refine ret_1 rfl rfl ⟨s6, rfl, h⟩
    · clear h; intro k6 h
      refine region_ ?_
      refine st_val (ex_move (v := (.float .f64 s1.1)) rfl) ?_
      refine st_val (ex_geqF (a := s1.1) (b := 4636737291287527424) rfl rfl) ?_
      refine st_val (ex_move (v := (.bool (fGe s1.1 4636737291287527424))) rfl) ?_
      by_cases hc7 : (fGe s1.1 4636737291287527424) = true
      · rw [if_pos hc7] at h
        refine st_on (t := 29) (c := (fGe s1.1 4636737291287527424)) rfl rfl hc7 ?_
        refine st_val (ex_move (v := (.float .f64 s1.1)) rfl) ?_
        refine st_on (t := 29) (c := (fGe s1.1 4636737291287527424)) rfl rfl hc7 ?_
        refine st_val (ex_leqF (a := s1.1) (b := 4636737291421745152) rfl rfl) ?_
        refine st_val (ex_pick1 (b := (fGe s1.1 4636737291287527424)) rfl hc7 (v := (.bool (fLe s1.1 4636737291421745152))) rfl) ?_
        refine st_val (ex_not (b := (fLe s1.1 4636737291421745152)) rfl) ?_
        refine st_val (ex_assign (v := (.bool (!(fLe s1.1 4636737291421745152)))) rfl) ?_
        refine wl_nil ?_
        exact then_n ⟨(!(fLe s1.1 4636737291421745152)), _, rfl, mk_upds' (ae rfl ae0), h⟩
      · rw [if_neg hc7] at h
        refine st_off (t := 29) (c := (fGe s1.1 4636737291287527424)) rfl rfl (Bool.eq_false_iff.2 hc7) ?_
        refine st_off (t := 29) (c := (fGe s1.1 4636737291287527424)) rfl rfl (Bool.eq_false_iff.2 hc7) ?_
        refine st_val (ex_pick0 (b := (fGe s1.1 4636737291287527424)) rfl (Bool.eq_false_iff.2 hc7) (v := (.bool false)) rfl) ?_
        refine st_val (ex_not (b := false) rfl) ?_
        refine st_val (ex_assign (v := (.bool (!false))) rfl) ?_
        refine wl_nil ?_
        exact then_n ⟨(!false), _, rfl, mk_upds' (ae rfl ae0), h⟩


end Go.Proofs.Ytdoeegfcmbcbkaa.Tr

