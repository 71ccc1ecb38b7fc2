/- A part of the proof whose last text is YtdoeegfcmbcbkaaAZ6. -/
import Derived.Test.YtdoeegfcmbcbkaaAZ2
set_option linter.all false
/- Made by program: typed transformers of the functions, each met by its code. -/
namespace Go.Proofs.Ytdoeegfcmbcbkaa.Tr
open Go Go.Eng
set_option linter.unusedVariables false
set_option maxRecDepth 100000
set_option maxHeartbeats 4000000
/-- (*turnpike/check.depths).of; slots 0:d, 1:name, 2:d, 3:name, 5:n, 6:is, 7:n, 8:_, 9:t -/
def f96 (t0 : (Option Addr)) (t1 : ByteArray) (R : (Int) → World → Prop) (w : World) : Prop :=
  NotNil t0 fun t12 =>
  Rn Try.prog Value.map (Instr.loadAt 146 (Ptr (t12.add 1))) w fun t14 w =>
  Rn Try.prog (fun x : Int × Bool => Value.tuple #[(.int .i64 x.1), (.bool x.2)]) (Instr.lookup 146 (.map t14) (.string t1) true) w fun t16 w =>
  if t16.2 = true then
    if t16.1 < 0 then
      R 9 w
    else
      R t16.1 w
  else
    NotNil t0 fun t24 =>
    Rn Try.prog Value.map (Instr.loadAt 146 (Ptr (t24.add 1))) w fun t26 w =>
    RnU Try.prog (Instr.mapUpdate 146 (.map t26) (.string t1) (.int .i64 (-1))) w fun w =>
    NotNil t0 fun t29 =>
    Rn Try.prog Value.map (Instr.loadAt 145 (Ptr (t29.add 0))) w fun t31 w =>
    Rn Try.prog TResource.v (Instr.lookup 145 (.map t31) (.string t1) false) w fun t33 w =>
    RnP Try.prog Sl.v (Instr.field 48 (TResource.v t33) 3) fun t34 =>
    Lp (σ := Int × Int) (fun s3 w n3 =>
      if s3.2 < (t34.n : Int) then
        Jn (σ := Int) (fun k5 =>
          RnP Try.prog Ptr (Instr.indexAt 45 (Sl.v t34) (.int .i64 s3.2)) fun t38 =>
          Rn Try.prog TTarget.v (Instr.loadAt 84 (Ptr t38)) w fun t39 w =>
          New 84 (TTarget.cells (⟨⟨#[]⟩, ⟨#[]⟩, 0⟩ : TTarget)) w fun b9 w =>
          RnU Try.prog (Instr.storeAt 84 (Ptr (⟨b9, 0, none⟩ : Addr)) (TTarget.v t39)) w fun w =>
          Rn Try.prog Value.string (Instr.loadAt 9 (Ptr ((⟨b9, 0, none⟩ : Addr).add 0))) w fun t41 w =>
          if t41 = (⟨#[]⟩ : ByteArray) then
            Rn Try.prog Value.string (Instr.loadAt 9 (Ptr ((⟨b9, 0, none⟩ : Addr).add 1))) w fun t46 w =>
            Cal Try.prog (Value.int .i64) 96 #[(.pointer t0), (.string t46)] w fun t47 w =>
            k5 (max s3.1 t47) w
          else
            k5 s3.1 w
        ) fun s5 w =>
          n3 (s5, (IntKind.i64.wrap (s3.2 + 1))) w
      else
        NotNil t0 fun t54 =>
        Rn Try.prog Value.map (Instr.loadAt 146 (Ptr (t54.add 1))) w fun t56 w =>
        RnU Try.prog (Instr.mapUpdate 146 (.map t56) (.string t1) (.int .i64 (min (IntKind.i64.wrap (s3.1 + 1)) 9))) w fun w =>
        R (min (IntKind.i64.wrap (s3.1 + 1)) 9) w
    ) (0, 0) w
theorem c96 {t0 : (Option Addr)} {t1 : ByteArray} {R : (Int) → World → Prop} {w : World} (h : f96 t0 t1 R w) :
    Cal Try.prog (Value.int .i64) 96 #[(.pointer t0), (.string t1)] w R := by
  unfold f96 at h
  refine calls_ Try.func96 Try.ntmps96 rfl rfl ?_
  refine seq_ ?_
  refine region_ ?_
  refine st_val (ex_assign (v := (.int .i64 0)) rfl) ?_
  refine wl_nil ?_
  refine then_n ?_
  refine seq_ ?_
  refine seq_ ?_
  refine region_ ?_
  refine st_val (ex_move (v := (.pointer t0)) rfl) ?_
  obtain ⟨t12, ht12, h⟩ := h
  refine st_val (ex_nilCheckP (p := t0) rfl ht12) ?_
  refine st_val (ex_fa fa148_1 (p := t12) rfl) ?_
  refine st_rn (fun r => ex_load rfl r) h ?_; clear h; intro t14 w h
  refine st_val (ex_move (v := (.string t1)) rfl) ?_
  refine st_rn (fun r => ex_lookup rfl rfl r) h ?_; clear h; intro t16 w h
  refine st_val (ex_move (v := (.tuple #[(.int .i64 t16.1), (.bool t16.2)])) rfl) ?_
  refine st_val (ex_extract (u := (.tuple #[(.int .i64 t16.1), (.bool t16.2)])) rfl (v := (.int .i64 t16.1)) rfl) ?_
  refine st_val (ex_extract (u := (.tuple #[(.int .i64 t16.1), (.bool t16.2)])) rfl (v := (.bool t16.2)) rfl) ?_
  refine st_val (ex_assign (v := (.int .i64 t16.1)) rfl) ?_
  refine st_val (ex_assign (v := (.bool t16.2)) rfl) ?_
  refine wl_nil ?_
  refine then_n ?_
  refine seq_ ?_
  refine region_ ?_
  refine st_val (ex_move (v := (.bool t16.2)) rfl) ?_
  refine wl_nil ?_
  refine then_n ?_
  by_cases hc1 : t16.2 = true
  · rw [if_pos hc1] at h; refine cond_1 (b := t16.2) rfl hc1 ?_
    refine seq_ ?_
    refine seq_ ?_
    refine region_ ?_
    refine st_val (ex_move (v := (.int .i64 t16.1)) rfl) ?_
    refine st_val (ex_lss (a := t16.1) (b := 0) rfl rfl) ?_
    refine wl_nil ?_
    refine then_n ?_
    by_cases hc2 : t16.1 < 0
    · rw [if_pos hc2] at h; refine cond_1 (b := (decide (t16.1 < 0))) rfl (decide_eq_true hc2) ?_
      refine seq_ ?_
      refine region_ ?_
      refine st_val (ex_assign (v := (.int .i64 9)) rfl) ?_
      refine wl_nil ?_
      refine then_n ?_
      refine wp_ret ?_
      refine then_r ?_
      refine then_r ?_
      refine ret_1 rfl rfl ⟨9, rfl, h⟩
    · rw [if_neg hc2] at h; refine cond_0 (b := (decide (t16.1 < 0))) rfl (decide_eq_false hc2) ?_
      refine wp_skip ?_
      refine then_n ?_
      refine seq_ ?_
      refine region_ ?_
      refine st_val (ex_move (v := (.int .i64 t16.1)) rfl) ?_
      refine st_val (ex_assign (v := (.int .i64 t16.1)) rfl) ?_
      refine wl_nil ?_
      refine then_n ?_
      refine wp_ret ?_
      refine then_r ?_
      refine ret_1 rfl rfl ⟨t16.1, rfl, h⟩
  · rw [if_neg hc1] at h; refine cond_0 (b := t16.2) rfl (Bool.eq_false_iff.2 hc1) ?_
    refine wp_skip ?_
    refine then_n ?_
    refine seq_ ?_
    refine region_ ?_
    refine st_val (ex_move (v := (.pointer t0)) rfl) ?_
    obtain ⟨t24, ht24, h⟩ := h
    refine st_val (ex_nilCheckP (p := t0) rfl ht24) ?_
    refine st_val (ex_fa fa148_1 (p := t24) rfl) ?_
    refine st_rn (fun r => ex_load rfl r) h ?_; clear h; intro t26 w h
    refine st_val (ex_move (v := (.string t1)) rfl) ?_
    refine st_rnu (fun r => ex_mapUpdate rfl rfl rfl r) h ?_; clear h; intro w h
    refine wl_nil ?_
    refine then_n ?_
    refine seq_ ?_
    refine region_ ?_
    refine st_val (ex_assign (v := (.int .i64 0)) rfl) ?_
    refine wl_nil ?_
    refine then_n ?_
    refine seq_ ?_
    refine seq_ ?_
    refine region_ ?_
    refine st_val (ex_move (v := (.pointer t0)) rfl) ?_
    obtain ⟨t29, ht29, h⟩ := h
    refine st_val (ex_nilCheckP (p := t0) rfl ht29) ?_
    refine st_val (ex_fa fa148_0 (p := t29) rfl) ?_
    refine st_rn (fun r => ex_load rfl r) h ?_; clear h; intro t31 w h
    refine st_val (ex_move (v := (.string t1)) rfl) ?_
    refine st_rn (fun r => ex_lookup rfl rfl r) h ?_; clear h; intro t33 w h
    refine st_rnp (fun r => ex_field rfl r) h ?_; clear h; intro t34 h
    refine st_val (ex_len (s := t34) Try.underlying45 rfl) ?_
    refine st_val (ex_move (v := (.int .i64 0)) rfl) ?_
    refine wl_nil ?_
    refine then_n ?_
    refine wp_block ?_
    refine wp_lp (σ := Int × Int) (fun s3 a => ∃ j, a = F 60 (upds j [(0, (.pointer t0)), (1, (.string t1)), (7, (.int .i64 s3.1)), (34, (Sl.v t34)), (35, (.int .i64 (t34.n : Int))), (36, (.int .i64 s3.2))])) h (mk_upds (ae rfl (ae rfl (ae rfl (ae rfl (ae rfl (ae rfl ae0))))))) ?_
    clear h; rintro s3 _ w n3 ⟨j, rfl⟩ h
    refine seq_ ?_
    refine region_ ?_
    refine st_val (ex_lss (a := s3.2) (b := (t34.n : Int)) rfl rfl) ?_
    refine wl_nil ?_
    refine then_n ?_
    refine seq_ ?_
    by_cases hc4 : s3.2 < (t34.n : Int)
    · rw [if_pos hc4] at h; refine cond_1 (b := (decide (s3.2 < (t34.n : Int)))) rfl (decide_eq_true hc4) ?_
      refine wp_skip ?_
      refine then_n ?_
      refine wp_jn (σ := Int) (fun s5 l => ∃ j, l = upds j [(0, (.pointer t0)), (1, (.string t1)), (7, (.int .i64 s5)), (34, (Sl.v t34)), (35, (.int .i64 (t34.n : Int))), (36, (.int .i64 s3.2))]) h ?_ ?_
      · clear h; rintro s5 _ w ⟨j, rfl⟩ h
        refine region_ ?_
        refine st_val (ex_add (a := s3.2) (b := 1) rfl rfl) ?_
        refine st_val (ex_move (v := (.int .i64 (IntKind.i64.wrap (s3.2 + 1)))) rfl) ?_
        refine wl_nil ?_
        exact then_n ⟨(s5, (IntKind.i64.wrap (s3.2 + 1))), mk_upds (ae rfl (ae rfl (ae rfl (ae rfl (ae rfl (ae rfl ae0)))))), h⟩
      · clear h; intro k5 h
        refine wp_block ?_
        refine seq_ ?_
        refine region_ ?_
        refine st_rnp (fun r => ex_indexAddr rfl rfl r) h ?_; clear h; intro t38 h
        refine st_rn (fun r => ex_load rfl r) h ?_; clear h; intro t39 w h
        refine st_new (f := (fun b => Ptr ⟨b, 0, none⟩)) (ex_allocN zero84 rfl) h ?_; clear h; intro b9 w h
        refine st_rnu (fun r => ex_store rfl rfl r) h ?_; clear h; intro w h
        refine wl_nil ?_
        refine then_n ?_
        refine seq_ ?_
        refine region_ ?_
        refine st_val (ex_fa fa84_0 (p := (⟨b9, 0, none⟩ : Addr)) rfl) ?_
        refine st_rn (fun r => ex_load rfl r) h ?_; clear h; intro t41 w h
        refine st_val (ex_eqlS (a := t41) (b := (⟨#[]⟩ : ByteArray)) rfl rfl) ?_
        refine wl_nil ?_
        refine then_n ?_
        by_cases hc6 : t41 = (⟨#[]⟩ : ByteArray)
        · rw [if_pos hc6] at h; refine cond_1 (b := (decide (t41 = (⟨#[]⟩ : ByteArray)))) rfl (decide_eq_true hc6) ?_
          refine region_ ?_
          refine st_val (ex_move (v := (.int .i64 s3.1)) rfl) ?_
          refine st_val (ex_move (v := (.pointer t0)) rfl) ?_
          refine st_val (ex_fa fa84_1 (p := (⟨b9, 0, none⟩ : Addr)) rfl) ?_
          refine st_rn (fun r => ex_load rfl r) h ?_; clear h; intro t46 w h
          refine st_cal en96 rfl h ?_; clear h; intro t47 w h
          refine st_val (ex_max (a := s3.1) (b := t47) rfl rfl) ?_
          refine st_val (ex_assign (v := (.int .i64 (max s3.1 t47))) rfl) ?_
          refine wl_nil ?_
          refine inb_n ?_
          exact then_n ⟨(max s3.1 t47), _, rfl, mk_upds' (ae rfl (ae rfl (ae rfl (ae rfl (ae rfl (ae rfl ae0)))))), h⟩
        · rw [if_neg hc6] at h; refine cond_0 (b := (decide (t41 = (⟨#[]⟩ : ByteArray)))) rfl (decide_eq_false hc6) ?_
          refine wp_skip ?_
          refine inb_n ?_
          exact then_n ⟨s3.1, _, rfl, mk_upds' (ae rfl (ae rfl (ae rfl (ae rfl (ae rfl (ae rfl ae0)))))), h⟩
    · rw [if_neg hc4] at h; refine cond_0 (b := (decide (s3.2 < (t34.n : Int)))) rfl (decide_eq_false hc4) ?_
      refine wp_exit ?_
      refine then_e ?_
      refine then_e ?_
      refine inb_e ?_
      refine then_n ?_
      refine seq_ ?_
      refine region_ ?_
      refine st_val (ex_move (v := (.int .i64 s3.1)) rfl) ?_
      refine st_val (ex_add (a := s3.1) (b := 1) rfl rfl) ?_
      refine st_val (ex_min (a := (IntKind.i64.wrap (s3.1 + 1))) (b := 9) rfl rfl) ?_
      refine st_val (ex_assign (v := (.int .i64 (min (IntKind.i64.wrap (s3.1 + 1)) 9))) rfl) ?_
      refine wl_nil ?_
      refine then_n ?_
      refine seq_ ?_
      refine region_ ?_
      refine st_val (ex_move (v := (.pointer t0)) rfl) ?_
      obtain ⟨t54, ht54, h⟩ := h
      refine st_val (ex_nilCheckP (p := t0) rfl ht54) ?_
      refine st_val (ex_fa fa148_1 (p := t54) rfl) ?_
      refine st_rn (fun r => ex_load rfl r) h ?_; clear h; intro t56 w h
      refine st_val (ex_move (v := (.string t1)) rfl) ?_
      refine st_val (ex_move (v := (.int .i64 (min (IntKind.i64.wrap (s3.1 + 1)) 9))) rfl) ?_
      refine st_rnu (fun r => ex_mapUpdate rfl rfl rfl r) h ?_; clear h; intro w h
      refine wl_nil ?_
      refine then_n ?_
      refine seq_ ?_
      refine region_ ?_
      refine st_val (ex_move (v := (.int .i64 (min (IntKind.i64.wrap (s3.1 + 1)) 9))) rfl) ?_
      refine st_val (ex_assign (v := (.int .i64 (min (IntKind.i64.wrap (s3.1 + 1)) 9))) rfl) ?_
      refine wl_nil ?_
      refine then_n ?_
      refine wp_ret ?_
      refine ret_1 rfl rfl ⟨(min (IntKind.i64.wrap (s3.1 + 1)) 9), rfl, h⟩

/-- turnpike/check.shadows; slots 0:conf, 1:conf, 2:l, 3:i, 4:r, 5:k, 6:x, 7:by -/
def f97 (t0 : Sl) (R : (Sl) → World → Prop) (w : World) : Prop :=
  Lp (σ := Sl × Int) (fun s1 w n1 =>
    if s1.2 < (t0.n : Int) then
      Jn (σ := Sl) (fun k3 =>
        RnP Try.prog Ptr (Instr.indexAt 22 (Sl.v t0) (.int .i64 s1.2)) fun t13 =>
        Rn Try.prog TResource.v (Instr.loadAt 48 (Ptr t13)) w fun t14 w =>
        New 48 (TResource.cells (⟨0, ⟨#[]⟩, Sl.nil, Sl.nil, ⟨#[]⟩, Sl.nil, ⟨#[]⟩, false⟩ : TResource)) w fun b4 w =>
        RnU Try.prog (Instr.storeAt 48 (Ptr (⟨b4, 0, none⟩ : Addr)) (TResource.v t14)) w fun w =>
        Jn (σ := Bool) (fun k4 =>
          Rn Try.prog (Value.int .i64) (Instr.loadAt 3 (Ptr ((⟨b4, 0, none⟩ : Addr).add 0))) w fun t16 w =>
          if t16 ≠ 3 then
            Rn Try.prog (Value.int .i64) (Instr.loadAt 3 (Ptr ((⟨b4, 0, none⟩ : Addr).add 0))) w fun t20 w =>
            k4 (decide (t20 ≠ 4)) w
          else
            k4 false w
        ) fun s4 w =>
          if s4 = true then
            k3 s1.1 w
          else
            Rn Try.prog Sl.v (Instr.loadAt 46 (Ptr ((⟨b4, 0, none⟩ : Addr).add 5))) w fun t24 w =>
            Lp (σ := Sl × Int) (fun s7 w n7 =>
              if s7.2 < (t24.n : Int) then
                Jn (σ := Sl) (fun k9 =>
                  RnP Try.prog Ptr (Instr.indexAt 46 (Sl.v t24) (.int .i64 s7.2)) fun t29 =>
                  Rn Try.prog TRule.v (Instr.loadAt 91 (Ptr t29)) w fun t30 w =>
                  New 91 (TRule.cells (⟨⟨#[]⟩, ⟨#[]⟩, ⟨#[]⟩, false⟩ : TRule)) w fun b6 w =>
                  RnU Try.prog (Instr.storeAt 91 (Ptr (⟨b6, 0, none⟩ : Addr)) (TRule.v t30)) w fun w =>
                  Rn Try.prog Sl.v (Instr.loadAt 46 (Ptr ((⟨b4, 0, none⟩ : Addr).add 5))) w fun t32 w =>
                  RnP Try.prog Sl.v (Instr.sliceAt 46 (Sl.v t32) none (some (.int .i64 s7.2)) none) fun t34 =>
                  Cal Try.prog (Value.int .i64) 121 #[(Sl.v t34), (Value.func (.func 122) #[] #[(Ptr (⟨b6, 0, none⟩ : Addr))])] w fun t36 w =>
                  if 0 ≤ t36 then
                    New 177 ((TWarning.cells (⟨s1.2, s7.2, t36⟩ : TWarning))) w fun b44 w =>
                    Rn Try.prog Sl.v (Builtin.append_ #[78, 78] 78 #[(Sl.v s7.1), (Sl.v (⟨some ⟨b44, 0, none⟩, 1, 1⟩ : Sl))]) w fun t45 w =>
                    k9 t45 w
                  else
                    k9 s7.1 w
                ) fun s9 w =>
                  n7 (s9, (IntKind.i64.wrap (s7.2 + 1))) w
              else
                k3 s7.1 w
            ) (s1.1, 0) w
      ) fun s3 w =>
        n1 (s3, (IntKind.i64.wrap (s1.2 + 1))) w
    else
      R s1.1 w
  ) (Sl.nil, 0) w
theorem c97 {t0 : Sl} {R : (Sl) → World → Prop} {w : World} (h : f97 t0 R w) :
    Cal Try.prog Sl.v 97 #[(Sl.v t0)] w R := by
  unfold f97 at h
  refine calls_ Try.func97 Try.ntmps97 rfl rfl ?_
  refine seq_ ?_
  refine region_ ?_
  refine st_val (ex_assign (v := (Sl.v Sl.nil)) rfl) ?_
  refine wl_nil ?_
  refine then_n ?_
  refine seq_ ?_
  refine seq_ ?_
  refine region_ ?_
  refine st_val (ex_move (v := (Sl.v t0)) rfl) ?_
  refine st_val (ex_len (s := t0) Try.underlying22 rfl) ?_
  refine st_val (ex_move (v := (.int .i64 0)) rfl) ?_
  refine wl_nil ?_
  refine then_n ?_
  refine wp_block ?_
  refine wp_lp (σ := Sl × Int) (fun s1 a => ∃ j, a = F 49 (upds j [(2, (Sl.v s1.1)), (8, (Sl.v t0)), (9, (.int .i64 (t0.n : Int))), (10, (.int .i64 s1.2))])) h (mk_upds (ae rfl (ae rfl (ae rfl (ae rfl ae0))))) ?_
  clear h; rintro s1 _ w n1 ⟨j, rfl⟩ h
  refine seq_ ?_
  refine region_ ?_
  refine st_val (ex_lss (a := s1.2) (b := (t0.n : Int)) rfl rfl) ?_
  refine wl_nil ?_
  refine then_n ?_
  refine seq_ ?_
  by_cases hc2 : s1.2 < (t0.n : Int)
  · rw [if_pos hc2] at h; refine cond_1 (b := (decide (s1.2 < (t0.n : Int)))) rfl (decide_eq_true hc2) ?_
    refine wp_skip ?_
    refine then_n ?_
    refine wp_jn (σ := Sl) (fun s3 l => ∃ j, l = upds j [(2, (Sl.v s3)), (8, (Sl.v t0)), (9, (.int .i64 (t0.n : Int))), (10, (.int .i64 s1.2))]) h ?_ ?_
    · clear h; rintro s3 _ w ⟨j, rfl⟩ h
      refine region_ ?_
      refine st_val (ex_add (a := s1.2) (b := 1) rfl rfl) ?_
      refine st_val (ex_move (v := (.int .i64 (IntKind.i64.wrap (s1.2 + 1)))) rfl) ?_
      refine wl_nil ?_
      exact then_n ⟨(s3, (IntKind.i64.wrap (s1.2 + 1))), mk_upds (ae rfl (ae rfl (ae rfl (ae rfl ae0)))), h⟩
    · clear h; intro k3 h
      refine wp_block ?_
      refine seq_ ?_
      refine region_ ?_
      refine st_val (ex_move (v := (.int .i64 s1.2)) rfl) ?_
      refine st_rnp (fun r => ex_indexAddr rfl rfl r) h ?_; clear h; intro t13 h
      refine st_rn (fun r => ex_load rfl r) h ?_; clear h; intro t14 w h
      refine st_new (f := (fun b => Ptr ⟨b, 0, none⟩)) (ex_allocN zero48 rfl) h ?_; clear h; intro b4 w h
      refine st_val (ex_assign (v := (.int .i64 s1.2)) rfl) ?_
      refine st_rnu (fun r => ex_store rfl rfl r) h ?_; clear h; intro w h
      refine wl_nil ?_
      refine then_n ?_
      refine seq_ ?_
      refine wp_jn (σ := Bool) (fun s4 l => ∃ j, l = upds j [(2, (Sl.v s1.1)), (3, (.int .i64 s1.2)), (4, (Ptr (⟨b4, 0, none⟩ : Addr))), (8, (Sl.v t0)), (9, (.int .i64 (t0.n : Int))), (10, (.int .i64 s1.2)), (22, (.bool s4))]) h ?_ ?_
      · clear h; rintro s4 _ w ⟨j, rfl⟩ h
        by_cases hc6 : s4 = true
        · rw [if_pos hc6] at h; refine cond_1 (b := s4) rfl hc6 ?_
          refine wp_exit ?_
          refine then_e ?_
          refine inb_e ?_
          exact then_n ⟨s1.1, _, rfl, mk_upds' (ae rfl (ae rfl (ae rfl (ae rfl ae0)))), h⟩
        · rw [if_neg hc6] at h; refine cond_0 (b := s4) rfl (Bool.eq_false_iff.2 hc6) ?_
          refine wp_skip ?_
          refine then_n ?_
          refine seq_ ?_
          refine region_ ?_
          refine st_val (ex_fa fa48_5 (p := (⟨b4, 0, none⟩ : Addr)) rfl) ?_
          refine st_rn (fun r => ex_load rfl r) h ?_; clear h; intro t24 w h
          refine st_val (ex_len (s := t24) Try.underlying46 rfl) ?_
          refine st_val (ex_move (v := (.int .i64 0)) rfl) ?_
          refine wl_nil ?_
          refine then_n ?_
          refine wp_block ?_
          refine wp_lp (σ := Sl × Int) (fun s7 a => ∃ j, a = F 49 (upds j [(2, (Sl.v s7.1)), (3, (.int .i64 s1.2)), (4, (Ptr (⟨b4, 0, none⟩ : Addr))), (8, (Sl.v t0)), (9, (.int .i64 (t0.n : Int))), (10, (.int .i64 s1.2)), (24, (Sl.v t24)), (25, (.int .i64 (t24.n : Int))), (26, (.int .i64 s7.2))])) h (mk_upds (ae rfl (ae rfl (ae rfl (ae rfl (ae rfl (ae rfl (ae rfl (ae rfl (ae rfl ae0)))))))))) ?_
          clear h; rintro s7 _ w n7 ⟨j, rfl⟩ h
          refine seq_ ?_
          refine region_ ?_
          refine st_val (ex_lss (a := s7.2) (b := (t24.n : Int)) rfl rfl) ?_
          refine wl_nil ?_
          refine then_n ?_
          refine seq_ ?_
          by_cases hc8 : s7.2 < (t24.n : Int)
          · rw [if_pos hc8] at h; refine cond_1 (b := (decide (s7.2 < (t24.n : Int)))) rfl (decide_eq_true hc8) ?_
            refine wp_skip ?_
            refine then_n ?_
            refine wp_jn (σ := Sl) (fun s9 l => ∃ j, l = upds j [(2, (Sl.v s9)), (3, (.int .i64 s1.2)), (4, (Ptr (⟨b4, 0, none⟩ : Addr))), (8, (Sl.v t0)), (9, (.int .i64 (t0.n : Int))), (10, (.int .i64 s1.2)), (24, (Sl.v t24)), (25, (.int .i64 (t24.n : Int))), (26, (.int .i64 s7.2))]) h ?_ ?_
            · clear h; rintro s9 _ w ⟨j, rfl⟩ h
              refine region_ ?_
              refine st_val (ex_add (a := s7.2) (b := 1) rfl rfl) ?_
              refine st_val (ex_move (v := (.int .i64 (IntKind.i64.wrap (s7.2 + 1)))) rfl) ?_
              refine wl_nil ?_
              exact then_n ⟨(s9, (IntKind.i64.wrap (s7.2 + 1))), mk_upds (ae rfl (ae rfl (ae rfl (ae rfl (ae rfl (ae rfl (ae rfl (ae rfl (ae rfl ae0))))))))), h⟩
            · clear h; intro k9 h
              refine wp_block ?_
              refine seq_ ?_
              refine region_ ?_
              refine st_val (ex_move (v := (.int .i64 s7.2)) rfl) ?_
              refine st_rnp (fun r => ex_indexAddr rfl rfl r) h ?_; clear h; intro t29 h
              refine st_rn (fun r => ex_load rfl r) h ?_; clear h; intro t30 w h
              refine st_new (f := (fun b => Ptr ⟨b, 0, none⟩)) (ex_allocN zero91 rfl) h ?_; clear h; intro b6 w h
              refine st_val (ex_assign (v := (.int .i64 s7.2)) rfl) ?_
              refine st_rnu (fun r => ex_store rfl rfl r) h ?_; clear h; intro w h
              refine wl_nil ?_
              refine then_n ?_
              refine seq_ ?_
              refine region_ ?_
              refine st_val (ex_fa fa48_5 (p := (⟨b4, 0, none⟩ : Addr)) rfl) ?_
              refine st_rn (fun r => ex_load rfl r) h ?_; clear h; intro t32 w h
              refine st_val (ex_move (v := (.int .i64 s7.2)) rfl) ?_
              refine st_rnp (fun r => ex_slice rfl rfl rfl rfl r) h ?_; clear h; intro t34 h
              refine st_val (ex_makeFunc rfl rfl) ?_
              refine st_cal en121 rfl h ?_; clear h; intro t36 w h
              refine st_val (ex_assign (v := (.int .i64 t36)) rfl) ?_
              refine wl_nil ?_
              refine then_n ?_
              refine seq_ ?_
              refine region_ ?_
              refine st_val (ex_move (v := (.int .i64 t36)) rfl) ?_
              refine st_val (ex_geq (a := t36) (b := 0) rfl rfl) ?_
              refine wl_nil ?_
              refine then_n ?_
              by_cases hc10 : 0 ≤ t36
              · rw [if_pos hc10] at h; refine cond_1 (b := (decide (0 ≤ t36))) rfl (decide_eq_true hc10) ?_
                refine region_ ?_
                refine st_val (ex_move (v := (Sl.v s7.1)) rfl) ?_
                refine st_val (ex_move (v := (.int .i64 s1.2)) rfl) ?_
                refine st_val (ex_move (v := (.int .i64 s7.2)) rfl) ?_
                refine st_val (ex_move (v := (.int .i64 t36)) rfl) ?_
                refine st_val (ex_build (a' := [(0, (.int .i64 s1.2)), (1, (.int .i64 s7.2)), (2, (.int .i64 t36))]) (v := TWarning.v (⟨s1.2, s7.2, t36⟩ : TWarning)) rfl (e_build Try.underlying177 zero177 rfl pl177 rfl _)) ?_
                refine st_new (f := (fun b => Sl.v ⟨some ⟨b, 0, none⟩, 1, 1⟩)) (ex_buildSlice (a' := [(0, (TWarning.v (⟨s1.2, s7.2, t36⟩ : TWarning)))]) rfl (e_buildSlice (cs := ((TWarning.cells (⟨s1.2, s7.2, t36⟩ : TWarning)))) Try.underlying78 info177 iz177 (by decide +kernel) (by decide +kernel) (by kernel_rfl) _)) h ?_; clear h; intro b44 w h
                refine st_rn (fun r => ex_builtin rfl (fun _ => rfl) r) h ?_; clear h; intro t45 w h
                refine st_val (ex_assign (v := (Sl.v t45)) rfl) ?_
                refine wl_nil ?_
                refine inb_n ?_
                exact then_n ⟨t45, _, rfl, mk_upds' (ae rfl (ae rfl (ae rfl (ae rfl (ae rfl (ae rfl (ae rfl (ae rfl (ae rfl ae0))))))))), h⟩
              · rw [if_neg hc10] at h; refine cond_0 (b := (decide (0 ≤ t36))) rfl (decide_eq_false hc10) ?_
                refine wp_skip ?_
                refine inb_n ?_
                exact then_n ⟨s7.1, _, rfl, mk_upds' (ae rfl (ae rfl (ae rfl (ae rfl (ae rfl (ae rfl (ae rfl (ae rfl (ae rfl ae0))))))))), h⟩
          · rw [if_neg hc8] at h; refine cond_0 (b := (decide (s7.2 < (t24.n : Int)))) rfl (decide_eq_false hc8) ?_
            refine wp_exit ?_
            refine then_e ?_
            refine then_e ?_
            refine inb_e ?_
            refine inb_n ?_
            exact then_n ⟨s7.1, _, rfl, mk_upds' (ae rfl (ae rfl (ae rfl (ae rfl ae0)))), h⟩
      · clear h; intro k4 h
        refine region_ ?_
        refine st_val (ex_fa fa48_0 (p := (⟨b4, 0, none⟩ : Addr)) rfl) ?_
        refine st_rn (fun r => ex_load rfl r) h ?_; clear h; intro t16 w h
        refine st_val (ex_neq (a := t16) (b := 3) rfl rfl) ?_
        refine st_val (ex_move (v := (.bool (decide (t16 ≠ 3)))) rfl) ?_
        by_cases hc5 : t16 ≠ 3
        · rw [if_pos hc5] at h
          refine st_on (t := 18) (c := (decide (t16 ≠ 3))) rfl rfl (decide_eq_true hc5) ?_
          refine st_val (ex_fa fa48_0 (p := (⟨b4, 0, none⟩ : Addr)) rfl) ?_
          refine st_on (t := 18) (c := (decide (t16 ≠ 3))) rfl rfl (decide_eq_true hc5) ?_
          refine st_rn (fun r => ex_load rfl r) h ?_; clear h; intro t20 w h
          refine st_on (t := 18) (c := (decide (t16 ≠ 3))) rfl rfl (decide_eq_true hc5) ?_
          refine st_val (ex_neq (a := t20) (b := 4) rfl rfl) ?_
          refine st_val (ex_pick1 (b := (decide (t16 ≠ 3))) rfl (decide_eq_true hc5) (v := (.bool (decide (t20 ≠ 4)))) rfl) ?_
          refine wl_nil ?_
          exact then_n ⟨(decide (t20 ≠ 4)), _, rfl, mk_upds' (ae rfl (ae rfl (ae rfl (ae rfl (ae rfl (ae rfl (ae rfl ae0))))))), h⟩
        · rw [if_neg hc5] at h
          refine st_off (t := 18) (c := (decide (t16 ≠ 3))) rfl rfl (decide_eq_false hc5) ?_
          refine st_off (t := 18) (c := (decide (t16 ≠ 3))) rfl rfl (decide_eq_false hc5) ?_
          refine st_off (t := 18) (c := (decide (t16 ≠ 3))) rfl rfl (decide_eq_false hc5) ?_
          refine st_val (ex_pick0 (b := (decide (t16 ≠ 3))) rfl (decide_eq_false hc5) (v := (.bool false)) rfl) ?_
          refine wl_nil ?_
          exact then_n ⟨false, _, rfl, mk_upds' (ae rfl (ae rfl (ae rfl (ae rfl (ae rfl (ae rfl (ae rfl ae0))))))), h⟩
  · rw [if_neg hc2] at h; refine cond_0 (b := (decide (s1.2 < (t0.n : Int)))) rfl (decide_eq_false hc2) ?_
    refine wp_exit ?_
    refine then_e ?_
    refine then_e ?_
    refine inb_e ?_
    refine then_n ?_
    refine seq_ ?_
    refine region_ ?_
    refine st_val (ex_move (v := (Sl.v s1.1)) rfl) ?_
    refine st_val (ex_assign (v := (Sl.v s1.1)) rfl) ?_
    refine wl_nil ?_
    refine then_n ?_
    refine wp_ret ?_
    refine ret_1 rfl rfl ⟨s1.1, rfl, h⟩

/-- slices.IndexFunc[[]turnpike/api.Resource,turnpike/api.Resource]; slots 0:s, 1:f, 2:s, 3:f, 5:i -/
def f98 (t0 : Sl) (t1 : Value) (R : (Int) → World → Prop) (w : World) : Prop :=
  Lp (σ := Int) (fun s1 w n1 =>
    if s1 < (t0.n : Int) then
      RnP Try.prog Ptr (Instr.indexAt 22 (Sl.v t0) (.int .i64 s1)) fun t14 =>
      Rn Try.prog TResource.v (Instr.loadAt 48 (Ptr t14)) w fun t15 w =>
      CalV Try.prog Value.bool t1 #[(TResource.v t15)] w fun t16 w =>
      if t16 = true then
        R s1 w
      else
        n1 (IntKind.i64.wrap (s1 + 1)) w
    else
      R (-1) w
  ) 0 w
theorem c98 {t0 : Sl} {t1 : Value} {R : (Int) → World → Prop} {w : World} (h : f98 t0 t1 R w) :
    Cal Try.prog (Value.int .i64) 98 #[(Sl.v t0), t1] w R := by
  unfold f98 at h
  refine calls_ Try.func98 Try.ntmps98 rfl rfl ?_
  refine seq_ ?_
  refine region_ ?_
  refine st_val (ex_assign (v := (.int .i64 0)) rfl) ?_
  refine wl_nil ?_
  refine then_n ?_
  refine seq_ ?_
  refine seq_ ?_
  refine region_ ?_
  refine st_val (ex_move (v := (Sl.v t0)) rfl) ?_
  refine st_val (ex_len (s := t0) Try.underlying22 rfl) ?_
  refine st_val (ex_move (v := (.int .i64 0)) rfl) ?_
  refine wl_nil ?_
  refine then_n ?_
  refine wp_block ?_
  refine wp_lp (σ := Int) (fun s1 a => ∃ j, a = F 19 (upds j [(0, (Sl.v t0)), (1, t1), (7, (.int .i64 (t0.n : Int))), (8, (.int .i64 s1))])) h (mk_upds (ae rfl (ae rfl (ae rfl (ae rfl ae0))))) ?_
  clear h; rintro s1 _ w n1 ⟨j, rfl⟩ h
  refine seq_ ?_
  refine region_ ?_
  refine st_val (ex_lss (a := s1) (b := (t0.n : Int)) rfl rfl) ?_
  refine wl_nil ?_
  refine then_n ?_
  refine seq_ ?_
  by_cases hc2 : s1 < (t0.n : Int)
  · rw [if_pos hc2] at h; refine cond_1 (b := (decide (s1 < (t0.n : Int)))) rfl (decide_eq_true hc2) ?_
    refine wp_skip ?_
    refine then_n ?_
    refine seq_ ?_
    refine wp_block ?_
    refine seq_ ?_
    refine region_ ?_
    refine st_val (ex_move (v := (.int .i64 s1)) rfl) ?_
    refine st_val (ex_assign (v := (.int .i64 s1)) rfl) ?_
    refine wl_nil ?_
    refine then_n ?_
    refine seq_ ?_
    refine region_ ?_
    refine st_val (ex_move (v := t1) rfl) ?_
    refine st_val (ex_move (v := (Sl.v t0)) rfl) ?_
    refine st_val (ex_move (v := (.int .i64 s1)) rfl) ?_
    refine st_rnp (fun r => ex_indexAddr rfl rfl r) h ?_; clear h; intro t14 h
    refine st_rn (fun r => ex_load rfl r) h ?_; clear h; intro t15 w h
    refine st_calv rfl rfl h ?_; clear h; intro t16 w h
    refine wl_nil ?_
    refine then_n ?_
    by_cases hc3 : t16 = true
    · rw [if_pos hc3] at h; refine cond_1 (b := t16) rfl hc3 ?_
      refine seq_ ?_
      refine region_ ?_
      refine st_val (ex_move (v := (.int .i64 s1)) rfl) ?_
      refine st_val (ex_assign (v := (.int .i64 s1)) rfl) ?_
      refine wl_nil ?_
      refine then_n ?_
      refine wp_ret ?_
      refine inb_r ?_
      refine then_r ?_
      refine then_r ?_
      refine inb_r ?_
      refine then_r ?_
      refine ret_1 rfl rfl ⟨s1, rfl, h⟩
    · rw [if_neg hc3] at h; refine cond_0 (b := t16) rfl (Bool.eq_false_iff.2 hc3) ?_
      refine wp_skip ?_
      refine inb_n ?_
      refine then_n ?_
      refine region_ ?_
      refine st_val (ex_add (a := s1) (b := 1) rfl rfl) ?_
      refine st_val (ex_move (v := (.int .i64 (IntKind.i64.wrap (s1 + 1)))) rfl) ?_
      refine wl_nil ?_
      exact then_n ⟨(IntKind.i64.wrap (s1 + 1)), mk_upds (ae rfl (ae rfl (ae rfl (ae rfl ae0)))), h⟩
  · rw [if_neg hc2] at h; refine cond_0 (b := (decide (s1 < (t0.n : Int)))) rfl (decide_eq_false hc2) ?_
    refine wp_exit ?_
    refine then_e ?_
    refine then_e ?_
    refine inb_e ?_
    refine then_n ?_
    refine seq_ ?_
    refine region_ ?_
    refine st_val (ex_assign (v := (.int .i64 (-1))) rfl) ?_
    refine wl_nil ?_
    refine then_n ?_
    refine wp_ret ?_
    refine ret_1 rfl rfl ⟨(-1), rfl, h⟩

/-- turnpike/tables.all$1; slots 0:name, 4:name, 6:l, 7:ok, 8:l, 9:_, 10:t, 11:w, 12:_, 13:s -/
def f99 (t0 : ByteArray) (t1 : Addr) (t2 : Addr) (t3 : Addr) (R : (Sl) → World → Prop) (w : World) : Prop :=
  Rn Try.prog Value.map (Instr.loadAt 97 (Ptr t1)) w fun t15 w =>
  Rn Try.prog (fun x : Sl × Bool => Value.tuple #[(Sl.v x.1), (.bool x.2)]) (Instr.lookup 97 (.map t15) (.string t0) true) w fun t17 w =>
  if t17.2 = true then
    R t17.1 w
  else
    Rn Try.prog Value.map (Instr.loadAt 153 (Ptr t2)) w fun t22 w =>
    Rn Try.prog Sl.v (Instr.lookup 153 (.map t22) (.string t0) false) w fun t24 w =>
    Lp (σ := Sl × Int) (fun s2 w n2 =>
      if s2.2 < (t24.n : Int) then
        Jn (σ := Sl) (fun k4 =>
          RnP Try.prog Ptr (Instr.indexAt 45 (Sl.v t24) (.int .i64 s2.2)) fun t28 =>
          Rn Try.prog TTarget.v (Instr.loadAt 84 (Ptr t28)) w fun t29 w =>
          New 84 (TTarget.cells (⟨⟨#[]⟩, ⟨#[]⟩, 0⟩ : TTarget)) w fun b10 w =>
          RnU Try.prog (Instr.storeAt 84 (Ptr (⟨b10, 0, none⟩ : Addr)) (TTarget.v t29)) w fun w =>
          Rn Try.prog (Value.float .f64) (Instr.loadAt 30 (Ptr ((⟨b10, 0, none⟩ : Addr).add 2))) w fun t31 w =>
          Rn Try.prog (Value.float .f64) (Op.floatArith .quo .f64 t31 4636737291354636288) w fun t32 w =>
          Rn Try.prog Value.string (Instr.loadAt 9 (Ptr ((⟨b10, 0, none⟩ : Addr).add 0))) w fun t34 w =>
          if t34 ≠ (⟨#[]⟩ : ByteArray) then
            Rn Try.prog Value.string (Instr.loadAt 9 (Ptr ((⟨b10, 0, none⟩ : Addr).add 0))) w fun t38 w =>
            Cal Try.prog Sl.v 100 #[(Sl.v s2.1), (.string t38), (.float .f64 t32)] w fun t40 w =>
            k4 t40 w
          else
            Rn Try.prog (fun x : Value => x) (Instr.loadAt 154 (Ptr t3)) w fun t41 w =>
            Rn Try.prog Value.string (Instr.loadAt 9 (Ptr ((⟨b10, 0, none⟩ : Addr).add 1))) w fun t43 w =>
            CalV Try.prog Sl.v t41 #[(.string t43)] w fun t44 w =>
            Lp (σ := Sl × Int) (fun s6 w n6 =>
              if s6.2 < (t44.n : Int) then
                RnP Try.prog Ptr (Instr.indexAt 23 (Sl.v t44) (.int .i64 s6.2)) fun t48 =>
                Rn Try.prog TShare.v (Instr.loadAt 32 (Ptr t48)) w fun t49 w =>
                New 32 (TShare.cells (⟨⟨#[]⟩, 0⟩ : TShare)) w fun b13 w =>
                RnU Try.prog (Instr.storeAt 32 (Ptr (⟨b13, 0, none⟩ : Addr)) (TShare.v t49)) w fun w =>
                Rn Try.prog Value.string (Instr.loadAt 9 (Ptr ((⟨b13, 0, none⟩ : Addr).add 0))) w fun t52 w =>
                Rn Try.prog (Value.float .f64) (Instr.loadAt 30 (Ptr ((⟨b13, 0, none⟩ : Addr).add 1))) w fun t55 w =>
                Rn Try.prog (Value.float .f64) (Op.floatArith .mul .f64 t32 t55) w fun t56 w =>
                Cal Try.prog Sl.v 100 #[(Sl.v s6.1), (.string t52), (.float .f64 t56)] w fun t57 w =>
                n6 (t57, (IntKind.i64.wrap (s6.2 + 1))) w
              else
                k4 s6.1 w
            ) (s2.1, 0) w
        ) fun s4 w =>
          n2 (s4, (IntKind.i64.wrap (s2.2 + 1))) w
      else
        Rn Try.prog Value.map (Instr.loadAt 97 (Ptr t1)) w fun t60 w =>
        RnU Try.prog (Instr.mapUpdate 97 (.map t60) (.string t0) (Sl.v s2.1)) w fun w =>
        R s2.1 w
    ) (Sl.nil, 0) w
theorem c99 {t0 : ByteArray} {t1 : Addr} {t2 : Addr} {t3 : Addr} {R : (Sl) → World → Prop} {w : World} (h : f99 t0 t1 t2 t3 R w) :
    Cal Try.prog Sl.v 99 #[(.string t0), (Ptr t1), (Ptr t2), (Ptr t3)] w R := by
  unfold f99 at h
  refine calls_ Try.func99 Try.ntmps99 rfl rfl ?_
  refine seq_ ?_
  refine region_ ?_
  refine st_val (ex_assign (v := (Sl.v Sl.nil)) rfl) ?_
  refine wl_nil ?_
  refine then_n ?_
  refine seq_ ?_
  refine seq_ ?_
  refine region_ ?_
  refine st_rn (fun r => ex_load rfl r) h ?_; clear h; intro t15 w h
  refine st_val (ex_move (v := (.string t0)) rfl) ?_
  refine st_rn (fun r => ex_lookup rfl rfl r) h ?_; clear h; intro t17 w h
  refine st_val (ex_move (v := (.tuple #[(Sl.v t17.1), (.bool t17.2)])) rfl) ?_
  refine st_val (ex_extract (u := (.tuple #[(Sl.v t17.1), (.bool t17.2)])) rfl (v := (Sl.v t17.1)) rfl) ?_
  refine st_val (ex_extract (u := (.tuple #[(Sl.v t17.1), (.bool t17.2)])) rfl (v := (.bool t17.2)) rfl) ?_
  refine st_val (ex_assign (v := (Sl.v t17.1)) rfl) ?_
  refine st_val (ex_assign (v := (.bool t17.2)) rfl) ?_
  refine wl_nil ?_
  refine then_n ?_
  refine seq_ ?_
  refine region_ ?_
  refine st_val (ex_move (v := (.bool t17.2)) rfl) ?_
  refine wl_nil ?_
  refine then_n ?_
  by_cases hc1 : t17.2 = true
  · rw [if_pos hc1] at h; refine cond_1 (b := t17.2) rfl hc1 ?_
    refine seq_ ?_
    refine region_ ?_
    refine st_val (ex_move (v := (Sl.v t17.1)) rfl) ?_
    refine st_val (ex_assign (v := (Sl.v t17.1)) rfl) ?_
    refine wl_nil ?_
    refine then_n ?_
    refine wp_ret ?_
    refine then_r ?_
    refine ret_1 rfl rfl ⟨t17.1, rfl, h⟩
  · rw [if_neg hc1] at h; refine cond_0 (b := t17.2) rfl (Bool.eq_false_iff.2 hc1) ?_
    refine wp_skip ?_
    refine then_n ?_
    refine seq_ ?_
    refine region_ ?_
    refine st_val (ex_assign (v := (Sl.v Sl.nil)) rfl) ?_
    refine wl_nil ?_
    refine then_n ?_
    refine seq_ ?_
    refine seq_ ?_
    refine region_ ?_
    refine st_rn (fun r => ex_load rfl r) h ?_; clear h; intro t22 w h
    refine st_val (ex_move (v := (.string t0)) rfl) ?_
    refine st_rn (fun r => ex_lookup rfl rfl r) h ?_; clear h; intro t24 w h
    refine st_val (ex_len (s := t24) Try.underlying45 rfl) ?_
    refine st_val (ex_move (v := (.int .i64 0)) rfl) ?_
    refine wl_nil ?_
    refine then_n ?_
    refine wp_block ?_
    refine wp_lp (σ := Sl × Int) (fun s2 a => ∃ j, a = F 64 (upds j [(0, (.string t0)), (1, (Ptr t1)), (3, (Ptr t3)), (8, (Sl.v s2.1)), (24, (Sl.v t24)), (25, (.int .i64 (t24.n : Int))), (26, (.int .i64 s2.2))])) h (mk_upds (ae rfl (ae rfl (ae rfl (ae rfl (ae rfl (ae rfl (ae rfl ae0)))))))) ?_
    clear h; rintro s2 _ w n2 ⟨j, rfl⟩ h
    refine seq_ ?_
    refine region_ ?_
    refine st_val (ex_lss (a := s2.2) (b := (t24.n : Int)) rfl rfl) ?_
    refine wl_nil ?_
    refine then_n ?_
    refine seq_ ?_
    by_cases hc3 : s2.2 < (t24.n : Int)
    · rw [if_pos hc3] at h; refine cond_1 (b := (decide (s2.2 < (t24.n : Int)))) rfl (decide_eq_true hc3) ?_
      refine wp_skip ?_
      refine then_n ?_
      refine wp_jn (σ := Sl) (fun s4 l => ∃ j, l = upds j [(0, (.string t0)), (1, (Ptr t1)), (3, (Ptr t3)), (8, (Sl.v s4)), (24, (Sl.v t24)), (25, (.int .i64 (t24.n : Int))), (26, (.int .i64 s2.2))]) h ?_ ?_
      · clear h; rintro s4 _ w ⟨j, rfl⟩ h
        refine region_ ?_
        refine st_val (ex_add (a := s2.2) (b := 1) rfl rfl) ?_
        refine st_val (ex_move (v := (.int .i64 (IntKind.i64.wrap (s2.2 + 1)))) rfl) ?_
        refine wl_nil ?_
        exact then_n ⟨(s4, (IntKind.i64.wrap (s2.2 + 1))), mk_upds (ae rfl (ae rfl (ae rfl (ae rfl (ae rfl (ae rfl (ae rfl ae0))))))), h⟩
      · clear h; intro k4 h
        refine wp_block ?_
        refine seq_ ?_
        refine region_ ?_
        refine st_rnp (fun r => ex_indexAddr rfl rfl r) h ?_; clear h; intro t28 h
        refine st_rn (fun r => ex_load rfl r) h ?_; clear h; intro t29 w h
        refine st_new (f := (fun b => Ptr ⟨b, 0, none⟩)) (ex_allocN zero84 rfl) h ?_; clear h; intro b10 w h
        refine st_rnu (fun r => ex_store rfl rfl r) h ?_; clear h; intro w h
        refine wl_nil ?_
        refine then_n ?_
        refine seq_ ?_
        refine region_ ?_
        refine st_val (ex_fa fa84_2 (p := (⟨b10, 0, none⟩ : Addr)) rfl) ?_
        refine st_rn (fun r => ex_load rfl r) h ?_; clear h; intro t31 w h
        refine st_rn (fun r => ex_quoF (a := t31) (b := 4636737291354636288) rfl rfl r) h ?_; clear h; intro t32 w h
        refine st_val (ex_assign (v := (.float .f64 t32)) rfl) ?_
        refine wl_nil ?_
        refine then_n ?_
        refine seq_ ?_
        refine seq_ ?_
        refine region_ ?_
        refine st_val (ex_fa fa84_0 (p := (⟨b10, 0, none⟩ : Addr)) rfl) ?_
        refine st_rn (fun r => ex_load rfl r) h ?_; clear h; intro t34 w h
        refine st_val (ex_neqS (a := t34) (b := (⟨#[]⟩ : ByteArray)) rfl rfl) ?_
        refine wl_nil ?_
        refine then_n ?_
        by_cases hc5 : t34 ≠ (⟨#[]⟩ : ByteArray)
        · rw [if_pos hc5] at h; refine cond_1 (b := (decide (t34 ≠ (⟨#[]⟩ : ByteArray)))) rfl (decide_eq_true hc5) ?_
          refine seq_ ?_
          refine region_ ?_
          refine st_val (ex_move (v := (Sl.v s2.1)) rfl) ?_
          refine st_val (ex_fa fa84_0 (p := (⟨b10, 0, none⟩ : Addr)) rfl) ?_
          refine st_rn (fun r => ex_load rfl r) h ?_; clear h; intro t38 w h
          refine st_val (ex_move (v := (.float .f64 t32)) rfl) ?_
          refine st_cal en100 rfl h ?_; clear h; intro t40 w h
          refine st_val (ex_assign (v := (Sl.v t40)) rfl) ?_
          refine wl_nil ?_
          refine then_n ?_
          refine wp_exit ?_
          refine then_e ?_
          refine inb_e ?_
          exact then_n ⟨t40, _, rfl, mk_upds' (ae rfl (ae rfl (ae rfl (ae rfl (ae rfl (ae rfl (ae rfl ae0))))))), h⟩
        · rw [if_neg hc5] at h; refine cond_0 (b := (decide (t34 ≠ (⟨#[]⟩ : ByteArray)))) rfl (decide_eq_false hc5) ?_
          refine wp_skip ?_
          refine then_n ?_
          refine seq_ ?_
          refine region_ ?_
          refine st_rn (fun r => ex_load rfl r) h ?_; clear h; intro t41 w h
          refine st_val (ex_fa fa84_1 (p := (⟨b10, 0, none⟩ : Addr)) rfl) ?_
          refine st_rn (fun r => ex_load rfl r) h ?_; clear h; intro t43 w h
          refine st_calv rfl rfl h ?_; clear h; intro t44 w h
          refine st_val (ex_len (s := t44) Try.underlying23 rfl) ?_
          refine st_val (ex_move (v := (.int .i64 0)) rfl) ?_
          refine wl_nil ?_
          refine then_n ?_
          refine wp_block ?_
          refine wp_lp (σ := Sl × Int) (fun s6 a => ∃ j, a = F 64 (upds j [(0, (.string t0)), (1, (Ptr t1)), (3, (Ptr t3)), (8, (Sl.v s6.1)), (11, (.float .f64 t32)), (24, (Sl.v t24)), (25, (.int .i64 (t24.n : Int))), (26, (.int .i64 s2.2)), (44, (Sl.v t44)), (45, (.int .i64 (t44.n : Int))), (46, (.int .i64 s6.2))])) h (mk_upds (ae rfl (ae rfl (ae rfl (ae rfl (ae rfl (ae rfl (ae rfl (ae rfl (ae rfl (ae rfl (ae rfl ae0)))))))))))) ?_
          clear h; rintro s6 _ w n6 ⟨j, rfl⟩ h
          refine seq_ ?_
          refine region_ ?_
          refine st_val (ex_lss (a := s6.2) (b := (t44.n : Int)) rfl rfl) ?_
          refine wl_nil ?_
          refine then_n ?_
          refine seq_ ?_
          by_cases hc7 : s6.2 < (t44.n : Int)
          · rw [if_pos hc7] at h; refine cond_1 (b := (decide (s6.2 < (t44.n : Int)))) rfl (decide_eq_true hc7) ?_
            refine wp_skip ?_
            refine then_n ?_
            refine seq_ ?_
            refine wp_block ?_
            refine seq_ ?_
            refine region_ ?_
            refine st_rnp (fun r => ex_indexAddr rfl rfl r) h ?_; clear h; intro t48 h
            refine st_rn (fun r => ex_load rfl r) h ?_; clear h; intro t49 w h
            refine st_new (f := (fun b => Ptr ⟨b, 0, none⟩)) (ex_allocN zero32 rfl) h ?_; clear h; intro b13 w h
            refine st_rnu (fun r => ex_store rfl rfl r) h ?_; clear h; intro w h
            refine wl_nil ?_
            refine then_n ?_
            refine region_ ?_
            refine st_val (ex_move (v := (Sl.v s6.1)) rfl) ?_
            refine st_val (ex_fa fa32_0 (p := (⟨b13, 0, none⟩ : Addr)) rfl) ?_
            refine st_rn (fun r => ex_load rfl r) h ?_; clear h; intro t52 w h
            refine st_val (ex_move (v := (.float .f64 t32)) rfl) ?_
            refine st_val (ex_fa fa32_1 (p := (⟨b13, 0, none⟩ : Addr)) rfl) ?_
            refine st_rn (fun r => ex_load rfl r) h ?_; clear h; intro t55 w h
            refine st_rn (fun r => ex_mulF (a := t32) (b := t55) rfl rfl r) h ?_; clear h; intro t56 w h
            refine st_cal en100 rfl h ?_; clear h; intro t57 w h
            refine st_val (ex_assign (v := (Sl.v t57)) rfl) ?_
            refine wl_nil ?_
            refine inb_n ?_
            refine then_n ?_
            refine region_ ?_
            refine st_val (ex_add (a := s6.2) (b := 1) rfl rfl) ?_
            refine st_val (ex_move (v := (.int .i64 (IntKind.i64.wrap (s6.2 + 1)))) rfl) ?_
            refine wl_nil ?_
            exact then_n ⟨(t57, (IntKind.i64.wrap (s6.2 + 1))), mk_upds (ae rfl (ae rfl (ae rfl (ae rfl (ae rfl (ae rfl (ae rfl (ae rfl (ae rfl (ae rfl (ae rfl ae0))))))))))), h⟩
          · rw [if_neg hc7] at h; refine cond_0 (b := (decide (s6.2 < (t44.n : Int)))) rfl (decide_eq_false hc7) ?_
            refine wp_exit ?_
            refine then_e ?_
            refine then_e ?_
            refine inb_e ?_
            refine inb_n ?_
            exact then_n ⟨s6.1, _, rfl, mk_upds' (ae rfl (ae rfl (ae rfl (ae rfl (ae rfl (ae rfl (ae rfl ae0))))))), h⟩
    · rw [if_neg hc3] at h; refine cond_0 (b := (decide (s2.2 < (t24.n : Int)))) rfl (decide_eq_false hc3) ?_
      refine wp_exit ?_
      refine then_e ?_
      refine then_e ?_
      refine inb_e ?_
      refine then_n ?_
      refine seq_ ?_
      refine region_ ?_
      refine st_rn (fun r => ex_load rfl r) h ?_; clear h; intro t60 w h
      refine st_val (ex_move (v := (.string t0)) rfl) ?_
      refine st_val (ex_move (v := (Sl.v s2.1)) rfl) ?_
      refine st_rnu (fun r => ex_mapUpdate rfl rfl rfl r) h ?_; clear h; intro w h
      refine wl_nil ?_
      refine then_n ?_
      refine seq_ ?_
      refine region_ ?_
      refine st_val (ex_move (v := (Sl.v s2.1)) rfl) ?_
      refine st_val (ex_assign (v := (Sl.v s2.1)) rfl) ?_
      refine wl_nil ?_
      refine then_n ?_
      refine wp_ret ?_
      refine ret_1 rfl rfl ⟨s2.1, rfl, h⟩

/-- turnpike/tables.add; slots 0:l, 1:service, 2:x, 3:l, 4:service, 5:x, 7:i -/
def f100 (t0 : Sl) (t1 : ByteArray) (t2 : Nat) (R : (Sl) → World → Prop) (w : World) : Prop :=
  New 9 [(.string t1)] w fun b4 w =>
  Cal Try.prog (Value.int .i64) 124 #[(Sl.v t0), (Value.func (.func 125) #[] #[(Ptr (⟨b4, 0, none⟩ : Addr))])] w fun t10 w =>
  Jn (σ := Sl × Int) (fun k1 =>
    if t10 < 0 then
      Rn Try.prog Value.string (Instr.loadAt 9 (Ptr (⟨b4, 0, none⟩ : Addr))) w fun t16 w =>
      New 32 ((TShare.cells (⟨t16, 0⟩ : TShare))) w fun b18 w =>
      Rn Try.prog Sl.v (Builtin.append_ #[23, 23] 23 #[(Sl.v t0), (Sl.v (⟨some ⟨b18, 0, none⟩, 1, 1⟩ : Sl))]) w fun t19 w =>
      k1 (t19, (t0.n : Int)) w
    else
      k1 (t0, t10) w
  ) fun s1 w =>
    RnP Try.prog Ptr (Instr.indexAt 23 (Sl.v s1.1) (.int .i64 s1.2)) fun t22 =>
    Rn Try.prog (Value.float .f64) (Instr.loadAt 30 (Ptr (t22.add 1))) w fun t24 w =>
    Rn Try.prog (Value.float .f64) (Op.floatArith .add .f64 t24 t2) w fun t26 w =>
    RnP Try.prog Ptr (Instr.indexAt 23 (Sl.v s1.1) (.int .i64 s1.2)) fun t27 =>
    RnU Try.prog (Instr.storeAt 30 (Ptr (t27.add 1)) (.float .f64 t26)) w fun w =>
    R s1.1 w
theorem c100 {t0 : Sl} {t1 : ByteArray} {t2 : Nat} {R : (Sl) → World → Prop} {w : World} (h : f100 t0 t1 t2 R w) :
    Cal Try.prog Sl.v 100 #[(Sl.v t0), (.string t1), (.float .f64 t2)] w R := by
  unfold f100 at h
  refine calls_ Try.func100 Try.ntmps100 rfl rfl ?_
  refine seq_ ?_
  refine region_ ?_
  refine st_new (f := (fun b => Ptr ⟨b, 0, none⟩)) (ex_boxN rfl rfl) h ?_; clear h; intro b4 w h
  refine st_val (ex_assign (v := (Sl.v Sl.nil)) rfl) ?_
  refine wl_nil ?_
  refine then_n ?_
  refine seq_ ?_
  refine region_ ?_
  refine st_val (ex_move (v := (Sl.v t0)) rfl) ?_
  refine st_val (ex_makeFunc rfl rfl) ?_
  refine st_cal en124 rfl h ?_; clear h; intro t10 w h
  refine st_val (ex_assign (v := (.int .i64 t10)) rfl) ?_
  refine wl_nil ?_
  refine then_n ?_
  refine wp_jn (σ := Sl × Int) (fun s1 l => ∃ j, l = upds j [(0, (Sl.v s1.1)), (2, (.float .f64 t2)), (7, (.int .i64 s1.2))]) h ?_ ?_
  · clear h; rintro s1 _ w ⟨j, rfl⟩ h
    refine seq_ ?_
    refine region_ ?_
    refine st_val (ex_move (v := (Sl.v s1.1)) rfl) ?_
    refine st_val (ex_move (v := (.int .i64 s1.2)) rfl) ?_
    refine st_rnp (fun r => ex_indexAddr rfl rfl r) h ?_; clear h; intro t22 h
    refine st_val (ex_fa fa32_1 (p := t22) rfl) ?_
    refine st_rn (fun r => ex_load rfl r) h ?_; clear h; intro t24 w h
    refine st_val (ex_move (v := (.float .f64 t2)) rfl) ?_
    refine st_rn (fun r => ex_addF (a := t24) (b := t2) rfl rfl r) h ?_; clear h; intro t26 w h
    refine st_rnp (fun r => ex_indexAddr rfl rfl r) h ?_; clear h; intro t27 h
    refine st_val (ex_fa fa32_1 (p := t27) rfl) ?_
    refine st_rnu (fun r => ex_store rfl rfl r) h ?_; clear h; intro w h
    refine wl_nil ?_
    refine then_n ?_
    refine seq_ ?_
    refine region_ ?_
    refine st_val (ex_move (v := (Sl.v s1.1)) rfl) ?_
    refine st_val (ex_assign (v := (Sl.v s1.1)) rfl) ?_
    refine wl_nil ?_
    refine then_n ?_
    refine wp_ret ?_
    refine ret_1 rfl rfl ⟨s1.1, rfl, h⟩
  · clear h; intro k1 h
    refine seq_ ?_
    refine region_ ?_
    refine st_val (ex_move (v := (.int .i64 t10)) rfl) ?_
    refine st_val (ex_lss (a := t10) (b := 0) rfl rfl) ?_
    refine wl_nil ?_
    refine then_n ?_
    by_cases hc2 : t10 < 0
    · rw [if_pos hc2] at h; refine cond_1 (b := (decide (t10 < 0))) rfl (decide_eq_true hc2) ?_
      refine seq_ ?_
      refine region_ ?_
      refine st_val (ex_move (v := (Sl.v t0)) rfl) ?_
      refine st_val (ex_len (s := t0) Try.underlying23 rfl) ?_
      refine st_val (ex_assign (v := (.int .i64 (t0.n : Int))) rfl) ?_
      refine wl_nil ?_
      refine then_n ?_
      refine region_ ?_
      refine st_val (ex_move (v := (Sl.v t0)) rfl) ?_
      refine st_rn (fun r => ex_load rfl r) h ?_; clear h; intro t16 w h
      refine st_val (ex_build (a' := [(0, (.string t16))]) (v := TShare.v (⟨t16, 0⟩ : TShare)) rfl (e_build Try.underlying32 zero32 rfl pl32 rfl _)) ?_
      refine st_new (f := (fun b => Sl.v ⟨some ⟨b, 0, none⟩, 1, 1⟩)) (ex_buildSlice (a' := [(0, (TShare.v (⟨t16, 0⟩ : TShare)))]) rfl (e_buildSlice (cs := ((TShare.cells (⟨t16, 0⟩ : TShare)))) Try.underlying23 info32 iz32 (by decide +kernel) (by decide +kernel) (by kernel_rfl) _)) h ?_; clear h; intro b18 w h
      refine st_rn (fun r => ex_builtin rfl (fun _ => rfl) r) h ?_; clear h; intro t19 w h
      refine st_val (ex_assign (v := (Sl.v t19)) rfl) ?_
      refine wl_nil ?_
      exact then_n ⟨(t19, (t0.n : Int)), _, rfl, mk_upds' (ae rfl (ae rfl (ae rfl ae0))), h⟩
    · rw [if_neg hc2] at h; refine cond_0 (b := (decide (t10 < 0))) rfl (decide_eq_false hc2) ?_
      refine wp_skip ?_
      exact then_n ⟨(t0, t10), _, rfl, mk_upds' (ae rfl (ae rfl (ae rfl ae0))), h⟩

/-- turnpike/turnpikeref14.dangling; slots 0:conf, 1:r, 2:conf, 3:r, 5:i, 6:t, 7:i -/
def f101 (t0 : Sl) (t1 : TResource) (R : (Int) → World → Prop) (w : World) : Prop :=
  New 48 (TResource.cells t1) w fun b3 w =>
  Jn (σ := Unit) (fun k1 =>
    Rn Try.prog (Value.int .i64) (Instr.loadAt 3 (Ptr ((⟨b3, 0, none⟩ : Addr).add 0))) w fun t9 w =>
    if t9 = 2 then
      Lp (σ := Int) (fun s3 w n3 =>
        Rn Try.prog Sl.v (Instr.loadAt 45 (Ptr ((⟨b3, 0, none⟩ : Addr).add 3))) w fun t13 w =>
        if s3 < (t13.n : Int) then
          Rn Try.prog Sl.v (Instr.loadAt 45 (Ptr ((⟨b3, 0, none⟩ : Addr).add 3))) w fun t19 w =>
          RnP Try.prog Ptr (Instr.indexAt 45 (Sl.v t19) (.int .i64 s3)) fun t21 =>
          Rn Try.prog TTarget.v (Instr.loadAt 84 (Ptr t21)) w fun t22 w =>
          New 84 (TTarget.cells (⟨⟨#[]⟩, ⟨#[]⟩, 0⟩ : TTarget)) w fun b6 w =>
          RnU Try.prog (Instr.storeAt 84 (Ptr (⟨b6, 0, none⟩ : Addr)) (TTarget.v t22)) w fun w =>
          Jn (σ := Bool) (fun k5 =>
            Rn Try.prog Value.string (Instr.loadAt 9 (Ptr ((⟨b6, 0, none⟩ : Addr).add 0))) w fun t24 w =>
            if t24 ≠ (⟨#[]⟩ : ByteArray) then
              Rn Try.prog Value.string (Instr.loadAt 9 (Ptr ((⟨b6, 0, none⟩ : Addr).add 0))) w fun t29 w =>
              Cal Try.prog (Value.int .i64) 66 #[(Sl.v t0), (.int .i64 1), (.string t29)] w fun t30 w =>
              if t30 < 0 then
                k5 true w
              else
                Rn Try.prog Value.string (Instr.loadAt 9 (Ptr ((⟨b6, 0, none⟩ : Addr).add 0))) w fun t35 w =>
                if t35 = (⟨#[]⟩ : ByteArray) then
                  Rn Try.prog Value.string (Instr.loadAt 9 (Ptr ((⟨b6, 0, none⟩ : Addr).add 1))) w fun t40 w =>
                  Cal Try.prog (Value.int .i64) 66 #[(Sl.v t0), (.int .i64 2), (.string t40)] w fun t41 w =>
                  k5 (decide (t41 < 0)) w
                else
                  k5 false w
            else
              Rn Try.prog Value.string (Instr.loadAt 9 (Ptr ((⟨b6, 0, none⟩ : Addr).add 0))) w fun t35_1 w =>
              if t35_1 = (⟨#[]⟩ : ByteArray) then
                Rn Try.prog Value.string (Instr.loadAt 9 (Ptr ((⟨b6, 0, none⟩ : Addr).add 1))) w fun t40_1 w =>
                Cal Try.prog (Value.int .i64) 66 #[(Sl.v t0), (.int .i64 2), (.string t40_1)] w fun t41_1 w =>
                k5 (decide (t41_1 < 0)) w
              else
                k5 false w
          ) fun s5 w =>
            if s5 = true then
              R (IntKind.i64.wrap (s3 + 1)) w
            else
              n3 (IntKind.i64.wrap (s3 + 1)) w
        else
          k1 () w
      ) 0 w
    else
      k1 () w
  ) fun s1 w =>
    Jn (σ := Unit) (fun k11 =>
      Rn Try.prog (Value.int .i64) (Instr.loadAt 3 (Ptr ((⟨b3, 0, none⟩ : Addr).add 0))) w fun t48 w =>
      if t48 = 3 then
        Lp (σ := Int) (fun s13 w n13 =>
          Rn Try.prog Sl.v (Instr.loadAt 46 (Ptr ((⟨b3, 0, none⟩ : Addr).add 5))) w fun t52 w =>
          if s13 < (t52.n : Int) then
            Rn Try.prog Sl.v (Instr.loadAt 46 (Ptr ((⟨b3, 0, none⟩ : Addr).add 5))) w fun t59 w =>
            RnP Try.prog Ptr (Instr.indexAt 46 (Sl.v t59) (.int .i64 s13)) fun t61 =>
            Rn Try.prog Value.string (Instr.loadAt 9 (Ptr (t61.add 2))) w fun t63 w =>
            Cal Try.prog (Value.int .i64) 66 #[(Sl.v t0), (.int .i64 2), (.string t63)] w fun t64 w =>
            if t64 < 0 then
              R (IntKind.i64.wrap (s13 + 1)) w
            else
              n13 (IntKind.i64.wrap (s13 + 1)) w
          else
            k11 () w
        ) 0 w
      else
        k11 () w
    ) fun s11 w =>
      Jn (σ := Bool) (fun k16 =>
        Rn Try.prog (Value.int .i64) (Instr.loadAt 3 (Ptr ((⟨b3, 0, none⟩ : Addr).add 0))) w fun t69 w =>
        if t69 = 4 then
          Rn Try.prog Value.string (Instr.loadAt 9 (Ptr ((⟨b3, 0, none⟩ : Addr).add 6))) w fun t74 w =>
          Cal Try.prog (Value.int .i64) 66 #[(Sl.v t0), (.int .i64 3), (.string t74)] w fun t75 w =>
          k16 (decide (t75 < 0)) w
        else
          k16 false w
      ) fun s16 w =>
        if s16 = true then
          R 0 w
        else
          R (-1) w
theorem c101 {t0 : Sl} {t1 : TResource} {R : (Int) → World → Prop} {w : World} (h : f101 t0 t1 R w) :
    Cal Try.prog (Value.int .i64) 101 #[(Sl.v t0), (TResource.v t1)] w R := by
  unfold f101 at h
  refine calls_ Try.func101 Try.ntmps101 rfl rfl ?_
  refine seq_ ?_
  refine region_ ?_
  refine st_new (f := (fun b => Ptr ⟨b, 0, none⟩)) (ex_boxN rfl rfl) h ?_; clear h; intro b3 w h
  refine st_val (ex_assign (v := (.int .i64 0)) rfl) ?_
  refine wl_nil ?_
  refine then_n ?_
  refine wp_jn (σ := Unit) (fun s1 l => ∃ j, l = upds j [(0, (Sl.v t0)), (3, (Ptr (⟨b3, 0, none⟩ : Addr)))]) h ?_ ?_
  · clear h; rintro s1 _ w ⟨j, rfl⟩ h
    refine wp_jn (σ := Unit) (fun s11 l => ∃ j, l = upds j [(0, (Sl.v t0)), (3, (Ptr (⟨b3, 0, none⟩ : Addr)))]) h ?_ ?_
    · clear h; rintro s11 _ w ⟨j, rfl⟩ h
      refine seq_ ?_
      refine wp_jn (σ := Bool) (fun s16 l => ∃ j, l = upds j [(77, (.bool s16))]) h ?_ ?_
      · clear h; rintro s16 _ w ⟨j, rfl⟩ h
        by_cases hc18 : s16 = true
        · rw [if_pos hc18] at h; refine cond_1 (b := s16) rfl hc18 ?_
          refine seq_ ?_
          refine region_ ?_
          refine st_val (ex_assign (v := (.int .i64 0)) rfl) ?_
          refine wl_nil ?_
          refine then_n ?_
          refine wp_ret ?_
          refine then_r ?_
          refine ret_1 rfl rfl ⟨0, rfl, h⟩
        · rw [if_neg hc18] at h; refine cond_0 (b := s16) rfl (Bool.eq_false_iff.2 hc18) ?_
          refine wp_skip ?_
          refine then_n ?_
          refine seq_ ?_
          refine region_ ?_
          refine st_val (ex_assign (v := (.int .i64 (-1))) rfl) ?_
          refine wl_nil ?_
          refine then_n ?_
          refine wp_ret ?_
          refine ret_1 rfl rfl ⟨(-1), rfl, h⟩
      · clear h; intro k16 h
        refine region_ ?_
        refine st_val (ex_fa fa48_0 (p := (⟨b3, 0, none⟩ : Addr)) rfl) ?_
        refine st_rn (fun r => ex_load rfl r) h ?_; clear h; intro t69 w h
        refine st_val (ex_eql (a := t69) (b := 4) rfl rfl) ?_
        refine st_val (ex_move (v := (.bool (decide (t69 = 4)))) rfl) ?_
        by_cases hc17 : t69 = 4
        · rw [if_pos hc17] at h
          refine st_on (t := 71) (c := (decide (t69 = 4))) rfl rfl (decide_eq_true hc17) ?_
          refine st_val (ex_move (v := (Sl.v t0)) rfl) ?_
          refine st_on (t := 71) (c := (decide (t69 = 4))) rfl rfl (decide_eq_true hc17) ?_
          refine st_val (ex_fa fa48_6 (p := (⟨b3, 0, none⟩ : Addr)) rfl) ?_
          refine st_on (t := 71) (c := (decide (t69 = 4))) rfl rfl (decide_eq_true hc17) ?_
          refine st_rn (fun r => ex_load rfl r) h ?_; clear h; intro t74 w h
          refine st_on (t := 71) (c := (decide (t69 = 4))) rfl rfl (decide_eq_true hc17) ?_
          refine st_cal en66 rfl h ?_; clear h; intro t75 w h
          refine st_on (t := 71) (c := (decide (t69 = 4))) rfl rfl (decide_eq_true hc17) ?_
          refine st_val (ex_lss (a := t75) (b := 0) rfl rfl) ?_
          refine st_val (ex_pick1 (b := (decide (t69 = 4))) rfl (decide_eq_true hc17) (v := (.bool (decide (t75 < 0)))) rfl) ?_
          refine wl_nil ?_
          exact then_n ⟨(decide (t75 < 0)), _, rfl, mk_upds' (ae rfl ae0), h⟩
        · rw [if_neg hc17] at h
          refine st_off (t := 71) (c := (decide (t69 = 4))) rfl rfl (decide_eq_false hc17) ?_
          refine st_off (t := 71) (c := (decide (t69 = 4))) rfl rfl (decide_eq_false hc17) ?_
          refine st_off (t := 71) (c := (decide (t69 = 4))) rfl rfl (decide_eq_false hc17) ?_
          refine st_off (t := 71) (c := (decide (t69 = 4))) rfl rfl (decide_eq_false hc17) ?_
          refine st_off (t := 71) (c := (decide (t69 = 4))) rfl rfl (decide_eq_false hc17) ?_
          refine st_val (ex_pick0 (b := (decide (t69 = 4))) rfl (decide_eq_false hc17) (v := (.bool false)) rfl) ?_
          refine wl_nil ?_
          exact then_n ⟨false, _, rfl, mk_upds' (ae rfl ae0), h⟩
    · clear h; intro k11 h
      refine seq_ ?_
      refine region_ ?_
      refine st_val (ex_fa fa48_0 (p := (⟨b3, 0, none⟩ : Addr)) rfl) ?_
      refine st_rn (fun r => ex_load rfl r) h ?_; clear h; intro t48 w h
      refine st_val (ex_eql (a := t48) (b := 3) rfl rfl) ?_
      refine wl_nil ?_
      refine then_n ?_
      by_cases hc12 : t48 = 3
      · rw [if_pos hc12] at h; refine cond_1 (b := (decide (t48 = 3))) rfl (decide_eq_true hc12) ?_
        refine seq_ ?_
        refine region_ ?_
        refine st_val (ex_assign (v := (.int .i64 0)) rfl) ?_
        refine wl_nil ?_
        refine then_n ?_
        refine wp_block ?_
        refine wp_lp (σ := Int) (fun s13 a => ∃ j, a = F 78 (upds j [(0, (Sl.v t0)), (3, (Ptr (⟨b3, 0, none⟩ : Addr))), (7, (.int .i64 s13))])) h (mk_upds (ae rfl (ae rfl (ae rfl ae0)))) ?_
        clear h; rintro s13 _ w n13 ⟨j, rfl⟩ h
        refine seq_ ?_
        refine seq_ ?_
        refine region_ ?_
        refine st_val (ex_move (v := (.int .i64 s13)) rfl) ?_
        refine st_val (ex_fa fa48_5 (p := (⟨b3, 0, none⟩ : Addr)) rfl) ?_
        refine st_rn (fun r => ex_load rfl r) h ?_; clear h; intro t52 w h
        refine st_val (ex_len (s := t52) Try.underlying46 rfl) ?_
        refine st_val (ex_lss (a := s13) (b := (t52.n : Int)) rfl rfl) ?_
        refine wl_nil ?_
        refine then_n ?_
        by_cases hc14 : s13 < (t52.n : Int)
        · rw [if_pos hc14] at h; refine cond_1 (b := (decide (s13 < (t52.n : Int)))) rfl (decide_eq_true hc14) ?_
          refine wp_skip ?_
          refine then_n ?_
          refine seq_ ?_
          refine wp_block ?_
          refine seq_ ?_
          refine region_ ?_
          refine st_val (ex_move (v := (Sl.v t0)) rfl) ?_
          refine st_val (ex_fa fa48_5 (p := (⟨b3, 0, none⟩ : Addr)) rfl) ?_
          refine st_rn (fun r => ex_load rfl r) h ?_; clear h; intro t59 w h
          refine st_val (ex_move (v := (.int .i64 s13)) rfl) ?_
          refine st_rnp (fun r => ex_indexAddr rfl rfl r) h ?_; clear h; intro t61 h
          refine st_val (ex_fa fa91_2 (p := t61) rfl) ?_
          refine st_rn (fun r => ex_load rfl r) h ?_; clear h; intro t63 w h
          refine st_cal en66 rfl h ?_; clear h; intro t64 w h
          refine st_val (ex_lss (a := t64) (b := 0) rfl rfl) ?_
          refine wl_nil ?_
          refine then_n ?_
          by_cases hc15 : t64 < 0
          · rw [if_pos hc15] at h; refine cond_1 (b := (decide (t64 < 0))) rfl (decide_eq_true hc15) ?_
            refine seq_ ?_
            refine region_ ?_
            refine st_val (ex_move (v := (.int .i64 s13)) rfl) ?_
            refine st_val (ex_add (a := s13) (b := 1) rfl rfl) ?_
            refine st_val (ex_assign (v := (.int .i64 (IntKind.i64.wrap (s13 + 1)))) rfl) ?_
            refine wl_nil ?_
            refine then_n ?_
            refine wp_ret ?_
            refine inb_r ?_
            refine then_r ?_
            refine then_r ?_
            refine inb_r ?_
            refine then_r ?_
            refine ret_1 rfl rfl ⟨(IntKind.i64.wrap (s13 + 1)), rfl, h⟩
          · rw [if_neg hc15] at h; refine cond_0 (b := (decide (t64 < 0))) rfl (decide_eq_false hc15) ?_
            refine wp_skip ?_
            refine inb_n ?_
            refine then_n ?_
            refine region_ ?_
            refine st_val (ex_move (v := (.int .i64 s13)) rfl) ?_
            refine st_val (ex_add (a := s13) (b := 1) rfl rfl) ?_
            refine st_val (ex_assign (v := (.int .i64 (IntKind.i64.wrap (s13 + 1)))) rfl) ?_
            refine wl_nil ?_
            exact then_n ⟨(IntKind.i64.wrap (s13 + 1)), mk_upds (ae rfl (ae rfl (ae rfl ae0))), h⟩
        · rw [if_neg hc14] at h; refine cond_0 (b := (decide (s13 < (t52.n : Int)))) rfl (decide_eq_false hc14) ?_
          refine wp_exit ?_
          refine then_e ?_
          refine then_e ?_
          refine inb_e ?_
          exact then_n ⟨(), _, rfl, mk_upds' (ae rfl (ae rfl ae0)), h⟩
      · rw [if_neg hc12] at h; refine cond_0 (b := (decide (t48 = 3))) rfl (decide_eq_false hc12) ?_
        refine wp_skip ?_
        exact then_n ⟨(), _, rfl, mk_upds' (ae rfl (ae rfl ae0)), h⟩
  · clear h; intro k1 h
    refine seq_ ?_
    refine region_ ?_
    refine st_val (ex_fa fa48_0 (p := (⟨b3, 0, none⟩ : Addr)) rfl) ?_
    refine st_rn (fun r => ex_load rfl r) h ?_; clear h; intro t9 w h
    refine st_val (ex_eql (a := t9) (b := 2) rfl rfl) ?_
    refine wl_nil ?_
    refine then_n ?_
    by_cases hc2 : t9 = 2
    · rw [if_pos hc2] at h; refine cond_1 (b := (decide (t9 = 2))) rfl (decide_eq_true hc2) ?_
      refine seq_ ?_
      refine region_ ?_
      refine st_val (ex_assign (v := (.int .i64 0)) rfl) ?_
      refine wl_nil ?_
      refine then_n ?_
      refine wp_block ?_
      refine wp_lp (σ := Int) (fun s3 a => ∃ j, a = F 78 (upds j [(0, (Sl.v t0)), (3, (Ptr (⟨b3, 0, none⟩ : Addr))), (5, (.int .i64 s3))])) h (mk_upds (ae rfl (ae rfl (ae rfl ae0)))) ?_
      clear h; rintro s3 _ w n3 ⟨j, rfl⟩ h
      refine seq_ ?_
      refine seq_ ?_
      refine region_ ?_
      refine st_val (ex_move (v := (.int .i64 s3)) rfl) ?_
      refine st_val (ex_fa fa48_3 (p := (⟨b3, 0, none⟩ : Addr)) rfl) ?_
      refine st_rn (fun r => ex_load rfl r) h ?_; clear h; intro t13 w h
      refine st_val (ex_len (s := t13) Try.underlying45 rfl) ?_
      refine st_val (ex_lss (a := s3) (b := (t13.n : Int)) rfl rfl) ?_
      refine wl_nil ?_
      refine then_n ?_
      by_cases hc4 : s3 < (t13.n : Int)
      · rw [if_pos hc4] at h; refine cond_1 (b := (decide (s3 < (t13.n : Int)))) rfl (decide_eq_true hc4) ?_
        refine wp_skip ?_
        refine then_n ?_
        refine seq_ ?_
        refine wp_block ?_
        refine seq_ ?_
        refine region_ ?_
        refine st_val (ex_fa fa48_3 (p := (⟨b3, 0, none⟩ : Addr)) rfl) ?_
        refine st_rn (fun r => ex_load rfl r) h ?_; clear h; intro t19 w h
        refine st_val (ex_move (v := (.int .i64 s3)) rfl) ?_
        refine st_rnp (fun r => ex_indexAddr rfl rfl r) h ?_; clear h; intro t21 h
        refine st_rn (fun r => ex_load rfl r) h ?_; clear h; intro t22 w h
        refine st_new (f := (fun b => Ptr ⟨b, 0, none⟩)) (ex_allocN zero84 rfl) h ?_; clear h; intro b6 w h
        refine st_rnu (fun r => ex_store rfl rfl r) h ?_; clear h; intro w h
        refine wl_nil ?_
        refine then_n ?_
        refine wp_jn (σ := Bool) (fun s5 l => ∃ j, l = upds j [(0, (Sl.v t0)), (3, (Ptr (⟨b3, 0, none⟩ : Addr))), (5, (.int .i64 s3)), (44, (.bool s5))]) h ?_ ?_
        · clear h; rintro s5 _ w ⟨j, rfl⟩ h
          by_cases hc10 : s5 = true
          · rw [if_pos hc10] at h; refine cond_1 (b := s5) rfl hc10 ?_
            refine seq_ ?_
            refine region_ ?_
            refine st_val (ex_move (v := (.int .i64 s3)) rfl) ?_
            refine st_val (ex_add (a := s3) (b := 1) rfl rfl) ?_
            refine st_val (ex_assign (v := (.int .i64 (IntKind.i64.wrap (s3 + 1)))) rfl) ?_
            refine wl_nil ?_
            refine then_n ?_
            refine wp_ret ?_
            refine inb_r ?_
            refine then_r ?_
            refine then_r ?_
            refine inb_r ?_
            refine then_r ?_
            refine ret_1 rfl rfl ⟨(IntKind.i64.wrap (s3 + 1)), rfl, h⟩
          · rw [if_neg hc10] at h; refine cond_0 (b := s5) rfl (Bool.eq_false_iff.2 hc10) ?_
            refine wp_skip ?_
            refine inb_n ?_
            refine then_n ?_
            refine region_ ?_
            refine st_val (ex_move (v := (.int .i64 s3)) rfl) ?_
            refine st_val (ex_add (a := s3) (b := 1) rfl rfl) ?_
            refine st_val (ex_assign (v := (.int .i64 (IntKind.i64.wrap (s3 + 1)))) rfl) ?_
            refine wl_nil ?_
            exact then_n ⟨(IntKind.i64.wrap (s3 + 1)), mk_upds (ae rfl (ae rfl (ae rfl ae0))), h⟩
        · clear h; intro k5 h
          refine region_ ?_
          refine st_val (ex_fa fa84_0 (p := (⟨b6, 0, none⟩ : Addr)) rfl) ?_
          refine st_rn (fun r => ex_load rfl r) h ?_; clear h; intro t24 w h
          refine st_val (ex_neqS (a := t24) (b := (⟨#[]⟩ : ByteArray)) rfl rfl) ?_
          refine st_val (ex_move (v := (.bool (decide (t24 ≠ (⟨#[]⟩ : ByteArray))))) rfl) ?_
          by_cases hc6 : t24 ≠ (⟨#[]⟩ : ByteArray)
          · rw [if_pos hc6] at h
            refine st_on (t := 26) (c := (decide (t24 ≠ (⟨#[]⟩ : ByteArray)))) rfl rfl (decide_eq_true hc6) ?_
            refine st_val (ex_move (v := (Sl.v t0)) rfl) ?_
            refine st_on (t := 26) (c := (decide (t24 ≠ (⟨#[]⟩ : ByteArray)))) rfl rfl (decide_eq_true hc6) ?_
            refine st_val (ex_fa fa84_0 (p := (⟨b6, 0, none⟩ : Addr)) rfl) ?_
            refine st_on (t := 26) (c := (decide (t24 ≠ (⟨#[]⟩ : ByteArray)))) rfl rfl (decide_eq_true hc6) ?_
            refine st_rn (fun r => ex_load rfl r) h ?_; clear h; intro t29 w h
            refine st_on (t := 26) (c := (decide (t24 ≠ (⟨#[]⟩ : ByteArray)))) rfl rfl (decide_eq_true hc6) ?_
            refine st_cal en66 rfl h ?_; clear h; intro t30 w h
            refine st_on (t := 26) (c := (decide (t24 ≠ (⟨#[]⟩ : ByteArray)))) rfl rfl (decide_eq_true hc6) ?_
            refine st_val (ex_lss (a := t30) (b := 0) rfl rfl) ?_
            refine st_val (ex_pick1 (b := (decide (t24 ≠ (⟨#[]⟩ : ByteArray)))) rfl (decide_eq_true hc6) (v := (.bool (decide (t30 < 0)))) rfl) ?_
            refine st_val (ex_move (v := (.bool (decide (t30 < 0)))) rfl) ?_
            by_cases hc7 : t30 < 0
            · rw [if_pos hc7] at h
              refine st_off (t := 33) (c := (decide (t30 < 0))) rfl rfl (decide_eq_true hc7) ?_
              refine st_off (t := 33) (c := (decide (t30 < 0))) rfl rfl (decide_eq_true hc7) ?_
              refine st_off (t := 33) (c := (decide (t30 < 0))) rfl rfl (decide_eq_true hc7) ?_
              refine st_off (t := 33) (c := (decide (t30 < 0))) rfl rfl (decide_eq_true hc7) ?_
              refine st_offu (t := 37) rfl rfl ?_
              refine st_offu (t := 37) rfl rfl ?_
              refine st_offu (t := 37) rfl rfl ?_
              refine st_offu (t := 37) rfl rfl ?_
              refine st_offu (t := 37) rfl rfl ?_
              refine st_off (t := 33) (c := (decide (t30 < 0))) rfl rfl (decide_eq_true hc7) ?_
              refine st_val (ex_pick1 (b := (decide (t30 < 0))) rfl (decide_eq_true hc7) (v := (.bool true)) rfl) ?_
              refine wl_nil ?_
              exact then_n ⟨true, _, rfl, mk_upds' (ae rfl (ae rfl (ae rfl (ae rfl ae0)))), h⟩
            · rw [if_neg hc7] at h
              refine st_on (t := 33) (c := (decide (t30 < 0))) rfl rfl (decide_eq_false hc7) ?_
              refine st_val (ex_fa fa84_0 (p := (⟨b6, 0, none⟩ : Addr)) rfl) ?_
              refine st_on (t := 33) (c := (decide (t30 < 0))) rfl rfl (decide_eq_false hc7) ?_
              refine st_rn (fun r => ex_load rfl r) h ?_; clear h; intro t35 w h
              refine st_on (t := 33) (c := (decide (t30 < 0))) rfl rfl (decide_eq_false hc7) ?_
              refine st_val (ex_eqlS (a := t35) (b := (⟨#[]⟩ : ByteArray)) rfl rfl) ?_
              refine st_on (t := 33) (c := (decide (t30 < 0))) rfl rfl (decide_eq_false hc7) ?_
              refine st_val (ex_move (v := (.bool (decide (t35 = (⟨#[]⟩ : ByteArray))))) rfl) ?_
              by_cases hc8 : t35 = (⟨#[]⟩ : ByteArray)
              · rw [if_pos hc8] at h
                refine st_on (t := 37) (c := (decide (t35 = (⟨#[]⟩ : ByteArray)))) rfl rfl (decide_eq_true hc8) ?_
                refine st_val (ex_move (v := (Sl.v t0)) rfl) ?_
                refine st_on (t := 37) (c := (decide (t35 = (⟨#[]⟩ : ByteArray)))) rfl rfl (decide_eq_true hc8) ?_
                refine st_val (ex_fa fa84_1 (p := (⟨b6, 0, none⟩ : Addr)) rfl) ?_
                refine st_on (t := 37) (c := (decide (t35 = (⟨#[]⟩ : ByteArray)))) rfl rfl (decide_eq_true hc8) ?_
                refine st_rn (fun r => ex_load rfl r) h ?_; clear h; intro t40 w h
                refine st_on (t := 37) (c := (decide (t35 = (⟨#[]⟩ : ByteArray)))) rfl rfl (decide_eq_true hc8) ?_
                refine st_cal en66 rfl h ?_; clear h; intro t41 w h
                refine st_on (t := 37) (c := (decide (t35 = (⟨#[]⟩ : ByteArray)))) rfl rfl (decide_eq_true hc8) ?_
                refine st_val (ex_lss (a := t41) (b := 0) rfl rfl) ?_
                refine st_on (t := 33) (c := (decide (t30 < 0))) rfl rfl (decide_eq_false hc7) ?_
                refine st_val (ex_pick1 (b := (decide (t35 = (⟨#[]⟩ : ByteArray)))) rfl (decide_eq_true hc8) (v := (.bool (decide (t41 < 0)))) rfl) ?_
                refine st_val (ex_pick0 (b := (decide (t30 < 0))) rfl (decide_eq_false hc7) (v := (.bool (decide (t41 < 0)))) rfl) ?_
                refine wl_nil ?_
                exact then_n ⟨(decide (t41 < 0)), _, rfl, mk_upds' (ae rfl (ae rfl (ae rfl (ae rfl ae0)))), h⟩
              · rw [if_neg hc8] at h
                refine st_off (t := 37) (c := (decide (t35 = (⟨#[]⟩ : ByteArray)))) rfl rfl (decide_eq_false hc8) ?_
                refine st_off (t := 37) (c := (decide (t35 = (⟨#[]⟩ : ByteArray)))) rfl rfl (decide_eq_false hc8) ?_
                refine st_off (t := 37) (c := (decide (t35 = (⟨#[]⟩ : ByteArray)))) rfl rfl (decide_eq_false hc8) ?_
                refine st_off (t := 37) (c := (decide (t35 = (⟨#[]⟩ : ByteArray)))) rfl rfl (decide_eq_false hc8) ?_
                refine st_off (t := 37) (c := (decide (t35 = (⟨#[]⟩ : ByteArray)))) rfl rfl (decide_eq_false hc8) ?_
                refine st_on (t := 33) (c := (decide (t30 < 0))) rfl rfl (decide_eq_false hc7) ?_
                refine st_val (ex_pick0 (b := (decide (t35 = (⟨#[]⟩ : ByteArray)))) rfl (decide_eq_false hc8) (v := (.bool false)) rfl) ?_
                refine st_val (ex_pick0 (b := (decide (t30 < 0))) rfl (decide_eq_false hc7) (v := (.bool false)) rfl) ?_
                refine wl_nil ?_
                exact then_n ⟨false, _, rfl, mk_upds' (ae rfl (ae rfl (ae rfl (ae rfl ae0)))), h⟩
          · rw [if_neg hc6] at h
            refine st_off (t := 26) (c := (decide (t24 ≠ (⟨#[]⟩ : ByteArray)))) rfl rfl (decide_eq_false hc6) ?_
            refine st_off (t := 26) (c := (decide (t24 ≠ (⟨#[]⟩ : ByteArray)))) rfl rfl (decide_eq_false hc6) ?_
            refine st_off (t := 26) (c := (decide (t24 ≠ (⟨#[]⟩ : ByteArray)))) rfl rfl (decide_eq_false hc6) ?_
            refine st_off (t := 26) (c := (decide (t24 ≠ (⟨#[]⟩ : ByteArray)))) rfl rfl (decide_eq_false hc6) ?_
            refine st_off (t := 26) (c := (decide (t24 ≠ (⟨#[]⟩ : ByteArray)))) rfl rfl (decide_eq_false hc6) ?_
            refine st_val (ex_pick0 (b := (decide (t24 ≠ (⟨#[]⟩ : ByteArray)))) rfl (decide_eq_false hc6) (v := (.bool false)) rfl) ?_
            refine st_val (ex_move (v := (.bool false)) rfl) ?_
            refine st_on (t := 33) (c := false) rfl rfl (rfl : false = false) ?_
            refine st_val (ex_fa fa84_0 (p := (⟨b6, 0, none⟩ : Addr)) rfl) ?_
            refine st_on (t := 33) (c := false) rfl rfl (rfl : false = false) ?_
            refine st_rn (fun r => ex_load rfl r) h ?_; clear h; intro t35_1 w h
            refine st_on (t := 33) (c := false) rfl rfl (rfl : false = false) ?_
            refine st_val (ex_eqlS (a := t35_1) (b := (⟨#[]⟩ : ByteArray)) rfl rfl) ?_
            refine st_on (t := 33) (c := false) rfl rfl (rfl : false = false) ?_
            refine st_val (ex_move (v := (.bool (decide (t35_1 = (⟨#[]⟩ : ByteArray))))) rfl) ?_
            by_cases hc9 : t35_1 = (⟨#[]⟩ : ByteArray)
            · rw [if_pos hc9] at h
              refine st_on (t := 37) (c := (decide (t35_1 = (⟨#[]⟩ : ByteArray)))) rfl rfl (decide_eq_true hc9) ?_
              refine st_val (ex_move (v := (Sl.v t0)) rfl) ?_
              refine st_on (t := 37) (c := (decide (t35_1 = (⟨#[]⟩ : ByteArray)))) rfl rfl (decide_eq_true hc9) ?_
              refine st_val (ex_fa fa84_1 (p := (⟨b6, 0, none⟩ : Addr)) rfl) ?_
              refine st_on (t := 37) (c := (decide (t35_1 = (⟨#[]⟩ : ByteArray)))) rfl rfl (decide_eq_true hc9) ?_
              refine st_rn (fun r => ex_load rfl r) h ?_; clear h; intro t40_1 w h
              refine st_on (t := 37) (c := (decide (t35_1 = (⟨#[]⟩ : ByteArray)))) rfl rfl (decide_eq_true hc9) ?_
              refine st_cal en66 rfl h ?_; clear h; intro t41_1 w h
              refine st_on (t := 37) (c := (decide (t35_1 = (⟨#[]⟩ : ByteArray)))) rfl rfl (decide_eq_true hc9) ?_
              refine st_val (ex_lss (a := t41_1) (b := 0) rfl rfl) ?_
              refine st_on (t := 33) (c := false) rfl rfl (rfl : false = false) ?_
              refine st_val (ex_pick1 (b := (decide (t35_1 = (⟨#[]⟩ : ByteArray)))) rfl (decide_eq_true hc9) (v := (.bool (decide (t41_1 < 0)))) rfl) ?_
              refine st_val (ex_pick0 (b := false) rfl (rfl : false = false) (v := (.bool (decide (t41_1 < 0)))) rfl) ?_
              refine wl_nil ?_
              exact then_n ⟨(decide (t41_1 < 0)), _, rfl, mk_upds' (ae rfl (ae rfl (ae rfl (ae rfl ae0)))), h⟩
            · rw [if_neg hc9] at h
              refine st_off (t := 37) (c := (decide (t35_1 = (⟨#[]⟩ : ByteArray)))) rfl rfl (decide_eq_false hc9) ?_
              refine st_off (t := 37) (c := (decide (t35_1 = (⟨#[]⟩ : ByteArray)))) rfl rfl (decide_eq_false hc9) ?_
              refine st_off (t := 37) (c := (decide (t35_1 = (⟨#[]⟩ : ByteArray)))) rfl rfl (decide_eq_false hc9) ?_
              refine st_off (t := 37) (c := (decide (t35_1 = (⟨#[]⟩ : ByteArray)))) rfl rfl (decide_eq_false hc9) ?_
              refine st_off (t := 37) (c := (decide (t35_1 = (⟨#[]⟩ : ByteArray)))) rfl rfl (decide_eq_false hc9) ?_
              refine st_on (t := 33) (c := false) rfl rfl (rfl : false = false) ?_
              refine st_val (ex_pick0 (b := (decide (t35_1 = (⟨#[]⟩ : ByteArray)))) rfl (decide_eq_false hc9) (v := (.bool false)) rfl) ?_
              refine st_val (ex_pick0 (b := false) rfl (rfl : false = false) (v := (.bool false)) rfl) ?_
              refine wl_nil ?_
              exact then_n ⟨false, _, rfl, mk_upds' (ae rfl (ae rfl (ae rfl (ae rfl ae0)))), h⟩
      · rw [if_neg hc4] at h; refine cond_0 (b := (decide (s3 < (t13.n : Int)))) rfl (decide_eq_false hc4) ?_
        refine wp_exit ?_
        refine then_e ?_
        refine then_e ?_
        refine inb_e ?_
        exact then_n ⟨(), _, rfl, mk_upds' (ae rfl (ae rfl ae0)), h⟩
    · rw [if_neg hc2] at h; refine cond_0 (b := (decide (t9 = 2))) rfl (decide_eq_false hc2) ?_
      refine wp_skip ?_
      exact then_n ⟨(), _, rfl, mk_upds' (ae rfl (ae rfl ae0)), h⟩

/-- turnpike/turnpikeref14.Depths; slots 0:conf, 1:conf, 3:d, 4:round, 5:next, 6:i, 7:n, 8:k, 9:t, 10:at -/
def f102 (t0 : Sl) (R : (Sl) → World → Prop) (w : World) : Prop :=
  Rn Try.prog Sl.v (Instr.makeSlice 77 (.int .i64 (t0.n : Int)) (.int .i64 (t0.n : Int))) w fun t13 w =>
  Lp (σ := Sl × Int) (fun s1 w n1 =>
    if s1.2 < 8 then
      Rn Try.prog Sl.v (Instr.makeSlice 77 (.int .i64 (t0.n : Int)) (.int .i64 (t0.n : Int))) w fun t20 w =>
      Lp (σ := Int) (fun s3 w n3 =>
        if s3 < (t0.n : Int) then
          Jn (σ := Unit) (fun k5 =>
            RnP Try.prog Ptr (Instr.indexAt 22 (Sl.v t0) (.int .i64 s3)) fun t29 =>
            Rn Try.prog (Value.int .i64) (Instr.loadAt 3 (Ptr (t29.add 0))) w fun t31 w =>
            if t31 ≠ 2 then
              k5 () w
            else
              Lp (σ := Int × Int) (fun s7 w n7 =>
                Jn (σ := Bool) (fun k8 =>
                  RnP Try.prog Ptr (Instr.indexAt 22 (Sl.v t0) (.int .i64 s3)) fun t36 =>
                  Rn Try.prog Sl.v (Instr.loadAt 45 (Ptr (t36.add 3))) w fun t38 w =>
                  if s7.2 < (t38.n : Int) then
                    k8 (decide (0 < s7.1)) w
                  else
                    k8 false w
                ) fun s8 w =>
                  if s8 = true then
                    Jn (σ := Int) (fun k11 =>
                      RnP Try.prog Ptr (Instr.indexAt 22 (Sl.v t0) (.int .i64 s3)) fun t49 =>
                      Rn Try.prog Sl.v (Instr.loadAt 45 (Ptr (t49.add 3))) w fun t51 w =>
                      RnP Try.prog Ptr (Instr.indexAt 45 (Sl.v t51) (.int .i64 s7.2)) fun t53 =>
                      Rn Try.prog TTarget.v (Instr.loadAt 84 (Ptr t53)) w fun t54 w =>
                      New 84 (TTarget.cells (⟨⟨#[]⟩, ⟨#[]⟩, 0⟩ : TTarget)) w fun b9 w =>
                      RnU Try.prog (Instr.storeAt 84 (Ptr (⟨b9, 0, none⟩ : Addr)) (TTarget.v t54)) w fun w =>
                      Rn Try.prog Value.string (Instr.loadAt 9 (Ptr ((⟨b9, 0, none⟩ : Addr).add 0))) w fun t56 w =>
                      if t56 ≠ (⟨#[]⟩ : ByteArray) then
                        k11 s7.1 w
                      else
                        Rn Try.prog Value.string (Instr.loadAt 9 (Ptr ((⟨b9, 0, none⟩ : Addr).add 1))) w fun t60 w =>
                        Cal Try.prog (Value.int .i64) 66 #[(Sl.v t0), (.int .i64 2), (.string t60)] w fun t61 w =>
                        Jn (σ := Bool) (fun k13 =>
                          if t61 < 0 then
                            k13 true w
                          else
                            RnP Try.prog Ptr (Instr.indexAt 77 (Sl.v s1.1) (.int .i64 t61)) fun t67 =>
                            Rn Try.prog (Value.int .i64) (Instr.loadAt 3 (Ptr t67)) w fun t68 w =>
                            k13 (decide (t68 = 0)) w
                        ) fun s13 w =>
                          if s13 = true then
                            k11 0 w
                          else
                            RnP Try.prog Ptr (Instr.indexAt 77 (Sl.v s1.1) (.int .i64 t61)) fun t73 =>
                            Rn Try.prog (Value.int .i64) (Instr.loadAt 3 (Ptr t73)) w fun t74 w =>
                            if s7.1 < (IntKind.i64.wrap (t74 + 1)) then
                              RnP Try.prog Ptr (Instr.indexAt 77 (Sl.v s1.1) (.int .i64 t61)) fun t80 =>
                              Rn Try.prog (Value.int .i64) (Instr.loadAt 3 (Ptr t80)) w fun t81 w =>
                              k11 (IntKind.i64.wrap (t81 + 1)) w
                            else
                              k11 s7.1 w
                    ) fun s11 w =>
                      n7 (s11, (IntKind.i64.wrap (s7.2 + 1))) w
                  else
                    RnP Try.prog Ptr (Instr.indexAt 77 (Sl.v t20) (.int .i64 s3)) fun t86 =>
                    RnU Try.prog (Instr.storeAt 3 (Ptr t86) (.int .i64 s7.1)) w fun w =>
                    k5 () w
              ) (1, 0) w
          ) fun s5 w =>
            n3 (IntKind.i64.wrap (s3 + 1)) w
        else
          n1 (t20, (IntKind.i64.wrap (s1.2 + 1))) w
      ) 0 w
    else
      R s1.1 w
  ) (t13, 0) w
theorem c102 {t0 : Sl} {R : (Sl) → World → Prop} {w : World} (h : f102 t0 R w) :
    Cal Try.prog Sl.v 102 #[(Sl.v t0)] w R := by
  unfold f102 at h
  refine calls_ Try.func102 Try.ntmps102 rfl rfl ?_
  refine seq_ ?_
  refine region_ ?_
  refine st_val (ex_assign (v := (Sl.v Sl.nil)) rfl) ?_
  refine wl_nil ?_
  refine then_n ?_
  refine seq_ ?_
  refine region_ ?_
  refine st_val (ex_move (v := (Sl.v t0)) rfl) ?_
  refine st_val (ex_len (s := t0) Try.underlying22 rfl) ?_
  refine st_rn (fun r => ex_makeSlice rfl rfl r) h ?_; clear h; intro t13 w h
  refine st_val (ex_assign (v := (Sl.v t13)) rfl) ?_
  refine wl_nil ?_
  refine then_n ?_
  refine seq_ ?_
  refine seq_ ?_
  refine region_ ?_
  refine st_val (ex_assign (v := (.int .i64 0)) rfl) ?_
  refine wl_nil ?_
  refine then_n ?_
  refine wp_block ?_
  refine wp_lp (σ := Sl × Int) (fun s1 a => ∃ j, a = F 89 (upds j [(0, (Sl.v t0)), (3, (Sl.v s1.1)), (4, (.int .i64 s1.2))])) h (mk_upds (ae rfl (ae rfl (ae rfl ae0)))) ?_
  clear h; rintro s1 _ w n1 ⟨j, rfl⟩ h
  refine seq_ ?_
  refine seq_ ?_
  refine region_ ?_
  refine st_val (ex_move (v := (.int .i64 s1.2)) rfl) ?_
  refine st_val (ex_lss (a := s1.2) (b := 8) rfl rfl) ?_
  refine wl_nil ?_
  refine then_n ?_
  by_cases hc2 : s1.2 < 8
  · rw [if_pos hc2] at h; refine cond_1 (b := (decide (s1.2 < 8))) rfl (decide_eq_true hc2) ?_
    refine wp_skip ?_
    refine then_n ?_
    refine seq_ ?_
    refine wp_block ?_
    refine seq_ ?_
    refine region_ ?_
    refine st_val (ex_move (v := (Sl.v t0)) rfl) ?_
    refine st_val (ex_len (s := t0) Try.underlying22 rfl) ?_
    refine st_rn (fun r => ex_makeSlice rfl rfl r) h ?_; clear h; intro t20 w h
    refine st_val (ex_assign (v := (Sl.v t20)) rfl) ?_
    refine wl_nil ?_
    refine then_n ?_
    refine seq_ ?_
    refine seq_ ?_
    refine region_ ?_
    refine st_val (ex_assign (v := (.int .i64 0)) rfl) ?_
    refine wl_nil ?_
    refine then_n ?_
    refine wp_block ?_
    refine wp_lp (σ := Int) (fun s3 a => ∃ j, a = F 89 (upds j [(0, (Sl.v t0)), (3, (Sl.v s1.1)), (4, (.int .i64 s1.2)), (5, (Sl.v t20)), (6, (.int .i64 s3))])) h (mk_upds (ae rfl (ae rfl (ae rfl (ae rfl (ae rfl ae0)))))) ?_
    clear h; rintro s3 _ w n3 ⟨j, rfl⟩ h
    refine seq_ ?_
    refine seq_ ?_
    refine region_ ?_
    refine st_val (ex_move (v := (.int .i64 s3)) rfl) ?_
    refine st_val (ex_move (v := (Sl.v t0)) rfl) ?_
    refine st_val (ex_len (s := t0) Try.underlying22 rfl) ?_
    refine st_val (ex_lss (a := s3) (b := (t0.n : Int)) rfl rfl) ?_
    refine wl_nil ?_
    refine then_n ?_
    by_cases hc4 : s3 < (t0.n : Int)
    · rw [if_pos hc4] at h; refine cond_1 (b := (decide (s3 < (t0.n : Int)))) rfl (decide_eq_true hc4) ?_
      refine wp_skip ?_
      refine then_n ?_
      refine wp_jn (σ := Unit) (fun s5 l => ∃ j, l = upds j [(0, (Sl.v t0)), (3, (Sl.v s1.1)), (4, (.int .i64 s1.2)), (5, (Sl.v t20)), (6, (.int .i64 s3))]) h ?_ ?_
      · clear h; rintro s5 _ w ⟨j, rfl⟩ h
        refine region_ ?_
        refine st_val (ex_move (v := (.int .i64 s3)) rfl) ?_
        refine st_val (ex_add (a := s3) (b := 1) rfl rfl) ?_
        refine st_val (ex_assign (v := (.int .i64 (IntKind.i64.wrap (s3 + 1)))) rfl) ?_
        refine wl_nil ?_
        exact then_n ⟨(IntKind.i64.wrap (s3 + 1)), mk_upds (ae rfl (ae rfl (ae rfl (ae rfl (ae rfl ae0))))), h⟩
      · clear h; intro k5 h
        refine wp_block ?_
        refine seq_ ?_
        refine seq_ ?_
        refine region_ ?_
        refine st_val (ex_move (v := (Sl.v t0)) rfl) ?_
        refine st_val (ex_move (v := (.int .i64 s3)) rfl) ?_
        refine st_rnp (fun r => ex_indexAddr rfl rfl r) h ?_; clear h; intro t29 h
        refine st_val (ex_fa fa48_0 (p := t29) rfl) ?_
        refine st_rn (fun r => ex_load rfl r) h ?_; clear h; intro t31 w h
        refine st_val (ex_neq (a := t31) (b := 2) rfl rfl) ?_
        refine wl_nil ?_
        refine then_n ?_
        by_cases hc6 : t31 ≠ 2
        · rw [if_pos hc6] at h; refine cond_1 (b := (decide (t31 ≠ 2))) rfl (decide_eq_true hc6) ?_
          refine wp_exit ?_
          refine then_e ?_
          refine inb_e ?_
          exact then_n ⟨(), _, rfl, mk_upds' (ae rfl (ae rfl (ae rfl (ae rfl (ae rfl ae0))))), h⟩
        · rw [if_neg hc6] at h; refine cond_0 (b := (decide (t31 ≠ 2))) rfl (decide_eq_false hc6) ?_
          refine wp_skip ?_
          refine then_n ?_
          refine seq_ ?_
          refine region_ ?_
          refine st_val (ex_assign (v := (.int .i64 1)) rfl) ?_
          refine wl_nil ?_
          refine then_n ?_
          refine seq_ ?_
          refine seq_ ?_
          refine region_ ?_
          refine st_val (ex_assign (v := (.int .i64 0)) rfl) ?_
          refine wl_nil ?_
          refine then_n ?_
          refine wp_block ?_
          refine wp_lp (σ := Int × Int) (fun s7 a => ∃ j, a = F 89 (upds j [(0, (Sl.v t0)), (3, (Sl.v s1.1)), (4, (.int .i64 s1.2)), (5, (Sl.v t20)), (6, (.int .i64 s3)), (7, (.int .i64 s7.1)), (8, (.int .i64 s7.2))])) h (mk_upds (ae rfl (ae rfl (ae rfl (ae rfl (ae rfl (ae rfl (ae rfl ae0)))))))) ?_
          clear h; rintro s7 _ w n7 ⟨j, rfl⟩ h
          refine seq_ ?_
          refine wp_jn (σ := Bool) (fun s8 l => ∃ j, l = upds j [(0, (Sl.v t0)), (3, (Sl.v s1.1)), (4, (.int .i64 s1.2)), (5, (Sl.v t20)), (6, (.int .i64 s3)), (7, (.int .i64 s7.1)), (8, (.int .i64 s7.2)), (44, (.bool s8))]) h ?_ ?_
          · clear h; rintro s8 _ w ⟨j, rfl⟩ h
            by_cases hc10 : s8 = true
            · rw [if_pos hc10] at h; refine cond_1 (b := s8) rfl hc10 ?_
              refine wp_skip ?_
              refine then_n ?_
              refine wp_jn (σ := Int) (fun s11 l => ∃ j, l = upds j [(0, (Sl.v t0)), (3, (Sl.v s1.1)), (4, (.int .i64 s1.2)), (5, (Sl.v t20)), (6, (.int .i64 s3)), (7, (.int .i64 s11)), (8, (.int .i64 s7.2))]) h ?_ ?_
              · clear h; rintro s11 _ w ⟨j, rfl⟩ h
                refine region_ ?_
                refine st_val (ex_move (v := (.int .i64 s7.2)) rfl) ?_
                refine st_val (ex_add (a := s7.2) (b := 1) rfl rfl) ?_
                refine st_val (ex_assign (v := (.int .i64 (IntKind.i64.wrap (s7.2 + 1)))) rfl) ?_
                refine wl_nil ?_
                exact then_n ⟨(s11, (IntKind.i64.wrap (s7.2 + 1))), mk_upds (ae rfl (ae rfl (ae rfl (ae rfl (ae rfl (ae rfl (ae rfl ae0))))))), h⟩
              · clear h; intro k11 h
                refine wp_block ?_
                refine seq_ ?_
                refine region_ ?_
                refine st_val (ex_move (v := (Sl.v t0)) rfl) ?_
                refine st_val (ex_move (v := (.int .i64 s3)) rfl) ?_
                refine st_rnp (fun r => ex_indexAddr rfl rfl r) h ?_; clear h; intro t49 h
                refine st_val (ex_fa fa48_3 (p := t49) rfl) ?_
                refine st_rn (fun r => ex_load rfl r) h ?_; clear h; intro t51 w h
                refine st_val (ex_move (v := (.int .i64 s7.2)) rfl) ?_
                refine st_rnp (fun r => ex_indexAddr rfl rfl r) h ?_; clear h; intro t53 h
                refine st_rn (fun r => ex_load rfl r) h ?_; clear h; intro t54 w h
                refine st_new (f := (fun b => Ptr ⟨b, 0, none⟩)) (ex_allocN zero84 rfl) h ?_; clear h; intro b9 w h
                refine st_rnu (fun r => ex_store rfl rfl r) h ?_; clear h; intro w h
                refine wl_nil ?_
                refine then_n ?_
                refine seq_ ?_
                refine seq_ ?_
                refine region_ ?_
                refine st_val (ex_fa fa84_0 (p := (⟨b9, 0, none⟩ : Addr)) rfl) ?_
                refine st_rn (fun r => ex_load rfl r) h ?_; clear h; intro t56 w h
                refine st_val (ex_neqS (a := t56) (b := (⟨#[]⟩ : ByteArray)) rfl rfl) ?_
                refine wl_nil ?_
                refine then_n ?_
                by_cases hc12 : t56 ≠ (⟨#[]⟩ : ByteArray)
                · rw [if_pos hc12] at h; refine cond_1 (b := (decide (t56 ≠ (⟨#[]⟩ : ByteArray)))) rfl (decide_eq_true hc12) ?_
                  refine wp_exit ?_
                  refine then_e ?_
                  refine inb_e ?_
                  exact then_n ⟨s7.1, _, rfl, mk_upds' (ae rfl (ae rfl (ae rfl (ae rfl (ae rfl (ae rfl (ae rfl ae0))))))), h⟩
                · rw [if_neg hc12] at h; refine cond_0 (b := (decide (t56 ≠ (⟨#[]⟩ : ByteArray)))) rfl (decide_eq_false hc12) ?_
                  refine wp_skip ?_
                  refine then_n ?_
                  refine seq_ ?_
                  refine region_ ?_
                  refine st_val (ex_move (v := (Sl.v t0)) rfl) ?_
                  refine st_val (ex_fa fa84_1 (p := (⟨b9, 0, none⟩ : Addr)) rfl) ?_
                  refine st_rn (fun r => ex_load rfl r) h ?_; clear h; intro t60 w h
                  refine st_cal en66 rfl h ?_; clear h; intro t61 w h
                  refine st_val (ex_assign (v := (.int .i64 t61)) rfl) ?_
                  refine wl_nil ?_
                  refine then_n ?_
                  refine wp_jn (σ := Bool) (fun s13 l => ∃ j, l = upds j [(0, (Sl.v t0)), (3, (Sl.v s1.1)), (4, (.int .i64 s1.2)), (5, (Sl.v t20)), (6, (.int .i64 s3)), (7, (.int .i64 s7.1)), (8, (.int .i64 s7.2)), (10, (.int .i64 t61)), (70, (.bool s13))]) h ?_ ?_
                  · clear h; rintro s13 _ w ⟨j, rfl⟩ h
                    by_cases hc15 : s13 = true
                    · rw [if_pos hc15] at h; refine cond_1 (b := s13) rfl hc15 ?_
                      refine region_ ?_
                      refine st_val (ex_assign (v := (.int .i64 0)) rfl) ?_
                      refine wl_nil ?_
                      refine inb_n ?_
                      exact then_n ⟨0, _, rfl, mk_upds' (ae rfl (ae rfl (ae rfl (ae rfl (ae rfl (ae rfl (ae rfl ae0))))))), h⟩
                    · rw [if_neg hc15] at h; refine cond_0 (b := s13) rfl (Bool.eq_false_iff.2 hc15) ?_
                      refine seq_ ?_
                      refine region_ ?_
                      refine st_val (ex_move (v := (Sl.v s1.1)) rfl) ?_
                      refine st_val (ex_move (v := (.int .i64 t61)) rfl) ?_
                      refine st_rnp (fun r => ex_indexAddr rfl rfl r) h ?_; clear h; intro t73 h
                      refine st_rn (fun r => ex_load rfl r) h ?_; clear h; intro t74 w h
                      refine st_val (ex_add (a := t74) (b := 1) rfl rfl) ?_
                      refine st_val (ex_move (v := (.int .i64 s7.1)) rfl) ?_
                      refine st_val (ex_gtr (a := (IntKind.i64.wrap (t74 + 1))) (b := s7.1) rfl rfl) ?_
                      refine wl_nil ?_
                      refine then_n ?_
                      by_cases hc16 : s7.1 < (IntKind.i64.wrap (t74 + 1))
                      · rw [if_pos hc16] at h; refine cond_1 (b := (decide (s7.1 < (IntKind.i64.wrap (t74 + 1))))) rfl (decide_eq_true hc16) ?_
                        refine region_ ?_
                        refine st_val (ex_move (v := (Sl.v s1.1)) rfl) ?_
                        refine st_val (ex_move (v := (.int .i64 t61)) rfl) ?_
                        refine st_rnp (fun r => ex_indexAddr rfl rfl r) h ?_; clear h; intro t80 h
                        refine st_rn (fun r => ex_load rfl r) h ?_; clear h; intro t81 w h
                        refine st_val (ex_add (a := t81) (b := 1) rfl rfl) ?_
                        refine st_val (ex_assign (v := (.int .i64 (IntKind.i64.wrap (t81 + 1)))) rfl) ?_
                        refine wl_nil ?_
                        refine inb_n ?_
                        exact then_n ⟨(IntKind.i64.wrap (t81 + 1)), _, rfl, mk_upds' (ae rfl (ae rfl (ae rfl (ae rfl (ae rfl (ae rfl (ae rfl ae0))))))), h⟩
                      · rw [if_neg hc16] at h; refine cond_0 (b := (decide (s7.1 < (IntKind.i64.wrap (t74 + 1))))) rfl (decide_eq_false hc16) ?_
                        refine wp_skip ?_
                        refine inb_n ?_
                        exact then_n ⟨s7.1, _, rfl, mk_upds' (ae rfl (ae rfl (ae rfl (ae rfl (ae rfl (ae rfl (ae rfl ae0))))))), h⟩
                  · clear h; intro k13 h
                    refine region_ ?_
                    refine st_val (ex_move (v := (.int .i64 t61)) rfl) ?_
                    refine st_val (ex_lss (a := t61) (b := 0) rfl rfl) ?_
                    refine st_val (ex_move (v := (.bool (decide (t61 < 0)))) rfl) ?_
                    by_cases hc14 : t61 < 0
                    · rw [if_pos hc14] at h
                      refine st_off (t := 64) (c := (decide (t61 < 0))) rfl rfl (decide_eq_true hc14) ?_
                      refine st_off (t := 64) (c := (decide (t61 < 0))) rfl rfl (decide_eq_true hc14) ?_
                      refine st_off (t := 64) (c := (decide (t61 < 0))) rfl rfl (decide_eq_true hc14) ?_
                      refine st_off (t := 64) (c := (decide (t61 < 0))) rfl rfl (decide_eq_true hc14) ?_
                      refine st_off (t := 64) (c := (decide (t61 < 0))) rfl rfl (decide_eq_true hc14) ?_
                      refine st_val (ex_pick1 (b := (decide (t61 < 0))) rfl (decide_eq_true hc14) (v := (.bool true)) rfl) ?_
                      refine wl_nil ?_
                      exact then_n ⟨true, _, rfl, mk_upds' (ae rfl (ae rfl (ae rfl (ae rfl (ae rfl (ae rfl (ae rfl (ae rfl (ae rfl ae0))))))))), h⟩
                    · rw [if_neg hc14] at h
                      refine st_on (t := 64) (c := (decide (t61 < 0))) rfl rfl (decide_eq_false hc14) ?_
                      refine st_val (ex_move (v := (Sl.v s1.1)) rfl) ?_
                      refine st_on (t := 64) (c := (decide (t61 < 0))) rfl rfl (decide_eq_false hc14) ?_
                      refine st_val (ex_move (v := (.int .i64 t61)) rfl) ?_
                      refine st_on (t := 64) (c := (decide (t61 < 0))) rfl rfl (decide_eq_false hc14) ?_
                      refine st_rnp (fun r => ex_indexAddr rfl rfl r) h ?_; clear h; intro t67 h
                      refine st_on (t := 64) (c := (decide (t61 < 0))) rfl rfl (decide_eq_false hc14) ?_
                      refine st_rn (fun r => ex_load rfl r) h ?_; clear h; intro t68 w h
                      refine st_on (t := 64) (c := (decide (t61 < 0))) rfl rfl (decide_eq_false hc14) ?_
                      refine st_val (ex_eql (a := t68) (b := 0) rfl rfl) ?_
                      refine st_val (ex_pick0 (b := (decide (t61 < 0))) rfl (decide_eq_false hc14) (v := (.bool (decide (t68 = 0)))) rfl) ?_
                      refine wl_nil ?_
                      exact then_n ⟨(decide (t68 = 0)), _, rfl, mk_upds' (ae rfl (ae rfl (ae rfl (ae rfl (ae rfl (ae rfl (ae rfl (ae rfl (ae rfl ae0))))))))), h⟩
            · rw [if_neg hc10] at h; refine cond_0 (b := s8) rfl (Bool.eq_false_iff.2 hc10) ?_
              refine wp_exit ?_
              refine then_e ?_
              refine then_e ?_
              refine inb_e ?_
              refine then_n ?_
              refine region_ ?_
              refine st_val (ex_move (v := (Sl.v t20)) rfl) ?_
              refine st_val (ex_move (v := (.int .i64 s3)) rfl) ?_
              refine st_val (ex_move (v := (.int .i64 s7.1)) rfl) ?_
              refine st_rnp (fun r => ex_indexAddr rfl rfl r) h ?_; clear h; intro t86 h
              refine st_rnu (fun r => ex_store rfl rfl r) h ?_; clear h; intro w h
              refine wl_nil ?_
              refine inb_n ?_
              exact then_n ⟨(), _, rfl, mk_upds' (ae rfl (ae rfl (ae rfl (ae rfl (ae rfl ae0))))), h⟩
          · clear h; intro k8 h
            refine region_ ?_
            refine st_val (ex_move (v := (.int .i64 s7.2)) rfl) ?_
            refine st_val (ex_move (v := (Sl.v t0)) rfl) ?_
            refine st_val (ex_move (v := (.int .i64 s3)) rfl) ?_
            refine st_rnp (fun r => ex_indexAddr rfl rfl r) h ?_; clear h; intro t36 h
            refine st_val (ex_fa fa48_3 (p := t36) rfl) ?_
            refine st_rn (fun r => ex_load rfl r) h ?_; clear h; intro t38 w h
            refine st_val (ex_len (s := t38) Try.underlying45 rfl) ?_
            refine st_val (ex_lss (a := s7.2) (b := (t38.n : Int)) rfl rfl) ?_
            refine st_val (ex_move (v := (.bool (decide (s7.2 < (t38.n : Int))))) rfl) ?_
            by_cases hc9 : s7.2 < (t38.n : Int)
            · rw [if_pos hc9] at h
              refine st_on (t := 41) (c := (decide (s7.2 < (t38.n : Int)))) rfl rfl (decide_eq_true hc9) ?_
              refine st_val (ex_move (v := (.int .i64 s7.1)) rfl) ?_
              refine st_on (t := 41) (c := (decide (s7.2 < (t38.n : Int)))) rfl rfl (decide_eq_true hc9) ?_
              refine st_val (ex_gtr (a := s7.1) (b := 0) rfl rfl) ?_
              refine st_val (ex_pick1 (b := (decide (s7.2 < (t38.n : Int)))) rfl (decide_eq_true hc9) (v := (.bool (decide (0 < s7.1)))) rfl) ?_
              refine wl_nil ?_
              exact then_n ⟨(decide (0 < s7.1)), _, rfl, mk_upds' (ae rfl (ae rfl (ae rfl (ae rfl (ae rfl (ae rfl (ae rfl (ae rfl ae0)))))))), h⟩
            · rw [if_neg hc9] at h
              refine st_off (t := 41) (c := (decide (s7.2 < (t38.n : Int)))) rfl rfl (decide_eq_false hc9) ?_
              refine st_off (t := 41) (c := (decide (s7.2 < (t38.n : Int)))) rfl rfl (decide_eq_false hc9) ?_
              refine st_val (ex_pick0 (b := (decide (s7.2 < (t38.n : Int)))) rfl (decide_eq_false hc9) (v := (.bool false)) rfl) ?_
              refine wl_nil ?_
              exact then_n ⟨false, _, rfl, mk_upds' (ae rfl (ae rfl (ae rfl (ae rfl (ae rfl (ae rfl (ae rfl (ae rfl ae0)))))))), h⟩
    · rw [if_neg hc4] at h; refine cond_0 (b := (decide (s3 < (t0.n : Int)))) rfl (decide_eq_false hc4) ?_
      refine wp_exit ?_
      refine then_e ?_
      refine then_e ?_
      refine inb_e ?_
      refine then_n ?_
      refine region_ ?_
      refine st_val (ex_move (v := (Sl.v t20)) rfl) ?_
      refine st_val (ex_assign (v := (Sl.v t20)) rfl) ?_
      refine wl_nil ?_
      refine inb_n ?_
      refine then_n ?_
      refine region_ ?_
      refine st_val (ex_move (v := (.int .i64 s1.2)) rfl) ?_
      refine st_val (ex_add (a := s1.2) (b := 1) rfl rfl) ?_
      refine st_val (ex_assign (v := (.int .i64 (IntKind.i64.wrap (s1.2 + 1)))) rfl) ?_
      refine wl_nil ?_
      exact then_n ⟨(t20, (IntKind.i64.wrap (s1.2 + 1))), mk_upds (ae rfl (ae rfl (ae rfl ae0))), h⟩
  · rw [if_neg hc2] at h; refine cond_0 (b := (decide (s1.2 < 8))) rfl (decide_eq_false hc2) ?_
    refine wp_exit ?_
    refine then_e ?_
    refine then_e ?_
    refine inb_e ?_
    refine then_n ?_
    refine seq_ ?_
    refine region_ ?_
    refine st_val (ex_move (v := (Sl.v s1.1)) rfl) ?_
    refine st_val (ex_assign (v := (Sl.v s1.1)) rfl) ?_
    refine wl_nil ?_
    refine then_n ?_
    refine wp_ret ?_
    refine ret_1 rfl rfl ⟨s1.1, rfl, h⟩

/-- turnpike/turnpikeref13.CoversPath; slots 0:a, 1:b, 2:a, 3:b, 5:p, 6:is, 7:q, 8:_ -/
def f103 (t0 : ByteArray) (t1 : ByteArray) (R : (Bool) → World → Prop) (w : World) : Prop :=
  Jn (σ := Bool) (fun k1 =>
    Cal Try.prog Value.bool 126 #[(.string t0)] w fun t10 w =>
    if (!t10) = true then
      k1 true w
    else
      Cal Try.prog Value.bool 126 #[(.string t1)] w fun t14 w =>
      k1 (!t14) w
  ) fun s1 w =>
    if s1 = true then
      R false w
    else
      Cal Try.prog (fun x : ByteArray × Bool => Value.tuple #[(.string x.1), (.bool x.2)]) 127 #[(.string t0)] w fun t19 w =>
      Cal Try.prog (fun x : ByteArray × Bool => Value.tuple #[(.string x.1), (.bool x.2)]) 127 #[(.string t1)] w fun t24 w =>
      Jn (σ := Bool) (fun k4 =>
        if t0 = t1 then
          k4 true w
        else
          if t19.2 = true then
            Cal Try.prog Value.bool 128 #[(.string t24.1), (.string t19.1)] w fun t35 w =>
            k4 t35 w
          else
            k4 false w
      ) fun s4 w =>
        R s4 w
theorem c103 {t0 : ByteArray} {t1 : ByteArray} {R : (Bool) → World → Prop} {w : World} (h : f103 t0 t1 R w) :
    Cal Try.prog Value.bool 103 #[(.string t0), (.string t1)] w R := by
  unfold f103 at h
  refine calls_ Try.func103 Try.ntmps103 rfl rfl ?_
  refine seq_ ?_
  refine region_ ?_
  refine st_val (ex_assign (v := (.bool false)) rfl) ?_
  refine wl_nil ?_
  refine then_n ?_
  refine seq_ ?_
  refine wp_jn (σ := Bool) (fun s1 l => ∃ j, l = upds j [(0, (.string t0)), (1, (.string t1)), (16, (.bool s1))]) h ?_ ?_
  · clear h; rintro s1 _ w ⟨j, rfl⟩ h
    by_cases hc3 : s1 = true
    · rw [if_pos hc3] at h; refine cond_1 (b := s1) rfl hc3 ?_
      refine seq_ ?_
      refine region_ ?_
      refine st_val (ex_assign (v := (.bool false)) rfl) ?_
      refine wl_nil ?_
      refine then_n ?_
      refine wp_ret ?_
      refine then_r ?_
      refine ret_1 rfl rfl ⟨false, rfl, h⟩
    · rw [if_neg hc3] at h; refine cond_0 (b := s1) rfl (Bool.eq_false_iff.2 hc3) ?_
      refine wp_skip ?_
      refine then_n ?_
      refine seq_ ?_
      refine region_ ?_
      refine st_val (ex_move (v := (.string t0)) rfl) ?_
      refine st_cal en127 rfl h ?_; clear h; intro t19 w h
      refine st_val (ex_move (v := (.tuple #[(.string t19.1), (.bool t19.2)])) rfl) ?_
      refine st_val (ex_extract (u := (.tuple #[(.string t19.1), (.bool t19.2)])) rfl (v := (.string t19.1)) rfl) ?_
      refine st_val (ex_extract (u := (.tuple #[(.string t19.1), (.bool t19.2)])) rfl (v := (.bool t19.2)) rfl) ?_
      refine st_val (ex_assign (v := (.string t19.1)) rfl) ?_
      refine st_val (ex_assign (v := (.bool t19.2)) rfl) ?_
      refine wl_nil ?_
      refine then_n ?_
      refine seq_ ?_
      refine region_ ?_
      refine st_val (ex_move (v := (.string t1)) rfl) ?_
      refine st_cal en127 rfl h ?_; clear h; intro t24 w h
      refine st_val (ex_move (v := (.tuple #[(.string t24.1), (.bool t24.2)])) rfl) ?_
      refine st_val (ex_extract (u := (.tuple #[(.string t24.1), (.bool t24.2)])) rfl (v := (.string t24.1)) rfl) ?_
      refine st_val (ex_extract (u := (.tuple #[(.string t24.1), (.bool t24.2)])) rfl (v := (.bool t24.2)) rfl) ?_
      refine st_val (ex_assign (v := (.string t24.1)) rfl) ?_
      refine st_val (ex_assign (v := (.bool t24.2)) rfl) ?_
      refine wl_nil ?_
      refine then_n ?_
      refine wp_jn (σ := Bool) (fun s4 l => ∃ j, l = upds j [(4, (.bool s4))]) h ?_ ?_
      · clear h; rintro s4 _ w ⟨j, rfl⟩ h
        refine wp_ret ?_
        refine ret_1 rfl rfl ⟨s4, rfl, h⟩
      · clear h; intro k4 h
        refine region_ ?_
        refine st_val (ex_move (v := (.string t0)) rfl) ?_
        refine st_val (ex_move (v := (.string t1)) rfl) ?_
        refine st_val (ex_eqlS (a := t0) (b := t1) rfl rfl) ?_
        refine st_val (ex_move (v := (.bool (decide (t0 = t1)))) rfl) ?_
        by_cases hc5 : t0 = t1
        · rw [if_pos hc5] at h
          refine st_off (t := 30) (c := (decide (t0 = t1))) rfl rfl (decide_eq_true hc5) ?_
          refine st_off (t := 30) (c := (decide (t0 = t1))) rfl rfl (decide_eq_true hc5) ?_
          refine st_offu (t := 32) rfl rfl ?_
          refine st_offu (t := 32) rfl rfl ?_
          refine st_offu (t := 32) rfl rfl ?_
          refine st_off (t := 30) (c := (decide (t0 = t1))) rfl rfl (decide_eq_true hc5) ?_
          refine st_val (ex_pick1 (b := (decide (t0 = t1))) rfl (decide_eq_true hc5) (v := (.bool true)) rfl) ?_
          refine st_val (ex_assign (v := (.bool true)) rfl) ?_
          refine wl_nil ?_
          exact then_n ⟨true, _, rfl, mk_upds' (ae rfl ae0), h⟩
        · rw [if_neg hc5] at h
          refine st_on (t := 30) (c := (decide (t0 = t1))) rfl rfl (decide_eq_false hc5) ?_
          refine st_val (ex_move (v := (.bool t19.2)) rfl) ?_
          refine st_on (t := 30) (c := (decide (t0 = t1))) rfl rfl (decide_eq_false hc5) ?_
          refine st_val (ex_move (v := (.bool t19.2)) rfl) ?_
          by_cases hc6 : t19.2 = true
          · rw [if_pos hc6] at h
            refine st_on (t := 32) (c := t19.2) rfl rfl hc6 ?_
            refine st_val (ex_move (v := (.string t24.1)) rfl) ?_
            refine st_on (t := 32) (c := t19.2) rfl rfl hc6 ?_
            refine st_val (ex_move (v := (.string t19.1)) rfl) ?_
            refine st_on (t := 32) (c := t19.2) rfl rfl hc6 ?_
            refine st_cal en128 rfl h ?_; clear h; intro t35 w h
            refine st_on (t := 30) (c := (decide (t0 = t1))) rfl rfl (decide_eq_false hc5) ?_
            refine st_val (ex_pick1 (b := t19.2) rfl hc6 (v := (.bool t35)) rfl) ?_
            refine st_val (ex_pick0 (b := (decide (t0 = t1))) rfl (decide_eq_false hc5) (v := (.bool t35)) rfl) ?_
            refine st_val (ex_assign (v := (.bool t35)) rfl) ?_
            refine wl_nil ?_
            exact then_n ⟨t35, _, rfl, mk_upds' (ae rfl ae0), h⟩
          · rw [if_neg hc6] at h
            refine st_off (t := 32) (c := t19.2) rfl rfl (Bool.eq_false_iff.2 hc6) ?_
            refine st_off (t := 32) (c := t19.2) rfl rfl (Bool.eq_false_iff.2 hc6) ?_
            refine st_off (t := 32) (c := t19.2) rfl rfl (Bool.eq_false_iff.2 hc6) ?_
            refine st_on (t := 30) (c := (decide (t0 = t1))) rfl rfl (decide_eq_false hc5) ?_
            refine st_val (ex_pick0 (b := t19.2) rfl (Bool.eq_false_iff.2 hc6) (v := (.bool false)) rfl) ?_
            refine st_val (ex_pick0 (b := (decide (t0 = t1))) rfl (decide_eq_false hc5) (v := (.bool false)) rfl) ?_
            refine st_val (ex_assign (v := (.bool false)) rfl) ?_
            refine wl_nil ?_
            exact then_n ⟨false, _, rfl, mk_upds' (ae rfl ae0), h⟩
  · clear h; intro k1 h
    refine region_ ?_
    refine st_val (ex_move (v := (.string t0)) rfl) ?_
    refine st_cal en126 rfl h ?_; clear h; intro t10 w h
    refine st_val (ex_not (b := t10) rfl) ?_
    refine st_val (ex_move (v := (.bool (!t10))) rfl) ?_
    by_cases hc2 : (!t10) = true
    · rw [if_pos hc2] at h
      refine st_off (t := 12) (c := (!t10)) rfl rfl hc2 ?_
      refine st_off (t := 12) (c := (!t10)) rfl rfl hc2 ?_
      refine st_off (t := 12) (c := (!t10)) rfl rfl hc2 ?_
      refine st_val (ex_pick1 (b := (!t10)) rfl hc2 (v := (.bool true)) rfl) ?_
      refine wl_nil ?_
      exact then_n ⟨true, _, rfl, mk_upds' (ae rfl (ae rfl (ae rfl ae0))), h⟩
    · rw [if_neg hc2] at h
      refine st_on (t := 12) (c := (!t10)) rfl rfl (Bool.eq_false_iff.2 hc2) ?_
      refine st_val (ex_move (v := (.string t1)) rfl) ?_
      refine st_on (t := 12) (c := (!t10)) rfl rfl (Bool.eq_false_iff.2 hc2) ?_
      refine st_cal en126 rfl h ?_; clear h; intro t14 w h
      refine st_on (t := 12) (c := (!t10)) rfl rfl (Bool.eq_false_iff.2 hc2) ?_
      refine st_val (ex_not (b := t14) rfl) ?_
      refine st_val (ex_pick0 (b := (!t10)) rfl (Bool.eq_false_iff.2 hc2) (v := (.bool (!t14))) rfl) ?_
      refine wl_nil ?_
      exact then_n ⟨(!t14), _, rfl, mk_upds' (ae rfl (ae rfl (ae rfl ae0))), h⟩

/-- (*turnpike/turnpikeref15.Known).one; slots 0:k, 1:r, 2:k, 3:r, 6:out, 7:i, 8:w, 9:at, 10:j, 11:x -/
def f104 (t0 : (Option Addr)) (t1 : TResource) (R : (Sl × Bool) → World → Prop) (w : World) : Prop :=
  New 48 (TResource.cells t1) w fun b3 w =>
  Lp (σ := Sl × Int) (fun s1 w n1 =>
    Rn Try.prog Sl.v (Instr.loadAt 45 (Ptr ((⟨b3, 0, none⟩ : Addr).add 3))) w fun t14 w =>
    if s1.2 < (t14.n : Int) then
      Jn (σ := Sl) (fun k3 =>
        Rn Try.prog Sl.v (Instr.loadAt 45 (Ptr ((⟨b3, 0, none⟩ : Addr).add 3))) w fun t20 w =>
        RnP Try.prog Ptr (Instr.indexAt 45 (Sl.v t20) (.int .i64 s1.2)) fun t22 =>
        Rn Try.prog (Value.float .f64) (Instr.loadAt 30 (Ptr (t22.add 2))) w fun t24 w =>
        Rn Try.prog (Value.float .f64) (Op.floatArith .quo .f64 t24 4636737291354636288) w fun t25 w =>
        Rn Try.prog Sl.v (Instr.loadAt 45 (Ptr ((⟨b3, 0, none⟩ : Addr).add 3))) w fun t27 w =>
        RnP Try.prog Ptr (Instr.indexAt 45 (Sl.v t27) (.int .i64 s1.2)) fun t29 =>
        Rn Try.prog Value.string (Instr.loadAt 9 (Ptr (t29.add 0))) w fun t31 w =>
        if t31 ≠ (⟨#[]⟩ : ByteArray) then
          Rn Try.prog Sl.v (Instr.loadAt 45 (Ptr ((⟨b3, 0, none⟩ : Addr).add 3))) w fun t35 w =>
          RnP Try.prog Ptr (Instr.indexAt 45 (Sl.v t35) (.int .i64 s1.2)) fun t37 =>
          Rn Try.prog Value.string (Instr.loadAt 9 (Ptr (t37.add 0))) w fun t39 w =>
          Cal Try.prog Sl.v 129 #[(Sl.v s1.1), (.string t39), (.float .f64 t25)] w fun t41 w =>
          k3 t41 w
        else
          Rn Try.prog Sl.v (Instr.loadAt 45 (Ptr ((⟨b3, 0, none⟩ : Addr).add 3))) w fun t44 w =>
          RnP Try.prog Ptr (Instr.indexAt 45 (Sl.v t44) (.int .i64 s1.2)) fun t46 =>
          Rn Try.prog Value.string (Instr.loadAt 9 (Ptr (t46.add 1))) w fun t48 w =>
          Cal Try.prog (Value.int .i64) 60 #[(.pointer t0), (.string t48)] w fun t49 w =>
          if t49 < 0 then
            R (Sl.nil, false) w
          else
            Lp (σ := Sl × Int) (fun s6 w n6 =>
              NotNil t0 fun t54 =>
              Rn Try.prog Sl.v (Instr.loadAt 107 (Ptr (t54.add 1))) w fun t56 w =>
              RnP Try.prog Ptr (Instr.indexAt 107 (Sl.v t56) (.int .i64 t49)) fun t58 =>
              Rn Try.prog Sl.v (Instr.loadAt 23 (Ptr t58)) w fun t59 w =>
              if s6.2 < (t59.n : Int) then
                NotNil t0 fun t66 =>
                Rn Try.prog Sl.v (Instr.loadAt 107 (Ptr (t66.add 1))) w fun t68 w =>
                RnP Try.prog Ptr (Instr.indexAt 107 (Sl.v t68) (.int .i64 t49)) fun t70 =>
                Rn Try.prog Sl.v (Instr.loadAt 23 (Ptr t70)) w fun t71 w =>
                RnP Try.prog Ptr (Instr.indexAt 23 (Sl.v t71) (.int .i64 s6.2)) fun t73 =>
                Rn Try.prog (Value.float .f64) (Instr.loadAt 30 (Ptr (t73.add 1))) w fun t75 w =>
                Rn Try.prog (Value.float .f64) (Op.floatArith .mul .f64 t25 t75) w fun t76 w =>
                NotNil t0 fun t79 =>
                Rn Try.prog Sl.v (Instr.loadAt 107 (Ptr (t79.add 1))) w fun t81 w =>
                RnP Try.prog Ptr (Instr.indexAt 107 (Sl.v t81) (.int .i64 t49)) fun t83 =>
                Rn Try.prog Sl.v (Instr.loadAt 23 (Ptr t83)) w fun t84 w =>
                RnP Try.prog Ptr (Instr.indexAt 23 (Sl.v t84) (.int .i64 s6.2)) fun t86 =>
                Rn Try.prog Value.string (Instr.loadAt 9 (Ptr (t86.add 0))) w fun t88 w =>
                Cal Try.prog Sl.v 129 #[(Sl.v s6.1), (.string t88), (.float .f64 t76)] w fun t90 w =>
                n6 (t90, (IntKind.i64.wrap (s6.2 + 1))) w
              else
                k3 s6.1 w
            ) (s1.1, 0) w
      ) fun s3 w =>
        n1 (s3, (IntKind.i64.wrap (s1.2 + 1))) w
    else
      R (s1.1, true) w
  ) (Sl.nil, 0) w
theorem c104 {t0 : (Option Addr)} {t1 : TResource} {R : (Sl × Bool) → World → Prop} {w : World} (h : f104 t0 t1 R w) :
    Cal Try.prog (fun x : Sl × Bool => Value.tuple #[(Sl.v x.1), (.bool x.2)]) 104 #[(.pointer t0), (TResource.v t1)] w R := by
  unfold f104 at h
  refine calls_ Try.func104 Try.ntmps104 rfl rfl ?_
  refine seq_ ?_
  refine region_ ?_
  refine st_new (f := (fun b => Ptr ⟨b, 0, none⟩)) (ex_boxN rfl rfl) h ?_; clear h; intro b3 w h
  refine st_val (ex_assign (v := (Sl.v Sl.nil)) rfl) ?_
  refine st_val (ex_assign (v := (.bool false)) rfl) ?_
  refine wl_nil ?_
  refine then_n ?_
  refine seq_ ?_
  refine region_ ?_
  refine st_val (ex_assign (v := (Sl.v Sl.nil)) rfl) ?_
  refine wl_nil ?_
  refine then_n ?_
  refine seq_ ?_
  refine seq_ ?_
  refine region_ ?_
  refine st_val (ex_assign (v := (.int .i64 0)) rfl) ?_
  refine wl_nil ?_
  refine then_n ?_
  refine wp_block ?_
  refine wp_lp (σ := Sl × Int) (fun s1 a => ∃ j, a = F 92 (upds j [(0, (.pointer t0)), (3, (Ptr (⟨b3, 0, none⟩ : Addr))), (6, (Sl.v s1.1)), (7, (.int .i64 s1.2))])) h (mk_upds (ae rfl (ae rfl (ae rfl (ae rfl ae0))))) ?_
  clear h; rintro s1 _ w n1 ⟨j, rfl⟩ h
  refine seq_ ?_
  refine seq_ ?_
  refine region_ ?_
  refine st_val (ex_move (v := (.int .i64 s1.2)) rfl) ?_
  refine st_val (ex_fa fa48_3 (p := (⟨b3, 0, none⟩ : Addr)) rfl) ?_
  refine st_rn (fun r => ex_load rfl r) h ?_; clear h; intro t14 w h
  refine st_val (ex_len (s := t14) Try.underlying45 rfl) ?_
  refine st_val (ex_lss (a := s1.2) (b := (t14.n : Int)) rfl rfl) ?_
  refine wl_nil ?_
  refine then_n ?_
  by_cases hc2 : s1.2 < (t14.n : Int)
  · rw [if_pos hc2] at h; refine cond_1 (b := (decide (s1.2 < (t14.n : Int)))) rfl (decide_eq_true hc2) ?_
    refine wp_skip ?_
    refine then_n ?_
    refine wp_jn (σ := Sl) (fun s3 l => ∃ j, l = upds j [(0, (.pointer t0)), (3, (Ptr (⟨b3, 0, none⟩ : Addr))), (6, (Sl.v s3)), (7, (.int .i64 s1.2))]) h ?_ ?_
    · clear h; rintro s3 _ w ⟨j, rfl⟩ h
      refine region_ ?_
      refine st_val (ex_move (v := (.int .i64 s1.2)) rfl) ?_
      refine st_val (ex_add (a := s1.2) (b := 1) rfl rfl) ?_
      refine st_val (ex_assign (v := (.int .i64 (IntKind.i64.wrap (s1.2 + 1)))) rfl) ?_
      refine wl_nil ?_
      exact then_n ⟨(s3, (IntKind.i64.wrap (s1.2 + 1))), mk_upds (ae rfl (ae rfl (ae rfl (ae rfl ae0)))), h⟩
    · clear h; intro k3 h
      refine wp_block ?_
      refine seq_ ?_
      refine region_ ?_
      refine st_val (ex_fa fa48_3 (p := (⟨b3, 0, none⟩ : Addr)) rfl) ?_
      refine st_rn (fun r => ex_load rfl r) h ?_; clear h; intro t20 w h
      refine st_val (ex_move (v := (.int .i64 s1.2)) rfl) ?_
      refine st_rnp (fun r => ex_indexAddr rfl rfl r) h ?_; clear h; intro t22 h
      refine st_val (ex_fa fa84_2 (p := t22) rfl) ?_
      refine st_rn (fun r => ex_load rfl r) h ?_; clear h; intro t24 w h
      refine st_rn (fun r => ex_quoF (a := t24) (b := 4636737291354636288) rfl rfl r) h ?_; clear h; intro t25 w h
      refine st_val (ex_assign (v := (.float .f64 t25)) rfl) ?_
      refine wl_nil ?_
      refine then_n ?_
      refine seq_ ?_
      refine seq_ ?_
      refine region_ ?_
      refine st_val (ex_fa fa48_3 (p := (⟨b3, 0, none⟩ : Addr)) rfl) ?_
      refine st_rn (fun r => ex_load rfl r) h ?_; clear h; intro t27 w h
      refine st_val (ex_move (v := (.int .i64 s1.2)) rfl) ?_
      refine st_rnp (fun r => ex_indexAddr rfl rfl r) h ?_; clear h; intro t29 h
      refine st_val (ex_fa fa84_0 (p := t29) rfl) ?_
      refine st_rn (fun r => ex_load rfl r) h ?_; clear h; intro t31 w h
      refine st_val (ex_neqS (a := t31) (b := (⟨#[]⟩ : ByteArray)) rfl rfl) ?_
      refine wl_nil ?_
      refine then_n ?_
      by_cases hc4 : t31 ≠ (⟨#[]⟩ : ByteArray)
      · rw [if_pos hc4] at h; refine cond_1 (b := (decide (t31 ≠ (⟨#[]⟩ : ByteArray)))) rfl (decide_eq_true hc4) ?_
        refine seq_ ?_
        refine region_ ?_
        refine st_val (ex_move (v := (Sl.v s1.1)) rfl) ?_
        refine st_val (ex_fa fa48_3 (p := (⟨b3, 0, none⟩ : Addr)) rfl) ?_
        refine st_rn (fun r => ex_load rfl r) h ?_; clear h; intro t35 w h
        refine st_val (ex_move (v := (.int .i64 s1.2)) rfl) ?_
        refine st_rnp (fun r => ex_indexAddr rfl rfl r) h ?_; clear h; intro t37 h
        refine st_val (ex_fa fa84_0 (p := t37) rfl) ?_
        refine st_rn (fun r => ex_load rfl r) h ?_; clear h; intro t39 w h
        refine st_val (ex_move (v := (.float .f64 t25)) rfl) ?_
        refine st_cal en129 rfl h ?_; clear h; intro t41 w h
        refine st_val (ex_assign (v := (Sl.v t41)) rfl) ?_
        refine wl_nil ?_
        refine then_n ?_
        refine wp_exit ?_
        refine then_e ?_
        refine inb_e ?_
        exact then_n ⟨t41, _, rfl, mk_upds' (ae rfl (ae rfl (ae rfl (ae rfl ae0)))), h⟩
      · rw [if_neg hc4] at h; refine cond_0 (b := (decide (t31 ≠ (⟨#[]⟩ : ByteArray)))) rfl (decide_eq_false hc4) ?_
        refine wp_skip ?_
        refine then_n ?_
        refine seq_ ?_
        refine region_ ?_
        refine st_val (ex_move (v := (.pointer t0)) rfl) ?_
        refine st_val (ex_fa fa48_3 (p := (⟨b3, 0, none⟩ : Addr)) rfl) ?_
        refine st_rn (fun r => ex_load rfl r) h ?_; clear h; intro t44 w h
        refine st_val (ex_move (v := (.int .i64 s1.2)) rfl) ?_
        refine st_rnp (fun r => ex_indexAddr rfl rfl r) h ?_; clear h; intro t46 h
        refine st_val (ex_fa fa84_1 (p := t46) rfl) ?_
        refine st_rn (fun r => ex_load rfl r) h ?_; clear h; intro t48 w h
        refine st_cal en60 rfl h ?_; clear h; intro t49 w h
        refine st_val (ex_assign (v := (.int .i64 t49)) rfl) ?_
        refine wl_nil ?_
        refine then_n ?_
        refine seq_ ?_
        refine seq_ ?_
        refine region_ ?_
        refine st_val (ex_move (v := (.int .i64 t49)) rfl) ?_
        refine st_val (ex_lss (a := t49) (b := 0) rfl rfl) ?_
        refine wl_nil ?_
        refine then_n ?_
        by_cases hc5 : t49 < 0
        · rw [if_pos hc5] at h; refine cond_1 (b := (decide (t49 < 0))) rfl (decide_eq_true hc5) ?_
          refine seq_ ?_
          refine region_ ?_
          refine st_val (ex_assign (v := (Sl.v Sl.nil)) rfl) ?_
          refine st_val (ex_assign (v := (.bool false)) rfl) ?_
          refine wl_nil ?_
          refine then_n ?_
          refine wp_ret ?_
          refine then_r ?_
          refine inb_r ?_
          refine then_r ?_
          refine then_r ?_
          refine inb_r ?_
          refine then_r ?_
          refine ret_2 rfl rfl rfl ⟨(Sl.nil, false), rfl, h⟩
        · rw [if_neg hc5] at h; refine cond_0 (b := (decide (t49 < 0))) rfl (decide_eq_false hc5) ?_
          refine wp_skip ?_
          refine then_n ?_
          refine seq_ ?_
          refine region_ ?_
          refine st_val (ex_assign (v := (.int .i64 0)) rfl) ?_
          refine wl_nil ?_
          refine then_n ?_
          refine wp_block ?_
          refine wp_lp (σ := Sl × Int) (fun s6 a => ∃ j, a = F 92 (upds j [(0, (.pointer t0)), (3, (Ptr (⟨b3, 0, none⟩ : Addr))), (6, (Sl.v s6.1)), (7, (.int .i64 s1.2)), (8, (.float .f64 t25)), (9, (.int .i64 t49)), (10, (.int .i64 s6.2))])) h (mk_upds (ae rfl (ae rfl (ae rfl (ae rfl (ae rfl (ae rfl (ae rfl ae0)))))))) ?_
          clear h; rintro s6 _ w n6 ⟨j, rfl⟩ h
          refine seq_ ?_
          refine seq_ ?_
          refine region_ ?_
          refine st_val (ex_move (v := (.int .i64 s6.2)) rfl) ?_
          refine st_val (ex_move (v := (.pointer t0)) rfl) ?_
          obtain ⟨t54, ht54, h⟩ := h
          refine st_val (ex_nilCheckP (p := t0) rfl ht54) ?_
          refine st_val (ex_fa fa109_1 (p := t54) rfl) ?_
          refine st_rn (fun r => ex_load rfl r) h ?_; clear h; intro t56 w h
          refine st_val (ex_move (v := (.int .i64 t49)) rfl) ?_
          refine st_rnp (fun r => ex_indexAddr rfl rfl r) h ?_; clear h; intro t58 h
          refine st_rn (fun r => ex_load rfl r) h ?_; clear h; intro t59 w h
          refine st_val (ex_len (s := t59) Try.underlying23 rfl) ?_
          refine st_val (ex_lss (a := s6.2) (b := (t59.n : Int)) rfl rfl) ?_
          refine wl_nil ?_
          refine then_n ?_
          by_cases hc7 : s6.2 < (t59.n : Int)
          · rw [if_pos hc7] at h; refine cond_1 (b := (decide (s6.2 < (t59.n : Int)))) rfl (decide_eq_true hc7) ?_
            refine wp_skip ?_
            refine then_n ?_
            refine seq_ ?_
            refine wp_block ?_
            refine seq_ ?_
            refine region_ ?_
            refine st_val (ex_move (v := (.float .f64 t25)) rfl) ?_
            refine st_val (ex_move (v := (.pointer t0)) rfl) ?_
            obtain ⟨t66, ht66, h⟩ := h
            refine st_val (ex_nilCheckP (p := t0) rfl ht66) ?_
            refine st_val (ex_fa fa109_1 (p := t66) rfl) ?_
            refine st_rn (fun r => ex_load rfl r) h ?_; clear h; intro t68 w h
            refine st_val (ex_move (v := (.int .i64 t49)) rfl) ?_
            refine st_rnp (fun r => ex_indexAddr rfl rfl r) h ?_; clear h; intro t70 h
            refine st_rn (fun r => ex_load rfl r) h ?_; clear h; intro t71 w h
            refine st_val (ex_move (v := (.int .i64 s6.2)) rfl) ?_
            refine st_rnp (fun r => ex_indexAddr rfl rfl r) h ?_; clear h; intro t73 h
            refine st_val (ex_fa fa32_1 (p := t73) rfl) ?_
            refine st_rn (fun r => ex_load rfl r) h ?_; clear h; intro t75 w h
            refine st_rn (fun r => ex_mulF (a := t25) (b := t75) rfl rfl r) h ?_; clear h; intro t76 w h
            refine st_val (ex_assign (v := (.float .f64 t76)) rfl) ?_
            refine wl_nil ?_
            refine then_n ?_
            refine region_ ?_
            refine st_val (ex_move (v := (Sl.v s6.1)) rfl) ?_
            refine st_val (ex_move (v := (.pointer t0)) rfl) ?_
            obtain ⟨t79, ht79, h⟩ := h
            refine st_val (ex_nilCheckP (p := t0) rfl ht79) ?_
            refine st_val (ex_fa fa109_1 (p := t79) rfl) ?_
            refine st_rn (fun r => ex_load rfl r) h ?_; clear h; intro t81 w h
            refine st_val (ex_move (v := (.int .i64 t49)) rfl) ?_
            refine st_rnp (fun r => ex_indexAddr rfl rfl r) h ?_; clear h; intro t83 h
            refine st_rn (fun r => ex_load rfl r) h ?_; clear h; intro t84 w h
            refine st_val (ex_move (v := (.int .i64 s6.2)) rfl) ?_
            refine st_rnp (fun r => ex_indexAddr rfl rfl r) h ?_; clear h; intro t86 h
            refine st_val (ex_fa fa32_0 (p := t86) rfl) ?_
            refine st_rn (fun r => ex_load rfl r) h ?_; clear h; intro t88 w h
            refine st_val (ex_move (v := (.float .f64 t76)) rfl) ?_
            refine st_cal en129 rfl h ?_; clear h; intro t90 w h
            refine st_val (ex_assign (v := (Sl.v t90)) rfl) ?_
            refine wl_nil ?_
            refine inb_n ?_
            refine then_n ?_
            refine region_ ?_
            refine st_val (ex_move (v := (.int .i64 s6.2)) rfl) ?_
            refine st_val (ex_add (a := s6.2) (b := 1) rfl rfl) ?_
            refine st_val (ex_assign (v := (.int .i64 (IntKind.i64.wrap (s6.2 + 1)))) rfl) ?_
            refine wl_nil ?_
            exact then_n ⟨(t90, (IntKind.i64.wrap (s6.2 + 1))), mk_upds (ae rfl (ae rfl (ae rfl (ae rfl (ae rfl (ae rfl (ae rfl ae0))))))), h⟩
          · rw [if_neg hc7] at h; refine cond_0 (b := (decide (s6.2 < (t59.n : Int)))) rfl (decide_eq_false hc7) ?_
            refine wp_exit ?_
            refine then_e ?_
            refine then_e ?_
            refine inb_e ?_
            refine inb_n ?_
            exact then_n ⟨s6.1, _, rfl, mk_upds' (ae rfl (ae rfl (ae rfl (ae rfl ae0)))), h⟩
  · rw [if_neg hc2] at h; refine cond_0 (b := (decide (s1.2 < (t14.n : Int)))) rfl (decide_eq_false hc2) ?_
    refine wp_exit ?_
    refine then_e ?_
    refine then_e ?_
    refine inb_e ?_
    refine then_n ?_
    refine seq_ ?_
    refine region_ ?_
    refine st_val (ex_move (v := (Sl.v s1.1)) rfl) ?_
    refine st_val (ex_assign (v := (Sl.v s1.1)) rfl) ?_
    refine st_val (ex_assign (v := (.bool true)) rfl) ?_
    refine wl_nil ?_
    refine then_n ?_
    refine wp_ret ?_
    refine ret_2 rfl rfl rfl ⟨(s1.1, true), rfl, h⟩

/-- turnpike/turnpikelaw15.targets; slots 0:a, 1:b, 2:a, 3:b, 5:i -/
def f106 (t0 : Sl) (t1 : Sl) (R : (Bool) → World → Prop) (w : World) : Prop :=
  if (t0.n : Int) ≠ (t1.n : Int) then
    R false w
  else
    Lp (σ := Int) (fun s2 w n2 =>
      if s2 < (t0.n : Int) then
        Jn (σ := Bool) (fun k4 =>
          Dr w fun w5 w =>
            RnP Try.prog Ptr (Instr.indexAt 45 (Sl.v t0) (.int .i64 s2)) fun t19 =>
            RnL Try.prog Value.string (Instr.loadAt 9 (Ptr (t19.add 0))) w5 fun t21 =>
            RnP Try.prog Ptr (Instr.indexAt 45 (Sl.v t1) (.int .i64 s2)) fun t24 =>
            RnL Try.prog Value.string (Instr.loadAt 9 (Ptr (t24.add 0))) w5 fun t26 =>
            if t21 ≠ t26 then
              k4 true w
            else
              RnP Try.prog Ptr (Instr.indexAt 45 (Sl.v t0) (.int .i64 s2)) fun t31 =>
              RnL Try.prog Value.string (Instr.loadAt 9 (Ptr (t31.add 1))) w5 fun t33 =>
              RnP Try.prog Ptr (Instr.indexAt 45 (Sl.v t1) (.int .i64 s2)) fun t36 =>
              RnL Try.prog Value.string (Instr.loadAt 9 (Ptr (t36.add 1))) w5 fun t38 =>
              if t33 ≠ t38 then
                k4 true w
              else
                RnP Try.prog Ptr (Instr.indexAt 45 (Sl.v t0) (.int .i64 s2)) fun t44 =>
                RnL Try.prog (Value.float .f64) (Instr.loadAt 30 (Ptr (t44.add 2))) w5 fun t46 =>
                RnP Try.prog Ptr (Instr.indexAt 45 (Sl.v t1) (.int .i64 s2)) fun t49 =>
                RnL Try.prog (Value.float .f64) (Instr.loadAt 30 (Ptr (t49.add 2))) w5 fun t51 =>
                Cal Try.prog Value.bool 61 #[(.float .f64 t46), (.float .f64 t51)] w fun t52 w =>
                k4 (!t52) w
        ) fun s4 w =>
          if s4 = true then
            R false w
          else
            n2 (IntKind.i64.wrap (s2 + 1)) w
      else
        R true w
    ) 0 w
theorem c106 {t0 : Sl} {t1 : Sl} {R : (Bool) → World → Prop} {w : World} (h : f106 t0 t1 R w) :
    Cal Try.prog Value.bool 106 #[(Sl.v t0), (Sl.v t1)] w R := by
  unfold f106 at h
  refine calls_ Try.func106 Try.ntmps106 rfl rfl ?_
  refine seq_ ?_
  refine region_ ?_
  refine st_val (ex_assign (v := (.bool false)) rfl) ?_
  refine wl_nil ?_
  refine then_n ?_
  refine seq_ ?_
  refine seq_ ?_
  refine region_ ?_
  refine st_val (ex_move (v := (Sl.v t0)) rfl) ?_
  refine st_val (ex_len (s := t0) Try.underlying45 rfl) ?_
  refine st_val (ex_move (v := (Sl.v t1)) rfl) ?_
  refine st_val (ex_len (s := t1) Try.underlying45 rfl) ?_
  refine st_val (ex_neq (a := (t0.n : Int)) (b := (t1.n : Int)) rfl rfl) ?_
  refine wl_nil ?_
  refine then_n ?_
  by_cases hc1 : (t0.n : Int) ≠ (t1.n : Int)
  · rw [if_pos hc1] at h; refine cond_1 (b := (decide ((t0.n : Int) ≠ (t1.n : Int)))) rfl (decide_eq_true hc1) ?_
    refine seq_ ?_
    refine region_ ?_
    refine st_val (ex_assign (v := (.bool false)) rfl) ?_
    refine wl_nil ?_
    refine then_n ?_
    refine wp_ret ?_
    refine then_r ?_
    refine ret_1 rfl rfl ⟨false, rfl, h⟩
  · rw [if_neg hc1] at h; refine cond_0 (b := (decide ((t0.n : Int) ≠ (t1.n : Int)))) rfl (decide_eq_false hc1) ?_
    refine wp_skip ?_
    refine then_n ?_
    refine seq_ ?_
    refine seq_ ?_
    refine region_ ?_
    refine st_val (ex_assign (v := (.int .i64 0)) rfl) ?_
    refine wl_nil ?_
    refine then_n ?_
    refine wp_block ?_
    refine wp_lp (σ := Int) (fun s2 a => ∃ j, a = F 55 (upds j [(0, (Sl.v t0)), (1, (Sl.v t1)), (5, (.int .i64 s2))])) h (mk_upds (ae rfl (ae rfl (ae rfl ae0)))) ?_
    clear h; rintro s2 _ w n2 ⟨j, rfl⟩ h
    refine seq_ ?_
    refine seq_ ?_
    refine region_ ?_
    refine st_val (ex_move (v := (.int .i64 s2)) rfl) ?_
    refine st_val (ex_move (v := (Sl.v t0)) rfl) ?_
    refine st_val (ex_len (s := t0) Try.underlying45 rfl) ?_
    refine st_val (ex_lss (a := s2) (b := (t0.n : Int)) rfl rfl) ?_
    refine wl_nil ?_
    refine then_n ?_
    by_cases hc3 : s2 < (t0.n : Int)
    · rw [if_pos hc3] at h; refine cond_1 (b := (decide (s2 < (t0.n : Int)))) rfl (decide_eq_true hc3) ?_
      refine wp_skip ?_
      refine then_n ?_
      refine seq_ ?_
      refine wp_block ?_
      refine wp_jn (σ := Bool) (fun s4 l => ∃ j, l = upds j [(0, (Sl.v t0)), (1, (Sl.v t1)), (5, (.int .i64 s2)), (54, (.bool s4))]) h ?_ ?_
      · clear h; rintro s4 _ w ⟨j, rfl⟩ h
        by_cases hc8 : s4 = true
        · rw [if_pos hc8] at h; refine cond_1 (b := s4) rfl hc8 ?_
          refine seq_ ?_
          refine region_ ?_
          refine st_val (ex_assign (v := (.bool false)) rfl) ?_
          refine wl_nil ?_
          refine then_n ?_
          refine wp_ret ?_
          refine inb_r ?_
          refine then_r ?_
          refine then_r ?_
          refine inb_r ?_
          refine then_r ?_
          refine ret_1 rfl rfl ⟨false, rfl, h⟩
        · rw [if_neg hc8] at h; refine cond_0 (b := s4) rfl (Bool.eq_false_iff.2 hc8) ?_
          refine wp_skip ?_
          refine inb_n ?_
          refine then_n ?_
          refine region_ ?_
          refine st_val (ex_move (v := (.int .i64 s2)) rfl) ?_
          refine st_val (ex_add (a := s2) (b := 1) rfl rfl) ?_
          refine st_val (ex_assign (v := (.int .i64 (IntKind.i64.wrap (s2 + 1)))) rfl) ?_
          refine wl_nil ?_
          exact then_n ⟨(IntKind.i64.wrap (s2 + 1)), mk_upds (ae rfl (ae rfl (ae rfl ae0))), h⟩
      · clear h; intro k4 h
        refine dr_begin mixed [35] (listed := #[false, false, false, false, false, false, false, false, false, false, false, false, false, false, false, false, false, false, false, false, false, false, false, false, false, false, false, false, false, false, false, false, false, false, false, false, false, false]) rfl (n := 38) rfl h ?_; clear h; intro w5 h
        have hE : Ext w5 w5 := Ext.refl _
        refine dr_takeP (i := 0) (by kernel_rfl) rfl (fun _ _ _ h => h) (fun _ => hE) (fun _ => ex_move (v := (Sl.v t0)) rfl) ?_
        refine dr_takeP (i := 1) (by kernel_rfl) rfl (fun _ _ _ h => h) (fun _ => hE) (fun _ => ex_move (v := (.int .i64 s2)) rfl) ?_
        obtain ⟨t19, ht19, h⟩ := h
        refine dr_takeP (i := 2) (by kernel_rfl) rfl (fun _ _ _ h => h) (fun _ => hE) (fun _ => (fun r => ex_indexAddr rfl rfl r) (ht19 _)) ?_
        refine dr_takeP (i := 3) (by kernel_rfl) rfl (fun _ _ _ h => h) (fun _ => hE) (fun _ => ex_fa fa84_0 (p := t19) rfl) ?_
        obtain ⟨t21, ht21, h⟩ := h
        refine dr_take (i := 4) (by kernel_rfl) rfl (fun _ _ _ h => h) hE (fun _ hw => (fun r => ex_load rfl r) (ht21 _ hw)) ?_
        refine dr_takeP (i := 5) (by kernel_rfl) rfl (fun _ _ _ h => h) (fun _ => hE) (fun _ => ex_move (v := (Sl.v t1)) rfl) ?_
        refine dr_takeP (i := 6) (by kernel_rfl) rfl (fun _ _ _ h => h) (fun _ => hE) (fun _ => ex_move (v := (.int .i64 s2)) rfl) ?_
        obtain ⟨t24, ht24, h⟩ := h
        refine dr_takeP (i := 7) (by kernel_rfl) rfl (fun _ _ _ h => h) (fun _ => hE) (fun _ => (fun r => ex_indexAddr rfl rfl r) (ht24 _)) ?_
        refine dr_takeP (i := 8) (by kernel_rfl) rfl (fun _ _ _ h => h) (fun _ => hE) (fun _ => ex_fa fa84_0 (p := t24) rfl) ?_
        obtain ⟨t26, ht26, h⟩ := h
        refine dr_take (i := 9) (by kernel_rfl) rfl (fun _ _ _ h => h) hE (fun _ hw => (fun r => ex_load rfl r) (ht26 _ hw)) ?_
        refine dr_takeP (i := 10) (by kernel_rfl) rfl (fun _ _ _ h => h) (fun _ => hE) (fun _ => ex_neqS (a := t21) (b := t26) rfl rfl) ?_
        refine dr_takeP (i := 11) (by kernel_rfl) rfl (fun _ _ _ h => h) (fun _ => hE) (fun _ => ex_move (v := (.bool (decide (t21 ≠ t26)))) rfl) ?_
        by_cases hc6 : t21 ≠ t26
        · rw [if_pos hc6] at h
          refine dr_take_off (i := 12) (t := 28) (c := (decide (t21 ≠ t26))) (by kernel_rfl) rfl rfl rfl (decide_eq_true hc6) (fun _ _ _ h => h) (fun _ => hE) ?_
          refine dr_take_off (i := 13) (t := 28) (c := (decide (t21 ≠ t26))) (by kernel_rfl) rfl rfl rfl (decide_eq_true hc6) (fun _ _ _ h => h) (fun _ => hE) ?_
          refine dr_take_off (i := 14) (t := 28) (c := (decide (t21 ≠ t26))) (by kernel_rfl) rfl rfl rfl (decide_eq_true hc6) (fun _ _ _ h => h) (fun _ => hE) ?_
          refine dr_take_off (i := 15) (t := 28) (c := (decide (t21 ≠ t26))) (by kernel_rfl) rfl rfl rfl (decide_eq_true hc6) (fun _ _ _ h => h) (fun _ => hE) ?_
          refine dr_take_off (i := 16) (t := 28) (c := (decide (t21 ≠ t26))) (by kernel_rfl) rfl rfl rfl (decide_eq_true hc6) (fun _ _ _ h => h) (fun _ => hE) ?_
          refine dr_take_off (i := 17) (t := 28) (c := (decide (t21 ≠ t26))) (by kernel_rfl) rfl rfl rfl (decide_eq_true hc6) (fun _ _ _ h => h) (fun _ => hE) ?_
          refine dr_take_off (i := 18) (t := 28) (c := (decide (t21 ≠ t26))) (by kernel_rfl) rfl rfl rfl (decide_eq_true hc6) (fun _ _ _ h => h) (fun _ => hE) ?_
          refine dr_take_off (i := 19) (t := 28) (c := (decide (t21 ≠ t26))) (by kernel_rfl) rfl rfl rfl (decide_eq_true hc6) (fun _ _ _ h => h) (fun _ => hE) ?_
          refine dr_take_off (i := 20) (t := 28) (c := (decide (t21 ≠ t26))) (by kernel_rfl) rfl rfl rfl (decide_eq_true hc6) (fun _ _ _ h => h) (fun _ => hE) ?_
          refine dr_take_off (i := 21) (t := 28) (c := (decide (t21 ≠ t26))) (by kernel_rfl) rfl rfl rfl (decide_eq_true hc6) (fun _ _ _ h => h) (fun _ => hE) ?_
          refine dr_take_off (i := 22) (t := 28) (c := (decide (t21 ≠ t26))) (by kernel_rfl) rfl rfl rfl (decide_eq_true hc6) (fun _ _ _ h => h) (fun _ => hE) ?_
          refine dr_takeP (i := 23) (by kernel_rfl) rfl (fun _ _ _ h => h) (fun _ => hE) (fun _ => ex_pick1 (b := (decide (t21 ≠ t26))) rfl (decide_eq_true hc6) (v := (.bool true)) rfl) ?_
          refine dr_takeP (i := 24) (by kernel_rfl) rfl (fun _ _ _ h => h) (fun _ => hE) (fun _ => ex_move (v := (.bool true)) rfl) ?_
          refine dr_take_off (i := 25) (t := 41) (c := true) (by kernel_rfl) rfl rfl rfl (rfl : true = !false) (fun _ _ _ h => h) (fun _ => hE) ?_
          refine dr_take_off (i := 26) (t := 41) (c := true) (by kernel_rfl) rfl rfl rfl (rfl : true = !false) (fun _ _ _ h => h) (fun _ => hE) ?_
          refine dr_take_off (i := 27) (t := 41) (c := true) (by kernel_rfl) rfl rfl rfl (rfl : true = !false) (fun _ _ _ h => h) (fun _ => hE) ?_
          refine dr_take_off (i := 28) (t := 41) (c := true) (by kernel_rfl) rfl rfl rfl (rfl : true = !false) (fun _ _ _ h => h) (fun _ => hE) ?_
          refine dr_take_off (i := 29) (t := 41) (c := true) (by kernel_rfl) rfl rfl rfl (rfl : true = !false) (fun _ _ _ h => h) (fun _ => hE) ?_
          refine dr_take_off (i := 30) (t := 41) (c := true) (by kernel_rfl) rfl rfl rfl (rfl : true = !false) (fun _ _ _ h => h) (fun _ => hE) ?_
          refine dr_take_off (i := 31) (t := 41) (c := true) (by kernel_rfl) rfl rfl rfl (rfl : true = !false) (fun _ _ _ h => h) (fun _ => hE) ?_
          refine dr_take_off (i := 32) (t := 41) (c := true) (by kernel_rfl) rfl rfl rfl (rfl : true = !false) (fun _ _ _ h => h) (fun _ => hE) ?_
          refine dr_take_off (i := 33) (t := 41) (c := true) (by kernel_rfl) rfl rfl rfl (rfl : true = !false) (fun _ _ _ h => h) (fun _ => hE) ?_
          refine dr_take_off (i := 34) (t := 41) (c := true) (by kernel_rfl) rfl rfl rfl (rfl : true = !false) (fun _ _ _ h => h) (fun _ => hE) ?_
          refine dr_only_off (i := 35) (t := 41) (c := true) (by kernel_rfl) rfl rfl rfl (rfl : true = !false) (fun _ => hE) ?_
          refine dr_take_off (i := 36) (t := 41) (c := true) (by kernel_rfl) rfl rfl rfl (rfl : true = !false) (fun _ _ _ h => h) (noG (by kernel_rfl)) ?_
          refine dr_takeP (i := 37) (by kernel_rfl) rfl (fun _ _ _ h => h) (noG (by kernel_rfl)) (fun _ => ex_pick1 (b := true) rfl (rfl : true = true) (v := (.bool true)) rfl) ?_
          refine dr_end (by kernel_rfl) ?_
          exact then_n ⟨true, _, rfl, mk_upds' (ae rfl (ae rfl (ae rfl (ae rfl ae0)))), h⟩
        · rw [if_neg hc6] at h
          refine dr_takeP_on (i := 12) (t := 28) (c := (decide (t21 ≠ t26))) (by kernel_rfl) rfl rfl rfl (decide_eq_false hc6) (fun _ _ _ h => h) (fun _ => hE) (fun _ => ex_move (v := (Sl.v t0)) rfl) ?_
          refine dr_takeP_on (i := 13) (t := 28) (c := (decide (t21 ≠ t26))) (by kernel_rfl) rfl rfl rfl (decide_eq_false hc6) (fun _ _ _ h => h) (fun _ => hE) (fun _ => ex_move (v := (.int .i64 s2)) rfl) ?_
          obtain ⟨t31, ht31, h⟩ := h
          refine dr_takeP_on (i := 14) (t := 28) (c := (decide (t21 ≠ t26))) (by kernel_rfl) rfl rfl rfl (decide_eq_false hc6) (fun _ _ _ h => h) (fun _ => hE) (fun _ => (fun r => ex_indexAddr rfl rfl r) (ht31 _)) ?_
          refine dr_takeP_on (i := 15) (t := 28) (c := (decide (t21 ≠ t26))) (by kernel_rfl) rfl rfl rfl (decide_eq_false hc6) (fun _ _ _ h => h) (fun _ => hE) (fun _ => ex_fa fa84_1 (p := t31) rfl) ?_
          obtain ⟨t33, ht33, h⟩ := h
          refine dr_take_on (i := 16) (t := 28) (c := (decide (t21 ≠ t26))) (by kernel_rfl) rfl rfl rfl (decide_eq_false hc6) (fun _ _ _ h => h) hE (fun _ hw => (fun r => ex_load rfl r) (ht33 _ hw)) ?_
          refine dr_takeP_on (i := 17) (t := 28) (c := (decide (t21 ≠ t26))) (by kernel_rfl) rfl rfl rfl (decide_eq_false hc6) (fun _ _ _ h => h) (fun _ => hE) (fun _ => ex_move (v := (Sl.v t1)) rfl) ?_
          refine dr_takeP_on (i := 18) (t := 28) (c := (decide (t21 ≠ t26))) (by kernel_rfl) rfl rfl rfl (decide_eq_false hc6) (fun _ _ _ h => h) (fun _ => hE) (fun _ => ex_move (v := (.int .i64 s2)) rfl) ?_
          obtain ⟨t36, ht36, h⟩ := h
          refine dr_takeP_on (i := 19) (t := 28) (c := (decide (t21 ≠ t26))) (by kernel_rfl) rfl rfl rfl (decide_eq_false hc6) (fun _ _ _ h => h) (fun _ => hE) (fun _ => (fun r => ex_indexAddr rfl rfl r) (ht36 _)) ?_
          refine dr_takeP_on (i := 20) (t := 28) (c := (decide (t21 ≠ t26))) (by kernel_rfl) rfl rfl rfl (decide_eq_false hc6) (fun _ _ _ h => h) (fun _ => hE) (fun _ => ex_fa fa84_1 (p := t36) rfl) ?_
          obtain ⟨t38, ht38, h⟩ := h
          refine dr_take_on (i := 21) (t := 28) (c := (decide (t21 ≠ t26))) (by kernel_rfl) rfl rfl rfl (decide_eq_false hc6) (fun _ _ _ h => h) hE (fun _ hw => (fun r => ex_load rfl r) (ht38 _ hw)) ?_
          refine dr_takeP_on (i := 22) (t := 28) (c := (decide (t21 ≠ t26))) (by kernel_rfl) rfl rfl rfl (decide_eq_false hc6) (fun _ _ _ h => h) (fun _ => hE) (fun _ => ex_neqS (a := t33) (b := t38) rfl rfl) ?_
          refine dr_takeP (i := 23) (by kernel_rfl) rfl (fun _ _ _ h => h) (fun _ => hE) (fun _ => ex_pick0 (b := (decide (t21 ≠ t26))) rfl (decide_eq_false hc6) (v := (.bool (decide (t33 ≠ t38)))) rfl) ?_
          refine dr_takeP (i := 24) (by kernel_rfl) rfl (fun _ _ _ h => h) (fun _ => hE) (fun _ => ex_move (v := (.bool (decide (t33 ≠ t38)))) rfl) ?_
          by_cases hc7 : t33 ≠ t38
          · rw [if_pos hc7] at h
            refine dr_take_off (i := 25) (t := 41) (c := (decide (t33 ≠ t38))) (by kernel_rfl) rfl rfl rfl (decide_eq_true hc7) (fun _ _ _ h => h) (fun _ => hE) ?_
            refine dr_take_off (i := 26) (t := 41) (c := (decide (t33 ≠ t38))) (by kernel_rfl) rfl rfl rfl (decide_eq_true hc7) (fun _ _ _ h => h) (fun _ => hE) ?_
            refine dr_take_off (i := 27) (t := 41) (c := (decide (t33 ≠ t38))) (by kernel_rfl) rfl rfl rfl (decide_eq_true hc7) (fun _ _ _ h => h) (fun _ => hE) ?_
            refine dr_take_off (i := 28) (t := 41) (c := (decide (t33 ≠ t38))) (by kernel_rfl) rfl rfl rfl (decide_eq_true hc7) (fun _ _ _ h => h) (fun _ => hE) ?_
            refine dr_take_off (i := 29) (t := 41) (c := (decide (t33 ≠ t38))) (by kernel_rfl) rfl rfl rfl (decide_eq_true hc7) (fun _ _ _ h => h) (fun _ => hE) ?_
            refine dr_take_off (i := 30) (t := 41) (c := (decide (t33 ≠ t38))) (by kernel_rfl) rfl rfl rfl (decide_eq_true hc7) (fun _ _ _ h => h) (fun _ => hE) ?_
            refine dr_take_off (i := 31) (t := 41) (c := (decide (t33 ≠ t38))) (by kernel_rfl) rfl rfl rfl (decide_eq_true hc7) (fun _ _ _ h => h) (fun _ => hE) ?_
            refine dr_take_off (i := 32) (t := 41) (c := (decide (t33 ≠ t38))) (by kernel_rfl) rfl rfl rfl (decide_eq_true hc7) (fun _ _ _ h => h) (fun _ => hE) ?_
            refine dr_take_off (i := 33) (t := 41) (c := (decide (t33 ≠ t38))) (by kernel_rfl) rfl rfl rfl (decide_eq_true hc7) (fun _ _ _ h => h) (fun _ => hE) ?_
            refine dr_take_off (i := 34) (t := 41) (c := (decide (t33 ≠ t38))) (by kernel_rfl) rfl rfl rfl (decide_eq_true hc7) (fun _ _ _ h => h) (fun _ => hE) ?_
            refine dr_only_off (i := 35) (t := 41) (c := (decide (t33 ≠ t38))) (by kernel_rfl) rfl rfl rfl (decide_eq_true hc7) (fun _ => hE) ?_
            refine dr_take_off (i := 36) (t := 41) (c := (decide (t33 ≠ t38))) (by kernel_rfl) rfl rfl rfl (decide_eq_true hc7) (fun _ _ _ h => h) (noG (by kernel_rfl)) ?_
            refine dr_takeP (i := 37) (by kernel_rfl) rfl (fun _ _ _ h => h) (noG (by kernel_rfl)) (fun _ => ex_pick1 (b := (decide (t33 ≠ t38))) rfl (decide_eq_true hc7) (v := (.bool true)) rfl) ?_
            refine dr_end (by kernel_rfl) ?_
            exact then_n ⟨true, _, rfl, mk_upds' (ae rfl (ae rfl (ae rfl (ae rfl ae0)))), h⟩
          · rw [if_neg hc7] at h
            refine dr_takeP_on (i := 25) (t := 41) (c := (decide (t33 ≠ t38))) (by kernel_rfl) rfl rfl rfl (decide_eq_false hc7) (fun _ _ _ h => h) (fun _ => hE) (fun _ => ex_move (v := (Sl.v t0)) rfl) ?_
            refine dr_takeP_on (i := 26) (t := 41) (c := (decide (t33 ≠ t38))) (by kernel_rfl) rfl rfl rfl (decide_eq_false hc7) (fun _ _ _ h => h) (fun _ => hE) (fun _ => ex_move (v := (.int .i64 s2)) rfl) ?_
            obtain ⟨t44, ht44, h⟩ := h
            refine dr_takeP_on (i := 27) (t := 41) (c := (decide (t33 ≠ t38))) (by kernel_rfl) rfl rfl rfl (decide_eq_false hc7) (fun _ _ _ h => h) (fun _ => hE) (fun _ => (fun r => ex_indexAddr rfl rfl r) (ht44 _)) ?_
            refine dr_takeP_on (i := 28) (t := 41) (c := (decide (t33 ≠ t38))) (by kernel_rfl) rfl rfl rfl (decide_eq_false hc7) (fun _ _ _ h => h) (fun _ => hE) (fun _ => ex_fa fa84_2 (p := t44) rfl) ?_
            obtain ⟨t46, ht46, h⟩ := h
            refine dr_take_on (i := 29) (t := 41) (c := (decide (t33 ≠ t38))) (by kernel_rfl) rfl rfl rfl (decide_eq_false hc7) (fun _ _ _ h => h) hE (fun _ hw => (fun r => ex_load rfl r) (ht46 _ hw)) ?_
            refine dr_takeP_on (i := 30) (t := 41) (c := (decide (t33 ≠ t38))) (by kernel_rfl) rfl rfl rfl (decide_eq_false hc7) (fun _ _ _ h => h) (fun _ => hE) (fun _ => ex_move (v := (Sl.v t1)) rfl) ?_
            refine dr_takeP_on (i := 31) (t := 41) (c := (decide (t33 ≠ t38))) (by kernel_rfl) rfl rfl rfl (decide_eq_false hc7) (fun _ _ _ h => h) (fun _ => hE) (fun _ => ex_move (v := (.int .i64 s2)) rfl) ?_
            obtain ⟨t49, ht49, h⟩ := h
            refine dr_takeP_on (i := 32) (t := 41) (c := (decide (t33 ≠ t38))) (by kernel_rfl) rfl rfl rfl (decide_eq_false hc7) (fun _ _ _ h => h) (fun _ => hE) (fun _ => (fun r => ex_indexAddr rfl rfl r) (ht49 _)) ?_
            refine dr_takeP_on (i := 33) (t := 41) (c := (decide (t33 ≠ t38))) (by kernel_rfl) rfl rfl rfl (decide_eq_false hc7) (fun _ _ _ h => h) (fun _ => hE) (fun _ => ex_fa fa84_2 (p := t49) rfl) ?_
            obtain ⟨t51, ht51, h⟩ := h
            refine dr_take_on (i := 34) (t := 41) (c := (decide (t33 ≠ t38))) (by kernel_rfl) rfl rfl rfl (decide_eq_false hc7) (fun _ _ _ h => h) hE (fun _ hw => (fun r => ex_load rfl r) (ht51 _ hw)) ?_
            refine dr_only_on (i := 35) (t := 41) (c := (decide (t33 ≠ t38))) (by kernel_rfl) rfl rfl rfl (decide_eq_false hc7) ?_
            refine o_cal en61 rfl h ?_; clear h; intro t52 w h; refine ⟨noG (by kernel_rfl), ?_⟩
            refine dr_takeP_on (i := 36) (t := 41) (c := (decide (t33 ≠ t38))) (by kernel_rfl) rfl rfl rfl (decide_eq_false hc7) (fun _ _ _ h => h) (noG (by kernel_rfl)) (fun _ => ex_not (b := t52) rfl) ?_
            refine dr_takeP (i := 37) (by kernel_rfl) rfl (fun _ _ _ h => h) (noG (by kernel_rfl)) (fun _ => ex_pick0 (b := (decide (t33 ≠ t38))) rfl (decide_eq_false hc7) (v := (.bool (!t52))) rfl) ?_
            refine dr_end (by kernel_rfl) ?_
            exact then_n ⟨(!t52), _, rfl, mk_upds' (ae rfl (ae rfl (ae rfl (ae rfl ae0)))), h⟩
    · rw [if_neg hc3] at h; refine cond_0 (b := (decide (s2 < (t0.n : Int)))) rfl (decide_eq_false hc3) ?_
      refine wp_exit ?_
      refine then_e ?_
      refine then_e ?_
      refine inb_e ?_
      refine then_n ?_
      refine seq_ ?_
      refine region_ ?_
      refine st_val (ex_assign (v := (.bool true)) rfl) ?_
      refine wl_nil ?_
      refine then_n ?_
      refine wp_ret ?_
      refine ret_1 rfl rfl ⟨true, rfl, h⟩

/-- turnpike/turnpikelaw15.rules; slots 0:a, 1:b, 2:a, 3:b, 5:i -/
def f107 (t0 : Sl) (t1 : Sl) (R : (Bool) → World → Prop) (w : World) : Prop :=
  if (t0.n : Int) ≠ (t1.n : Int) then
    R false w
  else
    Lp (σ := Int) (fun s2 w n2 =>
      if s2 < (t0.n : Int) then
        Dr w fun w4 w =>
          RnP Try.prog Ptr (Instr.indexAt 46 (Sl.v t0) (.int .i64 s2)) fun t19 =>
          RnL Try.prog TRule.v (Instr.loadAt 91 (Ptr t19)) w4 fun t20 =>
          RnP Try.prog Ptr (Instr.indexAt 46 (Sl.v t1) (.int .i64 s2)) fun t23 =>
          RnL Try.prog TRule.v (Instr.loadAt 91 (Ptr t23)) w4 fun t24 =>
          RnP Try.prog Value.bool (do pure (Value.bool (!(← Op.equal 91 (TRule.v t20) (TRule.v t24))))) fun t25 =>
          if t25 = true then
            R false w
          else
            n2 (IntKind.i64.wrap (s2 + 1)) w
      else
        R true w
    ) 0 w
theorem c107 {t0 : Sl} {t1 : Sl} {R : (Bool) → World → Prop} {w : World} (h : f107 t0 t1 R w) :
    Cal Try.prog Value.bool 107 #[(Sl.v t0), (Sl.v t1)] w R := by
  unfold f107 at h
  refine calls_ Try.func107 Try.ntmps107 rfl rfl ?_
  refine seq_ ?_
  refine region_ ?_
  refine st_val (ex_assign (v := (.bool false)) rfl) ?_
  refine wl_nil ?_
  refine then_n ?_
  refine seq_ ?_
  refine seq_ ?_
  refine region_ ?_
  refine st_val (ex_move (v := (Sl.v t0)) rfl) ?_
  refine st_val (ex_len (s := t0) Try.underlying46 rfl) ?_
  refine st_val (ex_move (v := (Sl.v t1)) rfl) ?_
  refine st_val (ex_len (s := t1) Try.underlying46 rfl) ?_
  refine st_val (ex_neq (a := (t0.n : Int)) (b := (t1.n : Int)) rfl rfl) ?_
  refine wl_nil ?_
  refine then_n ?_
  by_cases hc1 : (t0.n : Int) ≠ (t1.n : Int)
  · rw [if_pos hc1] at h; refine cond_1 (b := (decide ((t0.n : Int) ≠ (t1.n : Int)))) rfl (decide_eq_true hc1) ?_
    refine seq_ ?_
    refine region_ ?_
    refine st_val (ex_assign (v := (.bool false)) rfl) ?_
    refine wl_nil ?_
    refine then_n ?_
    refine wp_ret ?_
    refine then_r ?_
    refine ret_1 rfl rfl ⟨false, rfl, h⟩
  · rw [if_neg hc1] at h; refine cond_0 (b := (decide ((t0.n : Int) ≠ (t1.n : Int)))) rfl (decide_eq_false hc1) ?_
    refine wp_skip ?_
    refine then_n ?_
    refine seq_ ?_
    refine seq_ ?_
    refine region_ ?_
    refine st_val (ex_assign (v := (.int .i64 0)) rfl) ?_
    refine wl_nil ?_
    refine then_n ?_
    refine wp_block ?_
    refine wp_lp (σ := Int) (fun s2 a => ∃ j, a = F 26 (upds j [(0, (Sl.v t0)), (1, (Sl.v t1)), (5, (.int .i64 s2))])) h (mk_upds (ae rfl (ae rfl (ae rfl ae0)))) ?_
    clear h; rintro s2 _ w n2 ⟨j, rfl⟩ h
    refine seq_ ?_
    refine seq_ ?_
    refine region_ ?_
    refine st_val (ex_move (v := (.int .i64 s2)) rfl) ?_
    refine st_val (ex_move (v := (Sl.v t0)) rfl) ?_
    refine st_val (ex_len (s := t0) Try.underlying46 rfl) ?_
    refine st_val (ex_lss (a := s2) (b := (t0.n : Int)) rfl rfl) ?_
    refine wl_nil ?_
    refine then_n ?_
    by_cases hc3 : s2 < (t0.n : Int)
    · rw [if_pos hc3] at h; refine cond_1 (b := (decide (s2 < (t0.n : Int)))) rfl (decide_eq_true hc3) ?_
      refine wp_skip ?_
      refine then_n ?_
      refine seq_ ?_
      refine wp_block ?_
      refine seq_ ?_
      refine dr_begin mixed [] (listed := #[false, false, false, false, false, false, false, false, false]) rfl (n := 9) rfl h ?_; clear h; intro w4 h
      have hE : Ext w4 w4 := Ext.refl _
      refine dr_takeP (i := 0) (by kernel_rfl) rfl (fun _ _ _ h => h) (fun _ => hE) (fun _ => ex_move (v := (Sl.v t0)) rfl) ?_
      refine dr_takeP (i := 1) (by kernel_rfl) rfl (fun _ _ _ h => h) (fun _ => hE) (fun _ => ex_move (v := (.int .i64 s2)) rfl) ?_
      obtain ⟨t19, ht19, h⟩ := h
      refine dr_takeP (i := 2) (by kernel_rfl) rfl (fun _ _ _ h => h) (fun _ => hE) (fun _ => (fun r => ex_indexAddr rfl rfl r) (ht19 _)) ?_
      obtain ⟨t20, ht20, h⟩ := h
      refine dr_take (i := 3) (by kernel_rfl) rfl (fun _ _ _ h => h) hE (fun _ hw => (fun r => ex_load rfl r) (ht20 _ hw)) ?_
      refine dr_takeP (i := 4) (by kernel_rfl) rfl (fun _ _ _ h => h) (fun _ => hE) (fun _ => ex_move (v := (Sl.v t1)) rfl) ?_
      refine dr_takeP (i := 5) (by kernel_rfl) rfl (fun _ _ _ h => h) (fun _ => hE) (fun _ => ex_move (v := (.int .i64 s2)) rfl) ?_
      obtain ⟨t23, ht23, h⟩ := h
      refine dr_takeP (i := 6) (by kernel_rfl) rfl (fun _ _ _ h => h) (fun _ => hE) (fun _ => (fun r => ex_indexAddr rfl rfl r) (ht23 _)) ?_
      obtain ⟨t24, ht24, h⟩ := h
      refine dr_take (i := 7) (by kernel_rfl) rfl (fun _ _ _ h => h) hE (fun _ hw => (fun r => ex_load rfl r) (ht24 _ hw)) ?_
      obtain ⟨t25, ht25, h⟩ := h
      refine dr_takeP (i := 8) (by kernel_rfl) rfl (fun _ _ _ h => h) (fun _ => hE) (fun _ => (fun r => ex_neqA eqg91 rfl rfl r) (ht25 _)) ?_
      refine dr_end (by kernel_rfl) ?_
      refine then_n ?_
      by_cases hc5 : t25 = true
      · rw [if_pos hc5] at h; refine cond_1 (b := t25) rfl hc5 ?_
        refine seq_ ?_
        refine region_ ?_
        refine st_val (ex_assign (v := (.bool false)) rfl) ?_
        refine wl_nil ?_
        refine then_n ?_
        refine wp_ret ?_
        refine inb_r ?_
        refine then_r ?_
        refine then_r ?_
        refine inb_r ?_
        refine then_r ?_
        refine ret_1 rfl rfl ⟨false, rfl, h⟩
      · rw [if_neg hc5] at h; refine cond_0 (b := t25) rfl (Bool.eq_false_iff.2 hc5) ?_
        refine wp_skip ?_
        refine inb_n ?_
        refine then_n ?_
        refine region_ ?_
        refine st_val (ex_move (v := (.int .i64 s2)) rfl) ?_
        refine st_val (ex_add (a := s2) (b := 1) rfl rfl) ?_
        refine st_val (ex_assign (v := (.int .i64 (IntKind.i64.wrap (s2 + 1)))) rfl) ?_
        refine wl_nil ?_
        exact then_n ⟨(IntKind.i64.wrap (s2 + 1)), mk_upds (ae rfl (ae rfl (ae rfl ae0))), h⟩
    · rw [if_neg hc3] at h; refine cond_0 (b := (decide (s2 < (t0.n : Int)))) rfl (decide_eq_false hc3) ?_
      refine wp_exit ?_
      refine then_e ?_
      refine then_e ?_
      refine inb_e ?_
      refine then_n ?_
      refine seq_ ?_
      refine region_ ?_
      refine st_val (ex_assign (v := (.bool true)) rfl) ?_
      refine wl_nil ?_
      refine then_n ?_
      refine wp_ret ?_
      refine ret_1 rfl rfl ⟨true, rfl, h⟩


end Go.Proofs.Ytdoeegfcmbcbkaa.Tr

/- Made by program: typed transformers of the functions, each met by its code. -/
namespace Go.Proofs.Ytdoeegfcmbcbkaa.Tr
open Go Go.Eng
set_option linter.unusedVariables false
set_option maxRecDepth 100000
set_option maxHeartbeats 4000000
/-- (turnpike/check.key).order; slots 0:a, 1:b, 2:a, 3:b, 5:c -/
def f111 (t0 : TKey) (t1 : TKey) (R : (Int) → World → Prop) (w : World) : Prop :=
  New 113 (TKey.cells t0) w fun b2 w =>
  New 113 (TKey.cells t1) w fun b3 w =>
  Rn Try.prog (Value.int .i64) (Instr.loadAt 3 (Ptr ((⟨b2, 0, none⟩ : Addr).add 0))) w fun t7 w =>
  Rn Try.prog (Value.int .i64) (Instr.loadAt 3 (Ptr ((⟨b3, 0, none⟩ : Addr).add 0))) w fun t9 w =>
  Cal Try.prog (Value.int .i64) 87 #[(.int .i64 t7), (.int .i64 t9)] w fun t10 w =>
  if t10 ≠ 0 then
    R t10 w
  else
    Rn Try.prog Value.string (Instr.loadAt 9 (Ptr ((⟨b2, 0, none⟩ : Addr).add 1))) w fun t15 w =>
    Rn Try.prog Value.string (Instr.loadAt 9 (Ptr ((⟨b3, 0, none⟩ : Addr).add 1))) w fun t17 w =>
    Cal Try.prog (Value.int .i64) 134 #[(.string t15), (.string t17)] w fun t18 w =>
    R t18 w
theorem c111 {t0 : TKey} {t1 : TKey} {R : (Int) → World → Prop} {w : World} (h : f111 t0 t1 R w) :
    Cal Try.prog (Value.int .i64) 111 #[(TKey.v t0), (TKey.v t1)] w R := by
  unfold f111 at h
  refine calls_ Try.func111 Try.ntmps111 rfl rfl ?_
  refine seq_ ?_
  refine region_ ?_
  refine st_new (f := (fun b => Ptr ⟨b, 0, none⟩)) (ex_boxN rfl rfl) h ?_; clear h; intro b2 w h
  refine st_new (f := (fun b => Ptr ⟨b, 0, none⟩)) (ex_boxN rfl rfl) h ?_; clear h; intro b3 w h
  refine st_val (ex_assign (v := (.int .i64 0)) rfl) ?_
  refine wl_nil ?_
  refine then_n ?_
  refine seq_ ?_
  refine seq_ ?_
  refine region_ ?_
  refine st_val (ex_fa fa113_0 (p := (⟨b2, 0, none⟩ : Addr)) rfl) ?_
  refine st_rn (fun r => ex_load rfl r) h ?_; clear h; intro t7 w h
  refine st_val (ex_fa fa113_0 (p := (⟨b3, 0, none⟩ : Addr)) rfl) ?_
  refine st_rn (fun r => ex_load rfl r) h ?_; clear h; intro t9 w h
  refine st_cal en87 rfl h ?_; clear h; intro t10 w h
  refine st_val (ex_assign (v := (.int .i64 t10)) rfl) ?_
  refine wl_nil ?_
  refine then_n ?_
  refine seq_ ?_
  refine region_ ?_
  refine st_val (ex_move (v := (.int .i64 t10)) rfl) ?_
  refine st_val (ex_neq (a := t10) (b := 0) rfl rfl) ?_
  refine wl_nil ?_
  refine then_n ?_
  by_cases hc1 : t10 ≠ 0
  · rw [if_pos hc1] at h; refine cond_1 (b := (decide (t10 ≠ 0))) rfl (decide_eq_true hc1) ?_
    refine seq_ ?_
    refine region_ ?_
    refine st_val (ex_move (v := (.int .i64 t10)) rfl) ?_
    refine st_val (ex_assign (v := (.int .i64 t10)) rfl) ?_
    refine wl_nil ?_
    refine then_n ?_
    refine wp_ret ?_
    refine then_r ?_
    refine ret_1 rfl rfl ⟨t10, rfl, h⟩
  · rw [if_neg hc1] at h; refine cond_0 (b := (decide (t10 ≠ 0))) rfl (decide_eq_false hc1) ?_
    refine wp_skip ?_
    refine then_n ?_
    refine seq_ ?_
    refine region_ ?_
    refine st_val (ex_fa fa113_1 (p := (⟨b2, 0, none⟩ : Addr)) rfl) ?_
    refine st_rn (fun r => ex_load rfl r) h ?_; clear h; intro t15 w h
    refine st_val (ex_fa fa113_1 (p := (⟨b3, 0, none⟩ : Addr)) rfl) ?_
    refine st_rn (fun r => ex_load rfl r) h ?_; clear h; intro t17 w h
    refine st_cal en134 rfl h ?_; clear h; intro t18 w h
    refine st_val (ex_assign (v := (.int .i64 t18)) rfl) ?_
    refine wl_nil ?_
    refine then_n ?_
    refine wp_ret ?_
    refine ret_1 rfl rfl ⟨t18, rfl, h⟩

/-- strings.HasPrefix; slots 0:s, 1:prefix, 2:s, 3:prefix -/
def f116 (t0 : ByteArray) (t1 : ByteArray) (R : (Bool) → World → Prop) (w : World) : Prop :=
  Cal Try.prog Value.bool 138 #[(.string t0), (.string t1)] w fun t7 w =>
  R t7 w
theorem c116 {t0 : ByteArray} {t1 : ByteArray} {R : (Bool) → World → Prop} {w : World} (h : f116 t0 t1 R w) :
    Cal Try.prog Value.bool 116 #[(.string t0), (.string t1)] w R := by
  unfold f116 at h
  refine calls_ Try.func116 Try.ntmps116 rfl rfl ?_
  refine seq_ ?_
  refine region_ ?_
  refine st_val (ex_assign (v := (.bool false)) rfl) ?_
  refine wl_nil ?_
  refine then_n ?_
  refine seq_ ?_
  refine region_ ?_
  refine st_val (ex_move (v := (.string t0)) rfl) ?_
  refine st_val (ex_move (v := (.string t1)) rfl) ?_
  refine st_cal en138 rfl h ?_; clear h; intro t7 w h
  refine st_val (ex_assign (v := (.bool t7)) rfl) ?_
  refine wl_nil ?_
  refine then_n ?_
  refine wp_ret ?_
  refine ret_1 rfl rfl ⟨t7, rfl, h⟩

/-- cmp.isNaN[int]; slots 0:x, 1:x -/
def f118 (t0 : Int) (R : (Bool) → World → Prop) (w : World) : Prop :=
  R (decide (t0 ≠ t0)) w
theorem c118 {t0 : Int} {R : (Bool) → World → Prop} {w : World} (h : f118 t0 R w) :
    Cal Try.prog Value.bool 118 #[(.int .i64 t0)] w R := by
  unfold f118 at h
  refine calls_ Try.func118 Try.ntmps118 rfl rfl ?_
  refine seq_ ?_
  refine region_ ?_
  refine st_val (ex_assign (v := (.bool false)) rfl) ?_
  refine wl_nil ?_
  refine then_n ?_
  refine seq_ ?_
  refine region_ ?_
  refine st_val (ex_move (v := (.int .i64 t0)) rfl) ?_
  refine st_val (ex_move (v := (.int .i64 t0)) rfl) ?_
  refine st_val (ex_neq (a := t0) (b := t0) rfl rfl) ?_
  refine st_val (ex_assign (v := (.bool (decide (t0 ≠ t0)))) rfl) ?_
  refine wl_nil ?_
  refine then_n ?_
  refine wp_ret ?_
  refine ret_1 rfl rfl ⟨(decide (t0 ≠ t0)), rfl, h⟩

/-- cmp.isNaN[string]; slots 0:x, 1:x -/
def f119 (t0 : ByteArray) (R : (Bool) → World → Prop) (w : World) : Prop :=
  R (decide (t0 ≠ t0)) w
theorem c119 {t0 : ByteArray} {R : (Bool) → World → Prop} {w : World} (h : f119 t0 R w) :
    Cal Try.prog Value.bool 119 #[(.string t0)] w R := by
  unfold f119 at h
  refine calls_ Try.func119 Try.ntmps119 rfl rfl ?_
  refine seq_ ?_
  refine region_ ?_
  refine st_val (ex_assign (v := (.bool false)) rfl) ?_
  refine wl_nil ?_
  refine then_n ?_
  refine seq_ ?_
  refine region_ ?_
  refine st_val (ex_move (v := (.string t0)) rfl) ?_
  refine st_val (ex_move (v := (.string t0)) rfl) ?_
  refine st_val (ex_neqS (a := t0) (b := t0) rfl rfl) ?_
  refine st_val (ex_assign (v := (.bool (decide (t0 ≠ t0)))) rfl) ?_
  refine wl_nil ?_
  refine then_n ?_
  refine wp_ret ?_
  refine ret_1 rfl rfl ⟨(decide (t0 ≠ t0)), rfl, h⟩

/-- slices.IndexFunc[[]turnpike/api.Rule,turnpike/api.Rule]; slots 0:s, 1:f, 2:s, 3:f, 5:i -/
def f121 (t0 : Sl) (t1 : Value) (R : (Int) → World → Prop) (w : World) : Prop :=
  Lp (σ := Int) (fun s1 w n1 =>
    if s1 < (t0.n : Int) then
      RnP Try.prog Ptr (Instr.indexAt 46 (Sl.v t0) (.int .i64 s1)) fun t14 =>
      Rn Try.prog TRule.v (Instr.loadAt 91 (Ptr t14)) w fun t15 w =>
      CalV Try.prog Value.bool t1 #[(TRule.v t15)] w fun t16 w =>
      if t16 = true then
        R s1 w
      else
        n1 (IntKind.i64.wrap (s1 + 1)) w
    else
      R (-1) w
  ) 0 w
theorem c121 {t0 : Sl} {t1 : Value} {R : (Int) → World → Prop} {w : World} (h : f121 t0 t1 R w) :
    Cal Try.prog (Value.int .i64) 121 #[(Sl.v t0), t1] w R := by
  unfold f121 at h
  refine calls_ Try.func121 Try.ntmps121 rfl rfl ?_
  refine seq_ ?_
  refine region_ ?_
  refine st_val (ex_assign (v := (.int .i64 0)) rfl) ?_
  refine wl_nil ?_
  refine then_n ?_
  refine seq_ ?_
  refine seq_ ?_
  refine region_ ?_
  refine st_val (ex_move (v := (Sl.v t0)) rfl) ?_
  refine st_val (ex_len (s := t0) Try.underlying46 rfl) ?_
  refine st_val (ex_move (v := (.int .i64 0)) rfl) ?_
  refine wl_nil ?_
  refine then_n ?_
  refine wp_block ?_
  refine wp_lp (σ := Int) (fun s1 a => ∃ j, a = F 19 (upds j [(0, (Sl.v t0)), (1, t1), (7, (.int .i64 (t0.n : Int))), (8, (.int .i64 s1))])) h (mk_upds (ae rfl (ae rfl (ae rfl (ae rfl ae0))))) ?_
  clear h; rintro s1 _ w n1 ⟨j, rfl⟩ h
  refine seq_ ?_
  refine region_ ?_
  refine st_val (ex_lss (a := s1) (b := (t0.n : Int)) rfl rfl) ?_
  refine wl_nil ?_
  refine then_n ?_
  refine seq_ ?_
  by_cases hc2 : s1 < (t0.n : Int)
  · rw [if_pos hc2] at h; refine cond_1 (b := (decide (s1 < (t0.n : Int)))) rfl (decide_eq_true hc2) ?_
    refine wp_skip ?_
    refine then_n ?_
    refine seq_ ?_
    refine wp_block ?_
    refine seq_ ?_
    refine region_ ?_
    refine st_val (ex_move (v := (.int .i64 s1)) rfl) ?_
    refine st_val (ex_assign (v := (.int .i64 s1)) rfl) ?_
    refine wl_nil ?_
    refine then_n ?_
    refine seq_ ?_
    refine region_ ?_
    refine st_val (ex_move (v := t1) rfl) ?_
    refine st_val (ex_move (v := (Sl.v t0)) rfl) ?_
    refine st_val (ex_move (v := (.int .i64 s1)) rfl) ?_
    refine st_rnp (fun r => ex_indexAddr rfl rfl r) h ?_; clear h; intro t14 h
    refine st_rn (fun r => ex_load rfl r) h ?_; clear h; intro t15 w h
    refine st_calv rfl rfl h ?_; clear h; intro t16 w h
    refine wl_nil ?_
    refine then_n ?_
    by_cases hc3 : t16 = true
    · rw [if_pos hc3] at h; refine cond_1 (b := t16) rfl hc3 ?_
      refine seq_ ?_
      refine region_ ?_
      refine st_val (ex_move (v := (.int .i64 s1)) rfl) ?_
      refine st_val (ex_assign (v := (.int .i64 s1)) rfl) ?_
      refine wl_nil ?_
      refine then_n ?_
      refine wp_ret ?_
      refine inb_r ?_
      refine then_r ?_
      refine then_r ?_
      refine inb_r ?_
      refine then_r ?_
      refine ret_1 rfl rfl ⟨s1, rfl, h⟩
    · rw [if_neg hc3] at h; refine cond_0 (b := t16) rfl (Bool.eq_false_iff.2 hc3) ?_
      refine wp_skip ?_
      refine inb_n ?_
      refine then_n ?_
      refine region_ ?_
      refine st_val (ex_add (a := s1) (b := 1) rfl rfl) ?_
      refine st_val (ex_move (v := (.int .i64 (IntKind.i64.wrap (s1 + 1)))) rfl) ?_
      refine wl_nil ?_
      exact then_n ⟨(IntKind.i64.wrap (s1 + 1)), mk_upds (ae rfl (ae rfl (ae rfl (ae rfl ae0)))), h⟩
  · rw [if_neg hc2] at h; refine cond_0 (b := (decide (s1 < (t0.n : Int)))) rfl (decide_eq_false hc2) ?_
    refine wp_exit ?_
    refine then_e ?_
    refine then_e ?_
    refine inb_e ?_
    refine then_n ?_
    refine seq_ ?_
    refine region_ ?_
    refine st_val (ex_assign (v := (.int .i64 (-1))) rfl) ?_
    refine wl_nil ?_
    refine then_n ?_
    refine wp_ret ?_
    refine ret_1 rfl rfl ⟨(-1), rfl, h⟩

/-- turnpike/check.shadows$1; slots 0:y, 2:y -/
def f122 (t0 : TRule) (t1 : Addr) (R : (Bool) → World → Prop) (w : World) : Prop :=
  New 91 (TRule.cells t0) w fun b2 w =>
  Jn (σ := Bool) (fun k1 =>
    Rn Try.prog Value.string (Instr.loadAt 9 (Ptr ((⟨b2, 0, none⟩ : Addr).add 1))) w fun t5 w =>
    if t5 = (⟨#[42]⟩ : ByteArray) then
      Rn Try.prog Value.string (Instr.loadAt 9 (Ptr ((⟨b2, 0, none⟩ : Addr).add 0))) w fun t16 w =>
      Rn Try.prog Value.string (Instr.loadAt 9 (Ptr (t1.add 0))) w fun t18 w =>
      Cal Try.prog Value.bool 123 #[(.string t16), (.string t18)] w fun t19 w =>
      k1 t19 w
    else
      Rn Try.prog Value.string (Instr.loadAt 9 (Ptr ((⟨b2, 0, none⟩ : Addr).add 1))) w fun t9 w =>
      Rn Try.prog Value.string (Instr.loadAt 9 (Ptr (t1.add 1))) w fun t11 w =>
      if t9 = t11 then
        Rn Try.prog Value.string (Instr.loadAt 9 (Ptr ((⟨b2, 0, none⟩ : Addr).add 0))) w fun t16_1 w =>
        Rn Try.prog Value.string (Instr.loadAt 9 (Ptr (t1.add 0))) w fun t18_1 w =>
        Cal Try.prog Value.bool 123 #[(.string t16_1), (.string t18_1)] w fun t19_1 w =>
        k1 t19_1 w
      else
        k1 false w
  ) fun s1 w =>
    R s1 w
theorem c122 {t0 : TRule} {t1 : Addr} {R : (Bool) → World → Prop} {w : World} (h : f122 t0 t1 R w) :
    Cal Try.prog Value.bool 122 #[(TRule.v t0), (Ptr t1)] w R := by
  unfold f122 at h
  refine calls_ Try.func122 Try.ntmps122 rfl rfl ?_
  refine seq_ ?_
  refine region_ ?_
  refine st_new (f := (fun b => Ptr ⟨b, 0, none⟩)) (ex_boxN rfl rfl) h ?_; clear h; intro b2 w h
  refine st_val (ex_assign (v := (.bool false)) rfl) ?_
  refine wl_nil ?_
  refine then_n ?_
  refine wp_jn (σ := Bool) (fun s1 l => ∃ j, l = upds j [(3, (.bool s1))]) h ?_ ?_
  · clear h; rintro s1 _ w ⟨j, rfl⟩ h
    refine wp_ret ?_
    refine ret_1 rfl rfl ⟨s1, rfl, h⟩
  · clear h; intro k1 h
    refine region_ ?_
    refine st_val (ex_fa fa91_1 (p := (⟨b2, 0, none⟩ : Addr)) rfl) ?_
    refine st_rn (fun r => ex_load rfl r) h ?_; clear h; intro t5 w h
    refine st_val (ex_eqlS (a := t5) (b := (⟨#[42]⟩ : ByteArray)) rfl rfl) ?_
    refine st_val (ex_move (v := (.bool (decide (t5 = (⟨#[42]⟩ : ByteArray))))) rfl) ?_
    by_cases hc2 : t5 = (⟨#[42]⟩ : ByteArray)
    · rw [if_pos hc2] at h
      refine st_off (t := 7) (c := (decide (t5 = (⟨#[42]⟩ : ByteArray)))) rfl rfl (decide_eq_true hc2) ?_
      refine st_off (t := 7) (c := (decide (t5 = (⟨#[42]⟩ : ByteArray)))) rfl rfl (decide_eq_true hc2) ?_
      refine st_off (t := 7) (c := (decide (t5 = (⟨#[42]⟩ : ByteArray)))) rfl rfl (decide_eq_true hc2) ?_
      refine st_off (t := 7) (c := (decide (t5 = (⟨#[42]⟩ : ByteArray)))) rfl rfl (decide_eq_true hc2) ?_
      refine st_off (t := 7) (c := (decide (t5 = (⟨#[42]⟩ : ByteArray)))) rfl rfl (decide_eq_true hc2) ?_
      refine st_val (ex_pick1 (b := (decide (t5 = (⟨#[42]⟩ : ByteArray)))) rfl (decide_eq_true hc2) (v := (.bool true)) rfl) ?_
      refine st_val (ex_move (v := (.bool true)) rfl) ?_
      refine st_on (t := 14) (c := true) rfl rfl (rfl : true = true) ?_
      refine st_val (ex_fa fa91_0 (p := (⟨b2, 0, none⟩ : Addr)) rfl) ?_
      refine st_on (t := 14) (c := true) rfl rfl (rfl : true = true) ?_
      refine st_rn (fun r => ex_load rfl r) h ?_; clear h; intro t16 w h
      refine st_on (t := 14) (c := true) rfl rfl (rfl : true = true) ?_
      refine st_val (ex_fa fa91_0 (p := t1) rfl) ?_
      refine st_on (t := 14) (c := true) rfl rfl (rfl : true = true) ?_
      refine st_rn (fun r => ex_load rfl r) h ?_; clear h; intro t18 w h
      refine st_on (t := 14) (c := true) rfl rfl (rfl : true = true) ?_
      refine st_cal en123 rfl h ?_; clear h; intro t19 w h
      refine st_val (ex_pick1 (b := true) rfl (rfl : true = true) (v := (.bool t19)) rfl) ?_
      refine st_val (ex_assign (v := (.bool t19)) rfl) ?_
      refine wl_nil ?_
      exact then_n ⟨t19, _, rfl, mk_upds' (ae rfl ae0), h⟩
    · rw [if_neg hc2] at h
      refine st_on (t := 7) (c := (decide (t5 = (⟨#[42]⟩ : ByteArray)))) rfl rfl (decide_eq_false hc2) ?_
      refine st_val (ex_fa fa91_1 (p := (⟨b2, 0, none⟩ : Addr)) rfl) ?_
      refine st_on (t := 7) (c := (decide (t5 = (⟨#[42]⟩ : ByteArray)))) rfl rfl (decide_eq_false hc2) ?_
      refine st_rn (fun r => ex_load rfl r) h ?_; clear h; intro t9 w h
      refine st_on (t := 7) (c := (decide (t5 = (⟨#[42]⟩ : ByteArray)))) rfl rfl (decide_eq_false hc2) ?_
      refine st_val (ex_fa fa91_1 (p := t1) rfl) ?_
      refine st_on (t := 7) (c := (decide (t5 = (⟨#[42]⟩ : ByteArray)))) rfl rfl (decide_eq_false hc2) ?_
      refine st_rn (fun r => ex_load rfl r) h ?_; clear h; intro t11 w h
      refine st_on (t := 7) (c := (decide (t5 = (⟨#[42]⟩ : ByteArray)))) rfl rfl (decide_eq_false hc2) ?_
      refine st_val (ex_eqlS (a := t9) (b := t11) rfl rfl) ?_
      refine st_val (ex_pick0 (b := (decide (t5 = (⟨#[42]⟩ : ByteArray)))) rfl (decide_eq_false hc2) (v := (.bool (decide (t9 = t11)))) rfl) ?_
      refine st_val (ex_move (v := (.bool (decide (t9 = t11)))) rfl) ?_
      by_cases hc3 : t9 = t11
      · rw [if_pos hc3] at h
        refine st_on (t := 14) (c := (decide (t9 = t11))) rfl rfl (decide_eq_true hc3) ?_
        refine st_val (ex_fa fa91_0 (p := (⟨b2, 0, none⟩ : Addr)) rfl) ?_
        refine st_on (t := 14) (c := (decide (t9 = t11))) rfl rfl (decide_eq_true hc3) ?_
        refine st_rn (fun r => ex_load rfl r) h ?_; clear h; intro t16_1 w h
        refine st_on (t := 14) (c := (decide (t9 = t11))) rfl rfl (decide_eq_true hc3) ?_
        refine st_val (ex_fa fa91_0 (p := t1) rfl) ?_
        refine st_on (t := 14) (c := (decide (t9 = t11))) rfl rfl (decide_eq_true hc3) ?_
        refine st_rn (fun r => ex_load rfl r) h ?_; clear h; intro t18_1 w h
        refine st_on (t := 14) (c := (decide (t9 = t11))) rfl rfl (decide_eq_true hc3) ?_
        refine st_cal en123 rfl h ?_; clear h; intro t19_1 w h
        refine st_val (ex_pick1 (b := (decide (t9 = t11))) rfl (decide_eq_true hc3) (v := (.bool t19_1)) rfl) ?_
        refine st_val (ex_assign (v := (.bool t19_1)) rfl) ?_
        refine wl_nil ?_
        exact then_n ⟨t19_1, _, rfl, mk_upds' (ae rfl ae0), h⟩
      · rw [if_neg hc3] at h
        refine st_off (t := 14) (c := (decide (t9 = t11))) rfl rfl (decide_eq_false hc3) ?_
        refine st_off (t := 14) (c := (decide (t9 = t11))) rfl rfl (decide_eq_false hc3) ?_
        refine st_off (t := 14) (c := (decide (t9 = t11))) rfl rfl (decide_eq_false hc3) ?_
        refine st_off (t := 14) (c := (decide (t9 = t11))) rfl rfl (decide_eq_false hc3) ?_
        refine st_off (t := 14) (c := (decide (t9 = t11))) rfl rfl (decide_eq_false hc3) ?_
        refine st_val (ex_pick0 (b := (decide (t9 = t11))) rfl (decide_eq_false hc3) (v := (.bool false)) rfl) ?_
        refine st_val (ex_assign (v := (.bool false)) rfl) ?_
        refine wl_nil ?_
        exact then_n ⟨false, _, rfl, mk_upds' (ae rfl ae0), h⟩

/-- turnpike/paths.CoversPath; slots 0:a, 1:b, 2:a, 3:b, 5:p, 6:ok, 7:q, 8:_ -/
def f123 (t0 : ByteArray) (t1 : ByteArray) (R : (Bool) → World → Prop) (w : World) : Prop :=
  Cal Try.prog (fun x : ByteArray × Bool => Value.tuple #[(.string x.1), (.bool x.2)]) 140 #[(.string t0)] w fun t11 w =>
  Cal Try.prog (fun x : ByteArray × Bool => Value.tuple #[(.string x.1), (.bool x.2)]) 140 #[(.string t1)] w fun t16 w =>
  Jn (σ := Bool) (fun k1 =>
    Cal Try.prog Value.bool 141 #[(.string t0)] w fun t20 w =>
    if t20 = true then
      Cal Try.prog Value.bool 141 #[(.string t1)] w fun t23 w =>
      if t23 = true then
        if t0 = t1 then
          k1 true w
        else
          if t11.2 = true then
            Cal Try.prog Value.bool 116 #[(.string t16.1), (.string t11.1)] w fun t34 w =>
            k1 t34 w
          else
            k1 false w
      else
        k1 false w
    else
      k1 false w
  ) fun s1 w =>
    R s1 w
theorem c123 {t0 : ByteArray} {t1 : ByteArray} {R : (Bool) → World → Prop} {w : World} (h : f123 t0 t1 R w) :
    Cal Try.prog Value.bool 123 #[(.string t0), (.string t1)] w R := by
  unfold f123 at h
  refine calls_ Try.func123 Try.ntmps123 rfl rfl ?_
  refine seq_ ?_
  refine region_ ?_
  refine st_val (ex_assign (v := (.bool false)) rfl) ?_
  refine wl_nil ?_
  refine then_n ?_
  refine seq_ ?_
  refine region_ ?_
  refine st_val (ex_move (v := (.string t0)) rfl) ?_
  refine st_cal en140 rfl h ?_; clear h; intro t11 w h
  refine st_val (ex_move (v := (.tuple #[(.string t11.1), (.bool t11.2)])) rfl) ?_
  refine st_val (ex_extract (u := (.tuple #[(.string t11.1), (.bool t11.2)])) rfl (v := (.string t11.1)) rfl) ?_
  refine st_val (ex_extract (u := (.tuple #[(.string t11.1), (.bool t11.2)])) rfl (v := (.bool t11.2)) rfl) ?_
  refine st_val (ex_assign (v := (.string t11.1)) rfl) ?_
  refine st_val (ex_assign (v := (.bool t11.2)) rfl) ?_
  refine wl_nil ?_
  refine then_n ?_
  refine seq_ ?_
  refine region_ ?_
  refine st_val (ex_move (v := (.string t1)) rfl) ?_
  refine st_cal en140 rfl h ?_; clear h; intro t16 w h
  refine st_val (ex_move (v := (.tuple #[(.string t16.1), (.bool t16.2)])) rfl) ?_
  refine st_val (ex_extract (u := (.tuple #[(.string t16.1), (.bool t16.2)])) rfl (v := (.string t16.1)) rfl) ?_
  refine st_val (ex_extract (u := (.tuple #[(.string t16.1), (.bool t16.2)])) rfl (v := (.bool t16.2)) rfl) ?_
  refine st_val (ex_assign (v := (.string t16.1)) rfl) ?_
  refine st_val (ex_assign (v := (.bool t16.2)) rfl) ?_
  refine wl_nil ?_
  refine then_n ?_
  refine wp_jn (σ := Bool) (fun s1 l => ∃ j, l = upds j [(4, (.bool s1))]) h ?_ ?_
  · clear h; rintro s1 _ w ⟨j, rfl⟩ h
    refine wp_ret ?_
    refine ret_1 rfl rfl ⟨s1, rfl, h⟩
  · clear h; intro k1 h
    refine region_ ?_
    refine st_val (ex_move (v := (.string t0)) rfl) ?_
    refine st_cal en141 rfl h ?_; clear h; intro t20 w h
    refine st_val (ex_move (v := (.bool t20)) rfl) ?_
    by_cases hc2 : t20 = true
    · rw [if_pos hc2] at h
      refine st_on (t := 21) (c := t20) rfl rfl hc2 ?_
      refine st_val (ex_move (v := (.string t1)) rfl) ?_
      refine st_on (t := 21) (c := t20) rfl rfl hc2 ?_
      refine st_cal en141 rfl h ?_; clear h; intro t23 w h
      refine st_val (ex_pick1 (b := t20) rfl hc2 (v := (.bool t23)) rfl) ?_
      refine st_val (ex_move (v := (.bool t23)) rfl) ?_
      by_cases hc3 : t23 = true
      · rw [if_pos hc3] at h
        refine st_on (t := 25) (c := t23) rfl rfl hc3 ?_
        refine st_val (ex_move (v := (.string t0)) rfl) ?_
        refine st_on (t := 25) (c := t23) rfl rfl hc3 ?_
        refine st_val (ex_move (v := (.string t1)) rfl) ?_
        refine st_on (t := 25) (c := t23) rfl rfl hc3 ?_
        refine st_val (ex_eqlS (a := t0) (b := t1) rfl rfl) ?_
        refine st_on (t := 25) (c := t23) rfl rfl hc3 ?_
        refine st_val (ex_move (v := (.bool (decide (t0 = t1)))) rfl) ?_
        by_cases hc4 : t0 = t1
        · rw [if_pos hc4] at h
          refine st_off (t := 29) (c := (decide (t0 = t1))) rfl rfl (decide_eq_true hc4) ?_
          refine st_off (t := 29) (c := (decide (t0 = t1))) rfl rfl (decide_eq_true hc4) ?_
          refine st_offu (t := 31) rfl rfl ?_
          refine st_offu (t := 31) rfl rfl ?_
          refine st_offu (t := 31) rfl rfl ?_
          refine st_off (t := 29) (c := (decide (t0 = t1))) rfl rfl (decide_eq_true hc4) ?_
          refine st_on (t := 25) (c := t23) rfl rfl hc3 ?_
          refine st_val (ex_pick1 (b := (decide (t0 = t1))) rfl (decide_eq_true hc4) (v := (.bool true)) rfl) ?_
          refine st_val (ex_pick1 (b := t23) rfl hc3 (v := (.bool true)) rfl) ?_
          refine st_val (ex_assign (v := (.bool true)) rfl) ?_
          refine wl_nil ?_
          exact then_n ⟨true, _, rfl, mk_upds' (ae rfl ae0), h⟩
        · rw [if_neg hc4] at h
          refine st_on (t := 29) (c := (decide (t0 = t1))) rfl rfl (decide_eq_false hc4) ?_
          refine st_val (ex_move (v := (.bool t11.2)) rfl) ?_
          refine st_on (t := 29) (c := (decide (t0 = t1))) rfl rfl (decide_eq_false hc4) ?_
          refine st_val (ex_move (v := (.bool t11.2)) rfl) ?_
          by_cases hc5 : t11.2 = true
          · rw [if_pos hc5] at h
            refine st_on (t := 31) (c := t11.2) rfl rfl hc5 ?_
            refine st_val (ex_move (v := (.string t16.1)) rfl) ?_
            refine st_on (t := 31) (c := t11.2) rfl rfl hc5 ?_
            refine st_val (ex_move (v := (.string t11.1)) rfl) ?_
            refine st_on (t := 31) (c := t11.2) rfl rfl hc5 ?_
            refine st_cal en116 rfl h ?_; clear h; intro t34 w h
            refine st_on (t := 29) (c := (decide (t0 = t1))) rfl rfl (decide_eq_false hc4) ?_
            refine st_val (ex_pick1 (b := t11.2) rfl hc5 (v := (.bool t34)) rfl) ?_
            refine st_on (t := 25) (c := t23) rfl rfl hc3 ?_
            refine st_val (ex_pick0 (b := (decide (t0 = t1))) rfl (decide_eq_false hc4) (v := (.bool t34)) rfl) ?_
            refine st_val (ex_pick1 (b := t23) rfl hc3 (v := (.bool t34)) rfl) ?_
            refine st_val (ex_assign (v := (.bool t34)) rfl) ?_
            refine wl_nil ?_
            exact then_n ⟨t34, _, rfl, mk_upds' (ae rfl ae0), h⟩
          · rw [if_neg hc5] at h
            refine st_off (t := 31) (c := t11.2) rfl rfl (Bool.eq_false_iff.2 hc5) ?_
            refine st_off (t := 31) (c := t11.2) rfl rfl (Bool.eq_false_iff.2 hc5) ?_
            refine st_off (t := 31) (c := t11.2) rfl rfl (Bool.eq_false_iff.2 hc5) ?_
            refine st_on (t := 29) (c := (decide (t0 = t1))) rfl rfl (decide_eq_false hc4) ?_
            refine st_val (ex_pick0 (b := t11.2) rfl (Bool.eq_false_iff.2 hc5) (v := (.bool false)) rfl) ?_
            refine st_on (t := 25) (c := t23) rfl rfl hc3 ?_
            refine st_val (ex_pick0 (b := (decide (t0 = t1))) rfl (decide_eq_false hc4) (v := (.bool false)) rfl) ?_
            refine st_val (ex_pick1 (b := t23) rfl hc3 (v := (.bool false)) rfl) ?_
            refine st_val (ex_assign (v := (.bool false)) rfl) ?_
            refine wl_nil ?_
            exact then_n ⟨false, _, rfl, mk_upds' (ae rfl ae0), h⟩
      · rw [if_neg hc3] at h
        refine st_off (t := 25) (c := t23) rfl rfl (Bool.eq_false_iff.2 hc3) ?_
        refine st_off (t := 25) (c := t23) rfl rfl (Bool.eq_false_iff.2 hc3) ?_
        refine st_off (t := 25) (c := t23) rfl rfl (Bool.eq_false_iff.2 hc3) ?_
        refine st_off (t := 25) (c := t23) rfl rfl (Bool.eq_false_iff.2 hc3) ?_
        refine st_offu (t := 29) rfl rfl ?_
        refine st_offu (t := 29) rfl rfl ?_
        refine st_offu (t := 31) rfl rfl ?_
        refine st_offu (t := 31) rfl rfl ?_
        refine st_offu (t := 31) rfl rfl ?_
        refine st_offu (t := 29) rfl rfl ?_
        refine st_off (t := 25) (c := t23) rfl rfl (Bool.eq_false_iff.2 hc3) ?_
        refine st_val (ex_pick0 (b := t23) rfl (Bool.eq_false_iff.2 hc3) (v := (.bool false)) rfl) ?_
        refine st_val (ex_assign (v := (.bool false)) rfl) ?_
        refine wl_nil ?_
        exact then_n ⟨false, _, rfl, mk_upds' (ae rfl ae0), h⟩
    · rw [if_neg hc2] at h
      refine st_off (t := 21) (c := t20) rfl rfl (Bool.eq_false_iff.2 hc2) ?_
      refine st_off (t := 21) (c := t20) rfl rfl (Bool.eq_false_iff.2 hc2) ?_
      refine st_val (ex_pick0 (b := t20) rfl (Bool.eq_false_iff.2 hc2) (v := (.bool false)) rfl) ?_
      refine st_val (ex_move (v := (.bool false)) rfl) ?_
      refine st_off (t := 25) (c := false) rfl rfl (rfl : false = !true) ?_
      refine st_off (t := 25) (c := false) rfl rfl (rfl : false = !true) ?_
      refine st_off (t := 25) (c := false) rfl rfl (rfl : false = !true) ?_
      refine st_off (t := 25) (c := false) rfl rfl (rfl : false = !true) ?_
      refine st_offu (t := 29) rfl rfl ?_
      refine st_offu (t := 29) rfl rfl ?_
      refine st_offu (t := 31) rfl rfl ?_
      refine st_offu (t := 31) rfl rfl ?_
      refine st_offu (t := 31) rfl rfl ?_
      refine st_offu (t := 29) rfl rfl ?_
      refine st_off (t := 25) (c := false) rfl rfl (rfl : false = !true) ?_
      refine st_val (ex_pick0 (b := false) rfl (rfl : false = false) (v := (.bool false)) rfl) ?_
      refine st_val (ex_assign (v := (.bool false)) rfl) ?_
      refine wl_nil ?_
      exact then_n ⟨false, _, rfl, mk_upds' (ae rfl ae0), h⟩

/-- slices.IndexFunc[[]turnpike/api.Share,turnpike/api.Share]; slots 0:s, 1:f, 2:s, 3:f, 5:i -/
def f124 (t0 : Sl) (t1 : Value) (R : (Int) → World → Prop) (w : World) : Prop :=
  Lp (σ := Int) (fun s1 w n1 =>
    if s1 < (t0.n : Int) then
      RnP Try.prog Ptr (Instr.indexAt 23 (Sl.v t0) (.int .i64 s1)) fun t14 =>
      Rn Try.prog TShare.v (Instr.loadAt 32 (Ptr t14)) w fun t15 w =>
      CalV Try.prog Value.bool t1 #[(TShare.v t15)] w fun t16 w =>
      if t16 = true then
        R s1 w
      else
        n1 (IntKind.i64.wrap (s1 + 1)) w
    else
      R (-1) w
  ) 0 w
theorem c124 {t0 : Sl} {t1 : Value} {R : (Int) → World → Prop} {w : World} (h : f124 t0 t1 R w) :
    Cal Try.prog (Value.int .i64) 124 #[(Sl.v t0), t1] w R := by
  unfold f124 at h
  refine calls_ Try.func124 Try.ntmps124 rfl rfl ?_
  refine seq_ ?_
  refine region_ ?_
  refine st_val (ex_assign (v := (.int .i64 0)) rfl) ?_
  refine wl_nil ?_
  refine then_n ?_
  refine seq_ ?_
  refine seq_ ?_
  refine region_ ?_
  refine st_val (ex_move (v := (Sl.v t0)) rfl) ?_
  refine st_val (ex_len (s := t0) Try.underlying23 rfl) ?_
  refine st_val (ex_move (v := (.int .i64 0)) rfl) ?_
  refine wl_nil ?_
  refine then_n ?_
  refine wp_block ?_
  refine wp_lp (σ := Int) (fun s1 a => ∃ j, a = F 19 (upds j [(0, (Sl.v t0)), (1, t1), (7, (.int .i64 (t0.n : Int))), (8, (.int .i64 s1))])) h (mk_upds (ae rfl (ae rfl (ae rfl (ae rfl ae0))))) ?_
  clear h; rintro s1 _ w n1 ⟨j, rfl⟩ h
  refine seq_ ?_
  refine region_ ?_
  refine st_val (ex_lss (a := s1) (b := (t0.n : Int)) rfl rfl) ?_
  refine wl_nil ?_
  refine then_n ?_
  refine seq_ ?_
  by_cases hc2 : s1 < (t0.n : Int)
  · rw [if_pos hc2] at h; refine cond_1 (b := (decide (s1 < (t0.n : Int)))) rfl (decide_eq_true hc2) ?_
    refine wp_skip ?_
    refine then_n ?_
    refine seq_ ?_
    refine wp_block ?_
    refine seq_ ?_
    refine region_ ?_
    refine st_val (ex_move (v := (.int .i64 s1)) rfl) ?_
    refine st_val (ex_assign (v := (.int .i64 s1)) rfl) ?_
    refine wl_nil ?_
    refine then_n ?_
    refine seq_ ?_
    refine region_ ?_
    refine st_val (ex_move (v := t1) rfl) ?_
    refine st_val (ex_move (v := (Sl.v t0)) rfl) ?_
    refine st_val (ex_move (v := (.int .i64 s1)) rfl) ?_
    refine st_rnp (fun r => ex_indexAddr rfl rfl r) h ?_; clear h; intro t14 h
    refine st_rn (fun r => ex_load rfl r) h ?_; clear h; intro t15 w h
    refine st_calv rfl rfl h ?_; clear h; intro t16 w h
    refine wl_nil ?_
    refine then_n ?_
    by_cases hc3 : t16 = true
    · rw [if_pos hc3] at h; refine cond_1 (b := t16) rfl hc3 ?_
      refine seq_ ?_
      refine region_ ?_
      refine st_val (ex_move (v := (.int .i64 s1)) rfl) ?_
      refine st_val (ex_assign (v := (.int .i64 s1)) rfl) ?_
      refine wl_nil ?_
      refine then_n ?_
      refine wp_ret ?_
      refine inb_r ?_
      refine then_r ?_
      refine then_r ?_
      refine inb_r ?_
      refine then_r ?_
      refine ret_1 rfl rfl ⟨s1, rfl, h⟩
    · rw [if_neg hc3] at h; refine cond_0 (b := t16) rfl (Bool.eq_false_iff.2 hc3) ?_
      refine wp_skip ?_
      refine inb_n ?_
      refine then_n ?_
      refine region_ ?_
      refine st_val (ex_add (a := s1) (b := 1) rfl rfl) ?_
      refine st_val (ex_move (v := (.int .i64 (IntKind.i64.wrap (s1 + 1)))) rfl) ?_
      refine wl_nil ?_
      exact then_n ⟨(IntKind.i64.wrap (s1 + 1)), mk_upds (ae rfl (ae rfl (ae rfl (ae rfl ae0)))), h⟩
  · rw [if_neg hc2] at h; refine cond_0 (b := (decide (s1 < (t0.n : Int)))) rfl (decide_eq_false hc2) ?_
    refine wp_exit ?_
    refine then_e ?_
    refine then_e ?_
    refine inb_e ?_
    refine then_n ?_
    refine seq_ ?_
    refine region_ ?_
    refine st_val (ex_assign (v := (.int .i64 (-1))) rfl) ?_
    refine wl_nil ?_
    refine then_n ?_
    refine wp_ret ?_
    refine ret_1 rfl rfl ⟨(-1), rfl, h⟩

/-- turnpike/tables.add$1; slots 0:s, 2:s -/
def f125 (t0 : TShare) (t1 : Addr) (R : (Bool) → World → Prop) (w : World) : Prop :=
  New 32 (TShare.cells t0) w fun b2 w =>
  Rn Try.prog Value.string (Instr.loadAt 9 (Ptr ((⟨b2, 0, none⟩ : Addr).add 0))) w fun t5 w =>
  Rn Try.prog Value.string (Instr.loadAt 9 (Ptr t1)) w fun t6 w =>
  R (decide (t5 = t6)) w
theorem c125 {t0 : TShare} {t1 : Addr} {R : (Bool) → World → Prop} {w : World} (h : f125 t0 t1 R w) :
    Cal Try.prog Value.bool 125 #[(TShare.v t0), (Ptr t1)] w R := by
  unfold f125 at h
  refine calls_ Try.func125 Try.ntmps125 rfl rfl ?_
  refine seq_ ?_
  refine region_ ?_
  refine st_new (f := (fun b => Ptr ⟨b, 0, none⟩)) (ex_boxN rfl rfl) h ?_; clear h; intro b2 w h
  refine st_val (ex_assign (v := (.bool false)) rfl) ?_
  refine wl_nil ?_
  refine then_n ?_
  refine seq_ ?_
  refine region_ ?_
  refine st_val (ex_fa fa32_0 (p := (⟨b2, 0, none⟩ : Addr)) rfl) ?_
  refine st_rn (fun r => ex_load rfl r) h ?_; clear h; intro t5 w h
  refine st_rn (fun r => ex_load rfl r) h ?_; clear h; intro t6 w h
  refine st_val (ex_eqlS (a := t5) (b := t6) rfl rfl) ?_
  refine st_val (ex_assign (v := (.bool (decide (t5 = t6)))) rfl) ?_
  refine wl_nil ?_
  refine then_n ?_
  refine wp_ret ?_
  refine ret_1 rfl rfl ⟨(decide (t5 = t6)), rfl, h⟩

/-- turnpike/turnpikeref13.PathPattern; slots 0:s, 1:s, 3:p, 4:is -/
def f126 (t0 : ByteArray) (R : (Bool) → World → Prop) (w : World) : Prop :=
  Cal Try.prog (fun x : ByteArray × Bool => Value.tuple #[(.string x.1), (.bool x.2)]) 127 #[(.string t0)] w fun t7 w =>
  Jn (σ := Bool) (fun k1 =>
    if t7.2 = true then
      if t7.1 = (⟨#[]⟩ : ByteArray) then
        k1 true w
      else
        Cal Try.prog Value.bool 142 #[(.string t7.1)] w fun t17 w =>
        k1 t17 w
    else
      Cal Try.prog Value.bool 142 #[(.string t7.1)] w fun t17_1 w =>
      k1 t17_1 w
  ) fun s1 w =>
    R s1 w
theorem c126 {t0 : ByteArray} {R : (Bool) → World → Prop} {w : World} (h : f126 t0 R w) :
    Cal Try.prog Value.bool 126 #[(.string t0)] w R := by
  unfold f126 at h
  refine calls_ Try.func126 Try.ntmps126 rfl rfl ?_
  refine seq_ ?_
  refine region_ ?_
  refine st_val (ex_assign (v := (.bool false)) rfl) ?_
  refine wl_nil ?_
  refine then_n ?_
  refine seq_ ?_
  refine region_ ?_
  refine st_val (ex_move (v := (.string t0)) rfl) ?_
  refine st_cal en127 rfl h ?_; clear h; intro t7 w h
  refine st_val (ex_move (v := (.tuple #[(.string t7.1), (.bool t7.2)])) rfl) ?_
  refine st_val (ex_extract (u := (.tuple #[(.string t7.1), (.bool t7.2)])) rfl (v := (.string t7.1)) rfl) ?_
  refine st_val (ex_extract (u := (.tuple #[(.string t7.1), (.bool t7.2)])) rfl (v := (.bool t7.2)) rfl) ?_
  refine st_val (ex_assign (v := (.string t7.1)) rfl) ?_
  refine st_val (ex_assign (v := (.bool t7.2)) rfl) ?_
  refine wl_nil ?_
  refine then_n ?_
  refine wp_jn (σ := Bool) (fun s1 l => ∃ j, l = upds j [(2, (.bool s1))]) h ?_ ?_
  · clear h; rintro s1 _ w ⟨j, rfl⟩ h
    refine wp_ret ?_
    refine ret_1 rfl rfl ⟨s1, rfl, h⟩
  · clear h; intro k1 h
    refine region_ ?_
    refine st_val (ex_move (v := (.bool t7.2)) rfl) ?_
    refine st_val (ex_move (v := (.bool t7.2)) rfl) ?_
    by_cases hc2 : t7.2 = true
    · rw [if_pos hc2] at h
      refine st_on (t := 11) (c := t7.2) rfl rfl hc2 ?_
      refine st_val (ex_move (v := (.string t7.1)) rfl) ?_
      refine st_on (t := 11) (c := t7.2) rfl rfl hc2 ?_
      refine st_val (ex_eqlS (a := t7.1) (b := (⟨#[]⟩ : ByteArray)) rfl rfl) ?_
      refine st_val (ex_pick1 (b := t7.2) rfl hc2 (v := (.bool (decide (t7.1 = (⟨#[]⟩ : ByteArray))))) rfl) ?_
      refine st_val (ex_move (v := (.bool (decide (t7.1 = (⟨#[]⟩ : ByteArray))))) rfl) ?_
      by_cases hc3 : t7.1 = (⟨#[]⟩ : ByteArray)
      · rw [if_pos hc3] at h
        refine st_off (t := 15) (c := (decide (t7.1 = (⟨#[]⟩ : ByteArray)))) rfl rfl (decide_eq_true hc3) ?_
        refine st_off (t := 15) (c := (decide (t7.1 = (⟨#[]⟩ : ByteArray)))) rfl rfl (decide_eq_true hc3) ?_
        refine st_val (ex_pick1 (b := (decide (t7.1 = (⟨#[]⟩ : ByteArray)))) rfl (decide_eq_true hc3) (v := (.bool true)) rfl) ?_
        refine st_val (ex_assign (v := (.bool true)) rfl) ?_
        refine wl_nil ?_
        exact then_n ⟨true, _, rfl, mk_upds' (ae rfl ae0), h⟩
      · rw [if_neg hc3] at h
        refine st_on (t := 15) (c := (decide (t7.1 = (⟨#[]⟩ : ByteArray)))) rfl rfl (decide_eq_false hc3) ?_
        refine st_val (ex_move (v := (.string t7.1)) rfl) ?_
        refine st_on (t := 15) (c := (decide (t7.1 = (⟨#[]⟩ : ByteArray)))) rfl rfl (decide_eq_false hc3) ?_
        refine st_cal en142 rfl h ?_; clear h; intro t17 w h
        refine st_val (ex_pick0 (b := (decide (t7.1 = (⟨#[]⟩ : ByteArray)))) rfl (decide_eq_false hc3) (v := (.bool t17)) rfl) ?_
        refine st_val (ex_assign (v := (.bool t17)) rfl) ?_
        refine wl_nil ?_
        exact then_n ⟨t17, _, rfl, mk_upds' (ae rfl ae0), h⟩
    · rw [if_neg hc2] at h
      refine st_off (t := 11) (c := t7.2) rfl rfl (Bool.eq_false_iff.2 hc2) ?_
      refine st_off (t := 11) (c := t7.2) rfl rfl (Bool.eq_false_iff.2 hc2) ?_
      refine st_val (ex_pick0 (b := t7.2) rfl (Bool.eq_false_iff.2 hc2) (v := (.bool false)) rfl) ?_
      refine st_val (ex_move (v := (.bool false)) rfl) ?_
      refine st_on (t := 15) (c := false) rfl rfl (rfl : false = false) ?_
      refine st_val (ex_move (v := (.string t7.1)) rfl) ?_
      refine st_on (t := 15) (c := false) rfl rfl (rfl : false = false) ?_
      refine st_cal en142 rfl h ?_; clear h; intro t17_1 w h
      refine st_val (ex_pick0 (b := false) rfl (rfl : false = false) (v := (.bool t17_1)) rfl) ?_
      refine st_val (ex_assign (v := (.bool t17_1)) rfl) ?_
      refine wl_nil ?_
      exact then_n ⟨t17_1, _, rfl, mk_upds' (ae rfl ae0), h⟩

/-- turnpike/turnpikeref13.star; slots 0:s, 1:s -/
def f127 (t0 : ByteArray) (R : (ByteArray × Bool) → World → Prop) (w : World) : Prop :=
  Cal Try.prog Value.bool 143 #[(.string t0), (.string (⟨#[42]⟩ : ByteArray))] w fun t5 w =>
  if t5 = true then
    RnP Try.prog Value.string (Instr.sliceAt 9 (.string t0) none (some (.int .i64 (IntKind.i64.wrap ((t0.size : Int) - 1)))) none) fun t10 =>
    R (t10, true) w
  else
    R (t0, false) w
theorem c127 {t0 : ByteArray} {R : (ByteArray × Bool) → World → Prop} {w : World} (h : f127 t0 R w) :
    Cal Try.prog (fun x : ByteArray × Bool => Value.tuple #[(.string x.1), (.bool x.2)]) 127 #[(.string t0)] w R := by
  unfold f127 at h
  refine calls_ Try.func127 Try.ntmps127 rfl rfl ?_
  refine seq_ ?_
  refine region_ ?_
  refine st_val (ex_assign (v := (.string (⟨#[]⟩ : ByteArray))) rfl) ?_
  refine st_val (ex_assign (v := (.bool false)) rfl) ?_
  refine wl_nil ?_
  refine then_n ?_
  refine seq_ ?_
  refine seq_ ?_
  refine region_ ?_
  refine st_val (ex_move (v := (.string t0)) rfl) ?_
  refine st_cal en143 rfl h ?_; clear h; intro t5 w h
  refine wl_nil ?_
  refine then_n ?_
  by_cases hc1 : t5 = true
  · rw [if_pos hc1] at h; refine cond_1 (b := t5) rfl hc1 ?_
    refine seq_ ?_
    refine region_ ?_
    refine st_val (ex_move (v := (.string t0)) rfl) ?_
    refine st_val (ex_move (v := (.string t0)) rfl) ?_
    refine st_val (ex_lenS (s := t0) Try.underlying9 rfl) ?_
    refine st_val (ex_sub (a := (t0.size : Int)) (b := 1) rfl rfl) ?_
    refine st_rnp (fun r => ex_slice rfl rfl rfl rfl r) h ?_; clear h; intro t10 h
    refine st_val (ex_assign (v := (.string t10)) rfl) ?_
    refine st_val (ex_assign (v := (.bool true)) rfl) ?_
    refine wl_nil ?_
    refine then_n ?_
    refine wp_ret ?_
    refine then_r ?_
    refine ret_2 rfl rfl rfl ⟨(t10, true), rfl, h⟩
  · rw [if_neg hc1] at h; refine cond_0 (b := t5) rfl (Bool.eq_false_iff.2 hc1) ?_
    refine wp_skip ?_
    refine then_n ?_
    refine seq_ ?_
    refine region_ ?_
    refine st_val (ex_move (v := (.string t0)) rfl) ?_
    refine st_val (ex_assign (v := (.string t0)) rfl) ?_
    refine st_val (ex_assign (v := (.bool false)) rfl) ?_
    refine wl_nil ?_
    refine then_n ?_
    refine wp_ret ?_
    refine ret_2 rfl rfl rfl ⟨(t0, false), rfl, h⟩

/-- turnpike/turnpikeref13.begins; slots 0:s, 1:t, 2:s, 3:t -/
def f128 (t0 : ByteArray) (t1 : ByteArray) (R : (Bool) → World → Prop) (w : World) : Prop :=
  Jn (σ := Bool) (fun k1 =>
    if (t1.size : Int) ≤ (t0.size : Int) then
      RnP Try.prog Value.string (Instr.sliceAt 9 (.string t0) none (some (.int .i64 (t1.size : Int))) none) fun t14 =>
      k1 (decide (t14 = t1)) w
    else
      k1 false w
  ) fun s1 w =>
    R s1 w
theorem c128 {t0 : ByteArray} {t1 : ByteArray} {R : (Bool) → World → Prop} {w : World} (h : f128 t0 t1 R w) :
    Cal Try.prog Value.bool 128 #[(.string t0), (.string t1)] w R := by
  unfold f128 at h
  refine calls_ Try.func128 Try.ntmps128 rfl rfl ?_
  refine seq_ ?_
  refine region_ ?_
  refine st_val (ex_assign (v := (.bool false)) rfl) ?_
  refine wl_nil ?_
  refine then_n ?_
  refine wp_jn (σ := Bool) (fun s1 l => ∃ j, l = upds j [(4, (.bool s1))]) h ?_ ?_
  · clear h; rintro s1 _ w ⟨j, rfl⟩ h
    refine wp_ret ?_
    refine ret_1 rfl rfl ⟨s1, rfl, h⟩
  · clear h; intro k1 h
    refine region_ ?_
    refine st_val (ex_move (v := (.string t0)) rfl) ?_
    refine st_val (ex_lenS (s := t0) Try.underlying9 rfl) ?_
    refine st_val (ex_move (v := (.string t1)) rfl) ?_
    refine st_val (ex_lenS (s := t1) Try.underlying9 rfl) ?_
    refine st_val (ex_geq (a := (t0.size : Int)) (b := (t1.size : Int)) rfl rfl) ?_
    refine st_val (ex_move (v := (.bool (decide ((t1.size : Int) ≤ (t0.size : Int))))) rfl) ?_
    by_cases hc2 : (t1.size : Int) ≤ (t0.size : Int)
    · rw [if_pos hc2] at h
      refine st_on (t := 10) (c := (decide ((t1.size : Int) ≤ (t0.size : Int)))) rfl rfl (decide_eq_true hc2) ?_
      refine st_val (ex_move (v := (.string t0)) rfl) ?_
      refine st_on (t := 10) (c := (decide ((t1.size : Int) ≤ (t0.size : Int)))) rfl rfl (decide_eq_true hc2) ?_
      refine st_val (ex_move (v := (.string t1)) rfl) ?_
      refine st_on (t := 10) (c := (decide ((t1.size : Int) ≤ (t0.size : Int)))) rfl rfl (decide_eq_true hc2) ?_
      refine st_val (ex_lenS (s := t1) Try.underlying9 rfl) ?_
      refine st_on (t := 10) (c := (decide ((t1.size : Int) ≤ (t0.size : Int)))) rfl rfl (decide_eq_true hc2) ?_
      refine st_rnp (fun r => ex_slice rfl rfl rfl rfl r) h ?_; clear h; intro t14 h
      refine st_on (t := 10) (c := (decide ((t1.size : Int) ≤ (t0.size : Int)))) rfl rfl (decide_eq_true hc2) ?_
      refine st_val (ex_move (v := (.string t1)) rfl) ?_
      refine st_on (t := 10) (c := (decide ((t1.size : Int) ≤ (t0.size : Int)))) rfl rfl (decide_eq_true hc2) ?_
      refine st_val (ex_eqlS (a := t14) (b := t1) rfl rfl) ?_
      refine st_val (ex_pick1 (b := (decide ((t1.size : Int) ≤ (t0.size : Int)))) rfl (decide_eq_true hc2) (v := (.bool (decide (t14 = t1)))) rfl) ?_
      refine st_val (ex_assign (v := (.bool (decide (t14 = t1)))) rfl) ?_
      refine wl_nil ?_
      exact then_n ⟨(decide (t14 = t1)), _, rfl, mk_upds' (ae rfl ae0), h⟩
    · rw [if_neg hc2] at h
      refine st_off (t := 10) (c := (decide ((t1.size : Int) ≤ (t0.size : Int)))) rfl rfl (decide_eq_false hc2) ?_
      refine st_off (t := 10) (c := (decide ((t1.size : Int) ≤ (t0.size : Int)))) rfl rfl (decide_eq_false hc2) ?_
      refine st_off (t := 10) (c := (decide ((t1.size : Int) ≤ (t0.size : Int)))) rfl rfl (decide_eq_false hc2) ?_
      refine st_off (t := 10) (c := (decide ((t1.size : Int) ≤ (t0.size : Int)))) rfl rfl (decide_eq_false hc2) ?_
      refine st_off (t := 10) (c := (decide ((t1.size : Int) ≤ (t0.size : Int)))) rfl rfl (decide_eq_false hc2) ?_
      refine st_off (t := 10) (c := (decide ((t1.size : Int) ≤ (t0.size : Int)))) rfl rfl (decide_eq_false hc2) ?_
      refine st_val (ex_pick0 (b := (decide ((t1.size : Int) ≤ (t0.size : Int)))) rfl (decide_eq_false hc2) (v := (.bool false)) rfl) ?_
      refine st_val (ex_assign (v := (.bool false)) rfl) ?_
      refine wl_nil ?_
      exact then_n ⟨false, _, rfl, mk_upds' (ae rfl ae0), h⟩

/-- turnpike/turnpikeref15.add; slots 0:l, 1:service, 2:x, 3:l, 4:service, 5:x, 7:i -/
def f129 (t0 : Sl) (t1 : ByteArray) (t2 : Nat) (R : (Sl) → World → Prop) (w : World) : Prop :=
  Lp (σ := Int) (fun s1 w n1 =>
    if s1 < (t0.n : Int) then
      RnP Try.prog Ptr (Instr.indexAt 23 (Sl.v t0) (.int .i64 s1)) fun t16 =>
      Rn Try.prog Value.string (Instr.loadAt 9 (Ptr (t16.add 0))) w fun t18 w =>
      if t18 = t1 then
        RnP Try.prog Ptr (Instr.indexAt 23 (Sl.v t0) (.int .i64 s1)) fun t25 =>
        Rn Try.prog (Value.float .f64) (Instr.loadAt 30 (Ptr (t25.add 1))) w fun t27 w =>
        Rn Try.prog (Value.float .f64) (Op.floatArith .add .f64 t27 t2) w fun t29 w =>
        RnP Try.prog Ptr (Instr.indexAt 23 (Sl.v t0) (.int .i64 s1)) fun t30 =>
        RnU Try.prog (Instr.storeAt 30 (Ptr (t30.add 1)) (.float .f64 t29)) w fun w =>
        R t0 w
      else
        n1 (IntKind.i64.wrap (s1 + 1)) w
    else
      Rn Try.prog (Value.float .f64) (Op.floatArith .add .f64 0 t2) w fun t36 w =>
      New 32 ((TShare.cells (⟨t1, t36⟩ : TShare))) w fun b38 w =>
      Rn Try.prog Sl.v (Builtin.append_ #[23, 23] 23 #[(Sl.v t0), (Sl.v (⟨some ⟨b38, 0, none⟩, 1, 1⟩ : Sl))]) w fun t39 w =>
      R t39 w
  ) 0 w
theorem c129 {t0 : Sl} {t1 : ByteArray} {t2 : Nat} {R : (Sl) → World → Prop} {w : World} (h : f129 t0 t1 t2 R w) :
    Cal Try.prog Sl.v 129 #[(Sl.v t0), (.string t1), (.float .f64 t2)] w R := by
  unfold f129 at h
  refine calls_ Try.func129 Try.ntmps129 rfl rfl ?_
  refine seq_ ?_
  refine region_ ?_
  refine st_val (ex_assign (v := (Sl.v Sl.nil)) rfl) ?_
  refine wl_nil ?_
  refine then_n ?_
  refine seq_ ?_
  refine seq_ ?_
  refine region_ ?_
  refine st_val (ex_assign (v := (.int .i64 0)) rfl) ?_
  refine wl_nil ?_
  refine then_n ?_
  refine wp_block ?_
  refine wp_lp (σ := Int) (fun s1 a => ∃ j, a = F 40 (upds j [(0, (Sl.v t0)), (1, (.string t1)), (2, (.float .f64 t2)), (7, (.int .i64 s1))])) h (mk_upds (ae rfl (ae rfl (ae rfl (ae rfl ae0))))) ?_
  clear h; rintro s1 _ w n1 ⟨j, rfl⟩ h
  refine seq_ ?_
  refine seq_ ?_
  refine region_ ?_
  refine st_val (ex_move (v := (.int .i64 s1)) rfl) ?_
  refine st_val (ex_move (v := (Sl.v t0)) rfl) ?_
  refine st_val (ex_len (s := t0) Try.underlying23 rfl) ?_
  refine st_val (ex_lss (a := s1) (b := (t0.n : Int)) rfl rfl) ?_
  refine wl_nil ?_
  refine then_n ?_
  by_cases hc2 : s1 < (t0.n : Int)
  · rw [if_pos hc2] at h; refine cond_1 (b := (decide (s1 < (t0.n : Int)))) rfl (decide_eq_true hc2) ?_
    refine wp_skip ?_
    refine then_n ?_
    refine seq_ ?_
    refine wp_block ?_
    refine seq_ ?_
    refine region_ ?_
    refine st_val (ex_move (v := (Sl.v t0)) rfl) ?_
    refine st_val (ex_move (v := (.int .i64 s1)) rfl) ?_
    refine st_rnp (fun r => ex_indexAddr rfl rfl r) h ?_; clear h; intro t16 h
    refine st_val (ex_fa fa32_0 (p := t16) rfl) ?_
    refine st_rn (fun r => ex_load rfl r) h ?_; clear h; intro t18 w h
    refine st_val (ex_move (v := (.string t1)) rfl) ?_
    refine st_val (ex_eqlS (a := t18) (b := t1) rfl rfl) ?_
    refine wl_nil ?_
    refine then_n ?_
    by_cases hc3 : t18 = t1
    · rw [if_pos hc3] at h; refine cond_1 (b := (decide (t18 = t1))) rfl (decide_eq_true hc3) ?_
      refine seq_ ?_
      refine region_ ?_
      refine st_val (ex_move (v := (Sl.v t0)) rfl) ?_
      refine st_val (ex_move (v := (.int .i64 s1)) rfl) ?_
      refine st_val (ex_move (v := (Sl.v t0)) rfl) ?_
      refine st_val (ex_move (v := (.int .i64 s1)) rfl) ?_
      refine st_rnp (fun r => ex_indexAddr rfl rfl r) h ?_; clear h; intro t25 h
      refine st_val (ex_fa fa32_1 (p := t25) rfl) ?_
      refine st_rn (fun r => ex_load rfl r) h ?_; clear h; intro t27 w h
      refine st_val (ex_move (v := (.float .f64 t2)) rfl) ?_
      refine st_rn (fun r => ex_addF (a := t27) (b := t2) rfl rfl r) h ?_; clear h; intro t29 w h
      refine st_rnp (fun r => ex_indexAddr rfl rfl r) h ?_; clear h; intro t30 h
      refine st_val (ex_fa fa32_1 (p := t30) rfl) ?_
      refine st_rnu (fun r => ex_store rfl rfl r) h ?_; clear h; intro w h
      refine wl_nil ?_
      refine then_n ?_
      refine seq_ ?_
      refine region_ ?_
      refine st_val (ex_move (v := (Sl.v t0)) rfl) ?_
      refine st_val (ex_assign (v := (Sl.v t0)) rfl) ?_
      refine wl_nil ?_
      refine then_n ?_
      refine wp_ret ?_
      refine inb_r ?_
      refine then_r ?_
      refine then_r ?_
      refine inb_r ?_
      refine then_r ?_
      refine ret_1 rfl rfl ⟨t0, rfl, h⟩
    · rw [if_neg hc3] at h; refine cond_0 (b := (decide (t18 = t1))) rfl (decide_eq_false hc3) ?_
      refine wp_skip ?_
      refine inb_n ?_
      refine then_n ?_
      refine region_ ?_
      refine st_val (ex_move (v := (.int .i64 s1)) rfl) ?_
      refine st_val (ex_add (a := s1) (b := 1) rfl rfl) ?_
      refine st_val (ex_assign (v := (.int .i64 (IntKind.i64.wrap (s1 + 1)))) rfl) ?_
      refine wl_nil ?_
      exact then_n ⟨(IntKind.i64.wrap (s1 + 1)), mk_upds (ae rfl (ae rfl (ae rfl (ae rfl ae0)))), h⟩
  · rw [if_neg hc2] at h; refine cond_0 (b := (decide (s1 < (t0.n : Int)))) rfl (decide_eq_false hc2) ?_
    refine wp_exit ?_
    refine then_e ?_
    refine then_e ?_
    refine inb_e ?_
    refine then_n ?_
    refine seq_ ?_
    refine region_ ?_
    refine st_val (ex_move (v := (Sl.v t0)) rfl) ?_
    refine st_val (ex_move (v := (.string t1)) rfl) ?_
    refine st_val (ex_move (v := (.float .f64 t2)) rfl) ?_
    refine st_rn (fun r => ex_addF (a := 0) (b := t2) rfl rfl r) h ?_; clear h; intro t36 w h
    refine st_val (ex_build (a' := [(0, (.string t1)), (1, (.float .f64 t36))]) (v := TShare.v (⟨t1, t36⟩ : TShare)) rfl (e_build Try.underlying32 zero32 rfl pl32 rfl _)) ?_
    refine st_new (f := (fun b => Sl.v ⟨some ⟨b, 0, none⟩, 1, 1⟩)) (ex_buildSlice (a' := [(0, (TShare.v (⟨t1, t36⟩ : TShare)))]) rfl (e_buildSlice (cs := ((TShare.cells (⟨t1, t36⟩ : TShare)))) Try.underlying23 info32 iz32 (by decide +kernel) (by decide +kernel) (by kernel_rfl) _)) h ?_; clear h; intro b38 w h
    refine st_rn (fun r => ex_builtin rfl (fun _ => rfl) r) h ?_; clear h; intro t39 w h
    refine st_val (ex_assign (v := (Sl.v t39)) rfl) ?_
    refine wl_nil ?_
    refine then_n ?_
    refine wp_ret ?_
    refine ret_1 rfl rfl ⟨t39, rfl, h⟩

end Go.Proofs.Ytdoeegfcmbcbkaa.Tr

/- Made by program: typed transformers of the functions, each met by its code. -/
namespace Go.Proofs.Ytdoeegfcmbcbkaa.Tr
open Go Go.Eng
set_option linter.unusedVariables false
set_option maxRecDepth 100000
set_option maxHeartbeats 4000000
/-- strings.Compare; slots 0:a, 1:b, 2:a, 3:b -/
def f134 (t0 : ByteArray) (t1 : ByteArray) (R : (Int) → World → Prop) (w : World) : Prop :=
  Cal Try.prog (Value.int .i64) 154 #[(.string t0), (.string t1)] w fun t7 w =>
  R t7 w
theorem c134 {t0 : ByteArray} {t1 : ByteArray} {R : (Int) → World → Prop} {w : World} (h : f134 t0 t1 R w) :
    Cal Try.prog (Value.int .i64) 134 #[(.string t0), (.string t1)] w R := by
  unfold f134 at h
  refine calls_ Try.func134 Try.ntmps134 rfl rfl ?_
  refine seq_ ?_
  refine region_ ?_
  refine st_val (ex_assign (v := (.int .i64 0)) rfl) ?_
  refine wl_nil ?_
  refine then_n ?_
  refine seq_ ?_
  refine region_ ?_
  refine st_val (ex_move (v := (.string t0)) rfl) ?_
  refine st_val (ex_move (v := (.string t1)) rfl) ?_
  refine st_cal en154 rfl h ?_; clear h; intro t7 w h
  refine st_val (ex_assign (v := (.int .i64 t7)) rfl) ?_
  refine wl_nil ?_
  refine then_n ?_
  refine wp_ret ?_
  refine ret_1 rfl rfl ⟨t7, rfl, h⟩

/-- internal/stringslite.HasPrefix; slots 0:s, 1:prefix, 2:s, 3:prefix -/
def f138 (t0 : ByteArray) (t1 : ByteArray) (R : (Bool) → World → Prop) (w : World) : Prop :=
  Jn (σ := Bool) (fun k1 =>
    if (t1.size : Int) ≤ (t0.size : Int) then
      RnP Try.prog Value.string (Instr.sliceAt 9 (.string t0) none (some (.int .i64 (t1.size : Int))) none) fun t14 =>
      k1 (decide (t14 = t1)) w
    else
      k1 false w
  ) fun s1 w =>
    R s1 w
theorem c138 {t0 : ByteArray} {t1 : ByteArray} {R : (Bool) → World → Prop} {w : World} (h : f138 t0 t1 R w) :
    Cal Try.prog Value.bool 138 #[(.string t0), (.string t1)] w R := by
  unfold f138 at h
  refine calls_ Try.func138 Try.ntmps138 rfl rfl ?_
  refine seq_ ?_
  refine region_ ?_
  refine st_val (ex_assign (v := (.bool false)) rfl) ?_
  refine wl_nil ?_
  refine then_n ?_
  refine wp_jn (σ := Bool) (fun s1 l => ∃ j, l = upds j [(4, (.bool s1))]) h ?_ ?_
  · clear h; rintro s1 _ w ⟨j, rfl⟩ h
    refine wp_ret ?_
    refine ret_1 rfl rfl ⟨s1, rfl, h⟩
  · clear h; intro k1 h
    refine region_ ?_
    refine st_val (ex_move (v := (.string t0)) rfl) ?_
    refine st_val (ex_lenS (s := t0) Try.underlying9 rfl) ?_
    refine st_val (ex_move (v := (.string t1)) rfl) ?_
    refine st_val (ex_lenS (s := t1) Try.underlying9 rfl) ?_
    refine st_val (ex_geq (a := (t0.size : Int)) (b := (t1.size : Int)) rfl rfl) ?_
    refine st_val (ex_move (v := (.bool (decide ((t1.size : Int) ≤ (t0.size : Int))))) rfl) ?_
    by_cases hc2 : (t1.size : Int) ≤ (t0.size : Int)
    · rw [if_pos hc2] at h
      refine st_on (t := 10) (c := (decide ((t1.size : Int) ≤ (t0.size : Int)))) rfl rfl (decide_eq_true hc2) ?_
      refine st_val (ex_move (v := (.string t0)) rfl) ?_
      refine st_on (t := 10) (c := (decide ((t1.size : Int) ≤ (t0.size : Int)))) rfl rfl (decide_eq_true hc2) ?_
      refine st_val (ex_move (v := (.string t1)) rfl) ?_
      refine st_on (t := 10) (c := (decide ((t1.size : Int) ≤ (t0.size : Int)))) rfl rfl (decide_eq_true hc2) ?_
      refine st_val (ex_lenS (s := t1) Try.underlying9 rfl) ?_
      refine st_on (t := 10) (c := (decide ((t1.size : Int) ≤ (t0.size : Int)))) rfl rfl (decide_eq_true hc2) ?_
      refine st_rnp (fun r => ex_slice rfl rfl rfl rfl r) h ?_; clear h; intro t14 h
      refine st_on (t := 10) (c := (decide ((t1.size : Int) ≤ (t0.size : Int)))) rfl rfl (decide_eq_true hc2) ?_
      refine st_val (ex_move (v := (.string t1)) rfl) ?_
      refine st_on (t := 10) (c := (decide ((t1.size : Int) ≤ (t0.size : Int)))) rfl rfl (decide_eq_true hc2) ?_
      refine st_val (ex_eqlS (a := t14) (b := t1) rfl rfl) ?_
      refine st_val (ex_pick1 (b := (decide ((t1.size : Int) ≤ (t0.size : Int)))) rfl (decide_eq_true hc2) (v := (.bool (decide (t14 = t1)))) rfl) ?_
      refine st_val (ex_assign (v := (.bool (decide (t14 = t1)))) rfl) ?_
      refine wl_nil ?_
      exact then_n ⟨(decide (t14 = t1)), _, rfl, mk_upds' (ae rfl ae0), h⟩
    · rw [if_neg hc2] at h
      refine st_off (t := 10) (c := (decide ((t1.size : Int) ≤ (t0.size : Int)))) rfl rfl (decide_eq_false hc2) ?_
      refine st_off (t := 10) (c := (decide ((t1.size : Int) ≤ (t0.size : Int)))) rfl rfl (decide_eq_false hc2) ?_
      refine st_off (t := 10) (c := (decide ((t1.size : Int) ≤ (t0.size : Int)))) rfl rfl (decide_eq_false hc2) ?_
      refine st_off (t := 10) (c := (decide ((t1.size : Int) ≤ (t0.size : Int)))) rfl rfl (decide_eq_false hc2) ?_
      refine st_off (t := 10) (c := (decide ((t1.size : Int) ≤ (t0.size : Int)))) rfl rfl (decide_eq_false hc2) ?_
      refine st_off (t := 10) (c := (decide ((t1.size : Int) ≤ (t0.size : Int)))) rfl rfl (decide_eq_false hc2) ?_
      refine st_val (ex_pick0 (b := (decide ((t1.size : Int) ≤ (t0.size : Int)))) rfl (decide_eq_false hc2) (v := (.bool false)) rfl) ?_
      refine st_val (ex_assign (v := (.bool false)) rfl) ?_
      refine wl_nil ?_
      exact then_n ⟨false, _, rfl, mk_upds' (ae rfl ae0), h⟩

/-- internal/stringslite.HasSuffix; slots 0:s, 1:suffix, 2:s, 3:suffix -/
def f139 (t0 : ByteArray) (t1 : ByteArray) (R : (Bool) → World → Prop) (w : World) : Prop :=
  Jn (σ := Bool) (fun k1 =>
    if (t1.size : Int) ≤ (t0.size : Int) then
      RnP Try.prog Value.string (Instr.sliceAt 9 (.string t0) (some (.int .i64 (IntKind.i64.wrap ((t0.size : Int) - (t1.size : Int))))) none none) fun t17 =>
      k1 (decide (t17 = t1)) w
    else
      k1 false w
  ) fun s1 w =>
    R s1 w
theorem c139 {t0 : ByteArray} {t1 : ByteArray} {R : (Bool) → World → Prop} {w : World} (h : f139 t0 t1 R w) :
    Cal Try.prog Value.bool 139 #[(.string t0), (.string t1)] w R := by
  unfold f139 at h
  refine calls_ Try.func139 Try.ntmps139 rfl rfl ?_
  refine seq_ ?_
  refine region_ ?_
  refine st_val (ex_assign (v := (.bool false)) rfl) ?_
  refine wl_nil ?_
  refine then_n ?_
  refine wp_jn (σ := Bool) (fun s1 l => ∃ j, l = upds j [(4, (.bool s1))]) h ?_ ?_
  · clear h; rintro s1 _ w ⟨j, rfl⟩ h
    refine wp_ret ?_
    refine ret_1 rfl rfl ⟨s1, rfl, h⟩
  · clear h; intro k1 h
    refine region_ ?_
    refine st_val (ex_move (v := (.string t0)) rfl) ?_
    refine st_val (ex_lenS (s := t0) Try.underlying9 rfl) ?_
    refine st_val (ex_move (v := (.string t1)) rfl) ?_
    refine st_val (ex_lenS (s := t1) Try.underlying9 rfl) ?_
    refine st_val (ex_geq (a := (t0.size : Int)) (b := (t1.size : Int)) rfl rfl) ?_
    refine st_val (ex_move (v := (.bool (decide ((t1.size : Int) ≤ (t0.size : Int))))) rfl) ?_
    by_cases hc2 : (t1.size : Int) ≤ (t0.size : Int)
    · rw [if_pos hc2] at h
      refine st_on (t := 10) (c := (decide ((t1.size : Int) ≤ (t0.size : Int)))) rfl rfl (decide_eq_true hc2) ?_
      refine st_val (ex_move (v := (.string t0)) rfl) ?_
      refine st_on (t := 10) (c := (decide ((t1.size : Int) ≤ (t0.size : Int)))) rfl rfl (decide_eq_true hc2) ?_
      refine st_val (ex_move (v := (.string t0)) rfl) ?_
      refine st_on (t := 10) (c := (decide ((t1.size : Int) ≤ (t0.size : Int)))) rfl rfl (decide_eq_true hc2) ?_
      refine st_val (ex_lenS (s := t0) Try.underlying9 rfl) ?_
      refine st_on (t := 10) (c := (decide ((t1.size : Int) ≤ (t0.size : Int)))) rfl rfl (decide_eq_true hc2) ?_
      refine st_val (ex_move (v := (.string t1)) rfl) ?_
      refine st_on (t := 10) (c := (decide ((t1.size : Int) ≤ (t0.size : Int)))) rfl rfl (decide_eq_true hc2) ?_
      refine st_val (ex_lenS (s := t1) Try.underlying9 rfl) ?_
      refine st_on (t := 10) (c := (decide ((t1.size : Int) ≤ (t0.size : Int)))) rfl rfl (decide_eq_true hc2) ?_
      refine st_val (ex_sub (a := (t0.size : Int)) (b := (t1.size : Int)) rfl rfl) ?_
      refine st_on (t := 10) (c := (decide ((t1.size : Int) ≤ (t0.size : Int)))) rfl rfl (decide_eq_true hc2) ?_
      refine st_rnp (fun r => ex_slice rfl rfl rfl rfl r) h ?_; clear h; intro t17 h
      refine st_on (t := 10) (c := (decide ((t1.size : Int) ≤ (t0.size : Int)))) rfl rfl (decide_eq_true hc2) ?_
      refine st_val (ex_move (v := (.string t1)) rfl) ?_
      refine st_on (t := 10) (c := (decide ((t1.size : Int) ≤ (t0.size : Int)))) rfl rfl (decide_eq_true hc2) ?_
      refine st_val (ex_eqlS (a := t17) (b := t1) rfl rfl) ?_
      refine st_val (ex_pick1 (b := (decide ((t1.size : Int) ≤ (t0.size : Int)))) rfl (decide_eq_true hc2) (v := (.bool (decide (t17 = t1)))) rfl) ?_
      refine st_val (ex_assign (v := (.bool (decide (t17 = t1)))) rfl) ?_
      refine wl_nil ?_
      exact then_n ⟨(decide (t17 = t1)), _, rfl, mk_upds' (ae rfl ae0), h⟩
    · rw [if_neg hc2] at h
      refine st_off (t := 10) (c := (decide ((t1.size : Int) ≤ (t0.size : Int)))) rfl rfl (decide_eq_false hc2) ?_
      refine st_off (t := 10) (c := (decide ((t1.size : Int) ≤ (t0.size : Int)))) rfl rfl (decide_eq_false hc2) ?_
      refine st_off (t := 10) (c := (decide ((t1.size : Int) ≤ (t0.size : Int)))) rfl rfl (decide_eq_false hc2) ?_
      refine st_off (t := 10) (c := (decide ((t1.size : Int) ≤ (t0.size : Int)))) rfl rfl (decide_eq_false hc2) ?_
      refine st_off (t := 10) (c := (decide ((t1.size : Int) ≤ (t0.size : Int)))) rfl rfl (decide_eq_false hc2) ?_
      refine st_off (t := 10) (c := (decide ((t1.size : Int) ≤ (t0.size : Int)))) rfl rfl (decide_eq_false hc2) ?_
      refine st_off (t := 10) (c := (decide ((t1.size : Int) ≤ (t0.size : Int)))) rfl rfl (decide_eq_false hc2) ?_
      refine st_off (t := 10) (c := (decide ((t1.size : Int) ≤ (t0.size : Int)))) rfl rfl (decide_eq_false hc2) ?_
      refine st_off (t := 10) (c := (decide ((t1.size : Int) ≤ (t0.size : Int)))) rfl rfl (decide_eq_false hc2) ?_
      refine st_val (ex_pick0 (b := (decide ((t1.size : Int) ≤ (t0.size : Int)))) rfl (decide_eq_false hc2) (v := (.bool false)) rfl) ?_
      refine st_val (ex_assign (v := (.bool false)) rfl) ?_
      refine wl_nil ?_
      exact then_n ⟨false, _, rfl, mk_upds' (ae rfl ae0), h⟩

/-- turnpike/paths.begins; slots 0:s, 1:s -/
def f140 (t0 : ByteArray) (R : (ByteArray × Bool) → World → Prop) (w : World) : Prop :=
  Cal Try.prog (fun x : ByteArray × Bool => Value.tuple #[(.string x.1), (.bool x.2)]) 156 #[(.string t0), (.string (⟨#[42]⟩ : ByteArray))] w fun t5 w =>
  R (t5.1, t5.2) w
theorem c140 {t0 : ByteArray} {R : (ByteArray × Bool) → World → Prop} {w : World} (h : f140 t0 R w) :
    Cal Try.prog (fun x : ByteArray × Bool => Value.tuple #[(.string x.1), (.bool x.2)]) 140 #[(.string t0)] w R := by
  unfold f140 at h
  refine calls_ Try.func140 Try.ntmps140 rfl rfl ?_
  refine seq_ ?_
  refine region_ ?_
  refine st_val (ex_assign (v := (.string (⟨#[]⟩ : ByteArray))) rfl) ?_
  refine st_val (ex_assign (v := (.bool false)) rfl) ?_
  refine wl_nil ?_
  refine then_n ?_
  refine seq_ ?_
  refine region_ ?_
  refine st_val (ex_move (v := (.string t0)) rfl) ?_
  refine st_cal en156 rfl h ?_; clear h; intro t5 w h
  refine st_val (ex_extract (u := (.tuple #[(.string t5.1), (.bool t5.2)])) rfl (v := (.string t5.1)) rfl) ?_
  refine st_val (ex_extract (u := (.tuple #[(.string t5.1), (.bool t5.2)])) rfl (v := (.bool t5.2)) rfl) ?_
  refine st_val (ex_assign (v := (.string t5.1)) rfl) ?_
  refine st_val (ex_assign (v := (.bool t5.2)) rfl) ?_
  refine wl_nil ?_
  refine then_n ?_
  refine wp_ret ?_
  refine ret_2 rfl rfl rfl ⟨(t5.1, t5.2), rfl, h⟩

/-- turnpike/paths.PathPattern; slots 0:s, 1:s, 3:p, 4:ok -/
def f141 (t0 : ByteArray) (R : (Bool) → World → Prop) (w : World) : Prop :=
  Cal Try.prog (fun x : ByteArray × Bool => Value.tuple #[(.string x.1), (.bool x.2)]) 140 #[(.string t0)] w fun t7 w =>
  Jn (σ := Bool) (fun k1 =>
    if t7.2 = true then
      if t7.1 = (⟨#[]⟩ : ByteArray) then
        k1 true w
      else
        Cal Try.prog Value.bool 157 #[(.string t7.1)] w fun t17 w =>
        k1 t17 w
    else
      Cal Try.prog Value.bool 157 #[(.string t7.1)] w fun t17_1 w =>
      k1 t17_1 w
  ) fun s1 w =>
    R s1 w
theorem c141 {t0 : ByteArray} {R : (Bool) → World → Prop} {w : World} (h : f141 t0 R w) :
    Cal Try.prog Value.bool 141 #[(.string t0)] w R := by
  unfold f141 at h
  refine calls_ Try.func141 Try.ntmps141 rfl rfl ?_
  refine seq_ ?_
  refine region_ ?_
  refine st_val (ex_assign (v := (.bool false)) rfl) ?_
  refine wl_nil ?_
  refine then_n ?_
  refine seq_ ?_
  refine region_ ?_
  refine st_val (ex_move (v := (.string t0)) rfl) ?_
  refine st_cal en140 rfl h ?_; clear h; intro t7 w h
  refine st_val (ex_move (v := (.tuple #[(.string t7.1), (.bool t7.2)])) rfl) ?_
  refine st_val (ex_extract (u := (.tuple #[(.string t7.1), (.bool t7.2)])) rfl (v := (.string t7.1)) rfl) ?_
  refine st_val (ex_extract (u := (.tuple #[(.string t7.1), (.bool t7.2)])) rfl (v := (.bool t7.2)) rfl) ?_
  refine st_val (ex_assign (v := (.string t7.1)) rfl) ?_
  refine st_val (ex_assign (v := (.bool t7.2)) rfl) ?_
  refine wl_nil ?_
  refine then_n ?_
  refine wp_jn (σ := Bool) (fun s1 l => ∃ j, l = upds j [(2, (.bool s1))]) h ?_ ?_
  · clear h; rintro s1 _ w ⟨j, rfl⟩ h
    refine wp_ret ?_
    refine ret_1 rfl rfl ⟨s1, rfl, h⟩
  · clear h; intro k1 h
    refine region_ ?_
    refine st_val (ex_move (v := (.bool t7.2)) rfl) ?_
    refine st_val (ex_move (v := (.bool t7.2)) rfl) ?_
    by_cases hc2 : t7.2 = true
    · rw [if_pos hc2] at h
      refine st_on (t := 11) (c := t7.2) rfl rfl hc2 ?_
      refine st_val (ex_move (v := (.string t7.1)) rfl) ?_
      refine st_on (t := 11) (c := t7.2) rfl rfl hc2 ?_
      refine st_val (ex_eqlS (a := t7.1) (b := (⟨#[]⟩ : ByteArray)) rfl rfl) ?_
      refine st_val (ex_pick1 (b := t7.2) rfl hc2 (v := (.bool (decide (t7.1 = (⟨#[]⟩ : ByteArray))))) rfl) ?_
      refine st_val (ex_move (v := (.bool (decide (t7.1 = (⟨#[]⟩ : ByteArray))))) rfl) ?_
      by_cases hc3 : t7.1 = (⟨#[]⟩ : ByteArray)
      · rw [if_pos hc3] at h
        refine st_off (t := 15) (c := (decide (t7.1 = (⟨#[]⟩ : ByteArray)))) rfl rfl (decide_eq_true hc3) ?_
        refine st_off (t := 15) (c := (decide (t7.1 = (⟨#[]⟩ : ByteArray)))) rfl rfl (decide_eq_true hc3) ?_
        refine st_val (ex_pick1 (b := (decide (t7.1 = (⟨#[]⟩ : ByteArray)))) rfl (decide_eq_true hc3) (v := (.bool true)) rfl) ?_
        refine st_val (ex_assign (v := (.bool true)) rfl) ?_
        refine wl_nil ?_
        exact then_n ⟨true, _, rfl, mk_upds' (ae rfl ae0), h⟩
      · rw [if_neg hc3] at h
        refine st_on (t := 15) (c := (decide (t7.1 = (⟨#[]⟩ : ByteArray)))) rfl rfl (decide_eq_false hc3) ?_
        refine st_val (ex_move (v := (.string t7.1)) rfl) ?_
        refine st_on (t := 15) (c := (decide (t7.1 = (⟨#[]⟩ : ByteArray)))) rfl rfl (decide_eq_false hc3) ?_
        refine st_cal en157 rfl h ?_; clear h; intro t17 w h
        refine st_val (ex_pick0 (b := (decide (t7.1 = (⟨#[]⟩ : ByteArray)))) rfl (decide_eq_false hc3) (v := (.bool t17)) rfl) ?_
        refine st_val (ex_assign (v := (.bool t17)) rfl) ?_
        refine wl_nil ?_
        exact then_n ⟨t17, _, rfl, mk_upds' (ae rfl ae0), h⟩
    · rw [if_neg hc2] at h
      refine st_off (t := 11) (c := t7.2) rfl rfl (Bool.eq_false_iff.2 hc2) ?_
      refine st_off (t := 11) (c := t7.2) rfl rfl (Bool.eq_false_iff.2 hc2) ?_
      refine st_val (ex_pick0 (b := t7.2) rfl (Bool.eq_false_iff.2 hc2) (v := (.bool false)) rfl) ?_
      refine st_val (ex_move (v := (.bool false)) rfl) ?_
      refine st_on (t := 15) (c := false) rfl rfl (rfl : false = false) ?_
      refine st_val (ex_move (v := (.string t7.1)) rfl) ?_
      refine st_on (t := 15) (c := false) rfl rfl (rfl : false = false) ?_
      refine st_cal en157 rfl h ?_; clear h; intro t17_1 w h
      refine st_val (ex_pick0 (b := false) rfl (rfl : false = false) (v := (.bool t17_1)) rfl) ?_
      refine st_val (ex_assign (v := (.bool t17_1)) rfl) ?_
      refine wl_nil ?_
      exact then_n ⟨t17_1, _, rfl, mk_upds' (ae rfl ae0), h⟩

/-- turnpike/turnpikeref13.IsPath; slots 0:s, 1:s, 3:i -/
def f142 (t0 : ByteArray) (R : (Bool) → World → Prop) (w : World) : Prop :=
  Lp (σ := Int) (fun s1 w n1 =>
    if s1 < (t0.size : Int) then
      Jn (σ := Bool) (fun k3 =>
        RnP Try.prog (Value.int .u8) (Instr.index 9 (.string t0) (.int .i64 s1)) fun t12 =>
        if t12 < 33 then
          k3 true w
        else
          RnP Try.prog (Value.int .u8) (Instr.index 9 (.string t0) (.int .i64 s1)) fun t17 =>
          k3 (decide (126 < t17)) w
      ) fun s3 w =>
        if s3 = true then
          R false w
        else
          n1 (IntKind.i64.wrap (s1 + 1)) w
    else
      Jn (σ := Bool) (fun k6 =>
        if 1 ≤ (t0.size : Int) then
          if (t0.size : Int) ≤ 256 then
            RnP Try.prog (Value.int .u8) (Instr.index 9 (.string t0) (.int .i64 0)) fun t30 =>
            k6 (decide (t30 = 47)) w
          else
            k6 false w
        else
          k6 false w
      ) fun s6 w =>
        R s6 w
  ) 0 w
theorem c142 {t0 : ByteArray} {R : (Bool) → World → Prop} {w : World} (h : f142 t0 R w) :
    Cal Try.prog Value.bool 142 #[(.string t0)] w R := by
  unfold f142 at h
  refine calls_ Try.func142 Try.ntmps142 rfl rfl ?_
  refine seq_ ?_
  refine region_ ?_
  refine st_val (ex_assign (v := (.bool false)) rfl) ?_
  refine wl_nil ?_
  refine then_n ?_
  refine seq_ ?_
  refine seq_ ?_
  refine region_ ?_
  refine st_val (ex_assign (v := (.int .i64 0)) rfl) ?_
  refine wl_nil ?_
  refine then_n ?_
  refine wp_block ?_
  refine wp_lp (σ := Int) (fun s1 a => ∃ j, a = F 33 (upds j [(0, (.string t0)), (3, (.int .i64 s1))])) h (mk_upds (ae rfl (ae rfl ae0))) ?_
  clear h; rintro s1 _ w n1 ⟨j, rfl⟩ h
  refine seq_ ?_
  refine seq_ ?_
  refine region_ ?_
  refine st_val (ex_move (v := (.int .i64 s1)) rfl) ?_
  refine st_val (ex_move (v := (.string t0)) rfl) ?_
  refine st_val (ex_lenS (s := t0) Try.underlying9 rfl) ?_
  refine st_val (ex_lss (a := s1) (b := (t0.size : Int)) rfl rfl) ?_
  refine wl_nil ?_
  refine then_n ?_
  by_cases hc2 : s1 < (t0.size : Int)
  · rw [if_pos hc2] at h; refine cond_1 (b := (decide (s1 < (t0.size : Int)))) rfl (decide_eq_true hc2) ?_
    refine wp_skip ?_
    refine then_n ?_
    refine seq_ ?_
    refine wp_block ?_
    refine wp_jn (σ := Bool) (fun s3 l => ∃ j, l = upds j [(0, (.string t0)), (3, (.int .i64 s1)), (19, (.bool s3))]) h ?_ ?_
    · clear h; rintro s3 _ w ⟨j, rfl⟩ h
      by_cases hc5 : s3 = true
      · rw [if_pos hc5] at h; refine cond_1 (b := s3) rfl hc5 ?_
        refine seq_ ?_
        refine region_ ?_
        refine st_val (ex_assign (v := (.bool false)) rfl) ?_
        refine wl_nil ?_
        refine then_n ?_
        refine wp_ret ?_
        refine inb_r ?_
        refine then_r ?_
        refine then_r ?_
        refine inb_r ?_
        refine then_r ?_
        refine ret_1 rfl rfl ⟨false, rfl, h⟩
      · rw [if_neg hc5] at h; refine cond_0 (b := s3) rfl (Bool.eq_false_iff.2 hc5) ?_
        refine wp_skip ?_
        refine inb_n ?_
        refine then_n ?_
        refine region_ ?_
        refine st_val (ex_move (v := (.int .i64 s1)) rfl) ?_
        refine st_val (ex_add (a := s1) (b := 1) rfl rfl) ?_
        refine st_val (ex_assign (v := (.int .i64 (IntKind.i64.wrap (s1 + 1)))) rfl) ?_
        refine wl_nil ?_
        exact then_n ⟨(IntKind.i64.wrap (s1 + 1)), mk_upds (ae rfl (ae rfl ae0)), h⟩
    · clear h; intro k3 h
      refine region_ ?_
      refine st_val (ex_move (v := (.string t0)) rfl) ?_
      refine st_val (ex_move (v := (.int .i64 s1)) rfl) ?_
      refine st_rnp (fun r => ex_index rfl rfl r) h ?_; clear h; intro t12 h
      refine st_val (ex_lss (a := t12) (b := 33) rfl rfl) ?_
      refine st_val (ex_move (v := (.bool (decide (t12 < 33)))) rfl) ?_
      by_cases hc4 : t12 < 33
      · rw [if_pos hc4] at h
        refine st_off (t := 14) (c := (decide (t12 < 33))) rfl rfl (decide_eq_true hc4) ?_
        refine st_off (t := 14) (c := (decide (t12 < 33))) rfl rfl (decide_eq_true hc4) ?_
        refine st_off (t := 14) (c := (decide (t12 < 33))) rfl rfl (decide_eq_true hc4) ?_
        refine st_off (t := 14) (c := (decide (t12 < 33))) rfl rfl (decide_eq_true hc4) ?_
        refine st_val (ex_pick1 (b := (decide (t12 < 33))) rfl (decide_eq_true hc4) (v := (.bool true)) rfl) ?_
        refine wl_nil ?_
        exact then_n ⟨true, _, rfl, mk_upds' (ae rfl (ae rfl (ae rfl ae0))), h⟩
      · rw [if_neg hc4] at h
        refine st_on (t := 14) (c := (decide (t12 < 33))) rfl rfl (decide_eq_false hc4) ?_
        refine st_val (ex_move (v := (.string t0)) rfl) ?_
        refine st_on (t := 14) (c := (decide (t12 < 33))) rfl rfl (decide_eq_false hc4) ?_
        refine st_val (ex_move (v := (.int .i64 s1)) rfl) ?_
        refine st_on (t := 14) (c := (decide (t12 < 33))) rfl rfl (decide_eq_false hc4) ?_
        refine st_rnp (fun r => ex_index rfl rfl r) h ?_; clear h; intro t17 h
        refine st_on (t := 14) (c := (decide (t12 < 33))) rfl rfl (decide_eq_false hc4) ?_
        refine st_val (ex_gtr (a := t17) (b := 126) rfl rfl) ?_
        refine st_val (ex_pick0 (b := (decide (t12 < 33))) rfl (decide_eq_false hc4) (v := (.bool (decide (126 < t17)))) rfl) ?_
        refine wl_nil ?_
        exact then_n ⟨(decide (126 < t17)), _, rfl, mk_upds' (ae rfl (ae rfl (ae rfl ae0))), h⟩
  · rw [if_neg hc2] at h; refine cond_0 (b := (decide (s1 < (t0.size : Int)))) rfl (decide_eq_false hc2) ?_
    refine wp_exit ?_
    refine then_e ?_
    refine then_e ?_
    refine inb_e ?_
    refine then_n ?_
    refine wp_jn (σ := Bool) (fun s6 l => ∃ j, l = upds j [(2, (.bool s6))]) h ?_ ?_
    · clear h; rintro s6 _ w ⟨j, rfl⟩ h
      refine wp_ret ?_
      refine ret_1 rfl rfl ⟨s6, rfl, h⟩
    · clear h; intro k6 h
      refine region_ ?_
      refine st_val (ex_move (v := (.string t0)) rfl) ?_
      refine st_val (ex_lenS (s := t0) Try.underlying9 rfl) ?_
      refine st_val (ex_geq (a := (t0.size : Int)) (b := 1) rfl rfl) ?_
      refine st_val (ex_move (v := (.bool (decide (1 ≤ (t0.size : Int))))) rfl) ?_
      by_cases hc7 : 1 ≤ (t0.size : Int)
      · rw [if_pos hc7] at h
        refine st_on (t := 23) (c := (decide (1 ≤ (t0.size : Int)))) rfl rfl (decide_eq_true hc7) ?_
        refine st_val (ex_move (v := (.string t0)) rfl) ?_
        refine st_on (t := 23) (c := (decide (1 ≤ (t0.size : Int)))) rfl rfl (decide_eq_true hc7) ?_
        refine st_val (ex_lenS (s := t0) Try.underlying9 rfl) ?_
        refine st_on (t := 23) (c := (decide (1 ≤ (t0.size : Int)))) rfl rfl (decide_eq_true hc7) ?_
        refine st_val (ex_leq (a := (t0.size : Int)) (b := 256) rfl rfl) ?_
        refine st_val (ex_pick1 (b := (decide (1 ≤ (t0.size : Int)))) rfl (decide_eq_true hc7) (v := (.bool (decide ((t0.size : Int) ≤ 256)))) rfl) ?_
        refine st_val (ex_move (v := (.bool (decide ((t0.size : Int) ≤ 256)))) rfl) ?_
        by_cases hc8 : (t0.size : Int) ≤ 256
        · rw [if_pos hc8] at h
          refine st_on (t := 28) (c := (decide ((t0.size : Int) ≤ 256))) rfl rfl (decide_eq_true hc8) ?_
          refine st_val (ex_move (v := (.string t0)) rfl) ?_
          refine st_on (t := 28) (c := (decide ((t0.size : Int) ≤ 256))) rfl rfl (decide_eq_true hc8) ?_
          refine st_rnp (fun r => ex_index rfl rfl r) h ?_; clear h; intro t30 h
          refine st_on (t := 28) (c := (decide ((t0.size : Int) ≤ 256))) rfl rfl (decide_eq_true hc8) ?_
          refine st_val (ex_eql (a := t30) (b := 47) rfl rfl) ?_
          refine st_val (ex_pick1 (b := (decide ((t0.size : Int) ≤ 256))) rfl (decide_eq_true hc8) (v := (.bool (decide (t30 = 47)))) rfl) ?_
          refine st_val (ex_assign (v := (.bool (decide (t30 = 47)))) rfl) ?_
          refine wl_nil ?_
          exact then_n ⟨(decide (t30 = 47)), _, rfl, mk_upds' (ae rfl ae0), h⟩
        · rw [if_neg hc8] at h
          refine st_off (t := 28) (c := (decide ((t0.size : Int) ≤ 256))) rfl rfl (decide_eq_false hc8) ?_
          refine st_off (t := 28) (c := (decide ((t0.size : Int) ≤ 256))) rfl rfl (decide_eq_false hc8) ?_
          refine st_off (t := 28) (c := (decide ((t0.size : Int) ≤ 256))) rfl rfl (decide_eq_false hc8) ?_
          refine st_val (ex_pick0 (b := (decide ((t0.size : Int) ≤ 256))) rfl (decide_eq_false hc8) (v := (.bool false)) rfl) ?_
          refine st_val (ex_assign (v := (.bool false)) rfl) ?_
          refine wl_nil ?_
          exact then_n ⟨false, _, rfl, mk_upds' (ae rfl ae0), h⟩
      · rw [if_neg hc7] at h
        refine st_off (t := 23) (c := (decide (1 ≤ (t0.size : Int)))) rfl rfl (decide_eq_false hc7) ?_
        refine st_off (t := 23) (c := (decide (1 ≤ (t0.size : Int)))) rfl rfl (decide_eq_false hc7) ?_
        refine st_off (t := 23) (c := (decide (1 ≤ (t0.size : Int)))) rfl rfl (decide_eq_false hc7) ?_
        refine st_val (ex_pick0 (b := (decide (1 ≤ (t0.size : Int)))) rfl (decide_eq_false hc7) (v := (.bool false)) rfl) ?_
        refine st_val (ex_move (v := (.bool false)) rfl) ?_
        refine st_off (t := 28) (c := false) rfl rfl (rfl : false = !true) ?_
        refine st_off (t := 28) (c := false) rfl rfl (rfl : false = !true) ?_
        refine st_off (t := 28) (c := false) rfl rfl (rfl : false = !true) ?_
        refine st_val (ex_pick0 (b := false) rfl (rfl : false = false) (v := (.bool false)) rfl) ?_
        refine st_val (ex_assign (v := (.bool false)) rfl) ?_
        refine wl_nil ?_
        exact then_n ⟨false, _, rfl, mk_upds' (ae rfl ae0), h⟩

/-- turnpike/turnpikeref13.ends; slots 0:s, 1:t, 2:s, 3:t -/
def f143 (t0 : ByteArray) (t1 : ByteArray) (R : (Bool) → World → Prop) (w : World) : Prop :=
  Jn (σ := Bool) (fun k1 =>
    if (t1.size : Int) ≤ (t0.size : Int) then
      RnP Try.prog Value.string (Instr.sliceAt 9 (.string t0) (some (.int .i64 (IntKind.i64.wrap ((t0.size : Int) - (t1.size : Int))))) none none) fun t17 =>
      k1 (decide (t17 = t1)) w
    else
      k1 false w
  ) fun s1 w =>
    R s1 w
theorem c143 {t0 : ByteArray} {t1 : ByteArray} {R : (Bool) → World → Prop} {w : World} (h : f143 t0 t1 R w) :
    Cal Try.prog Value.bool 143 #[(.string t0), (.string t1)] w R := by
  unfold f143 at h
  refine calls_ Try.func143 Try.ntmps143 rfl rfl ?_
  refine seq_ ?_
  refine region_ ?_
  refine st_val (ex_assign (v := (.bool false)) rfl) ?_
  refine wl_nil ?_
  refine then_n ?_
  refine wp_jn (σ := Bool) (fun s1 l => ∃ j, l = upds j [(4, (.bool s1))]) h ?_ ?_
  · clear h; rintro s1 _ w ⟨j, rfl⟩ h
    refine wp_ret ?_
    refine ret_1 rfl rfl ⟨s1, rfl, h⟩
  · clear h; intro k1 h
    refine region_ ?_
    refine st_val (ex_move (v := (.string t0)) rfl) ?_
    refine st_val (ex_lenS (s := t0) Try.underlying9 rfl) ?_
    refine st_val (ex_move (v := (.string t1)) rfl) ?_
    refine st_val (ex_lenS (s := t1) Try.underlying9 rfl) ?_
    refine st_val (ex_geq (a := (t0.size : Int)) (b := (t1.size : Int)) rfl rfl) ?_
    refine st_val (ex_move (v := (.bool (decide ((t1.size : Int) ≤ (t0.size : Int))))) rfl) ?_
    by_cases hc2 : (t1.size : Int) ≤ (t0.size : Int)
    · rw [if_pos hc2] at h
      refine st_on (t := 10) (c := (decide ((t1.size : Int) ≤ (t0.size : Int)))) rfl rfl (decide_eq_true hc2) ?_
      refine st_val (ex_move (v := (.string t0)) rfl) ?_
      refine st_on (t := 10) (c := (decide ((t1.size : Int) ≤ (t0.size : Int)))) rfl rfl (decide_eq_true hc2) ?_
      refine st_val (ex_move (v := (.string t0)) rfl) ?_
      refine st_on (t := 10) (c := (decide ((t1.size : Int) ≤ (t0.size : Int)))) rfl rfl (decide_eq_true hc2) ?_
      refine st_val (ex_lenS (s := t0) Try.underlying9 rfl) ?_
      refine st_on (t := 10) (c := (decide ((t1.size : Int) ≤ (t0.size : Int)))) rfl rfl (decide_eq_true hc2) ?_
      refine st_val (ex_move (v := (.string t1)) rfl) ?_
      refine st_on (t := 10) (c := (decide ((t1.size : Int) ≤ (t0.size : Int)))) rfl rfl (decide_eq_true hc2) ?_
      refine st_val (ex_lenS (s := t1) Try.underlying9 rfl) ?_
      refine st_on (t := 10) (c := (decide ((t1.size : Int) ≤ (t0.size : Int)))) rfl rfl (decide_eq_true hc2) ?_
      refine st_val (ex_sub (a := (t0.size : Int)) (b := (t1.size : Int)) rfl rfl) ?_
      refine st_on (t := 10) (c := (decide ((t1.size : Int) ≤ (t0.size : Int)))) rfl rfl (decide_eq_true hc2) ?_
      refine st_rnp (fun r => ex_slice rfl rfl rfl rfl r) h ?_; clear h; intro t17 h
      refine st_on (t := 10) (c := (decide ((t1.size : Int) ≤ (t0.size : Int)))) rfl rfl (decide_eq_true hc2) ?_
      refine st_val (ex_move (v := (.string t1)) rfl) ?_
      refine st_on (t := 10) (c := (decide ((t1.size : Int) ≤ (t0.size : Int)))) rfl rfl (decide_eq_true hc2) ?_
      refine st_val (ex_eqlS (a := t17) (b := t1) rfl rfl) ?_
      refine st_val (ex_pick1 (b := (decide ((t1.size : Int) ≤ (t0.size : Int)))) rfl (decide_eq_true hc2) (v := (.bool (decide (t17 = t1)))) rfl) ?_
      refine st_val (ex_assign (v := (.bool (decide (t17 = t1)))) rfl) ?_
      refine wl_nil ?_
      exact then_n ⟨(decide (t17 = t1)), _, rfl, mk_upds' (ae rfl ae0), h⟩
    · rw [if_neg hc2] at h
      refine st_off (t := 10) (c := (decide ((t1.size : Int) ≤ (t0.size : Int)))) rfl rfl (decide_eq_false hc2) ?_
      refine st_off (t := 10) (c := (decide ((t1.size : Int) ≤ (t0.size : Int)))) rfl rfl (decide_eq_false hc2) ?_
      refine st_off (t := 10) (c := (decide ((t1.size : Int) ≤ (t0.size : Int)))) rfl rfl (decide_eq_false hc2) ?_
      refine st_off (t := 10) (c := (decide ((t1.size : Int) ≤ (t0.size : Int)))) rfl rfl (decide_eq_false hc2) ?_
      refine st_off (t := 10) (c := (decide ((t1.size : Int) ≤ (t0.size : Int)))) rfl rfl (decide_eq_false hc2) ?_
      refine st_off (t := 10) (c := (decide ((t1.size : Int) ≤ (t0.size : Int)))) rfl rfl (decide_eq_false hc2) ?_
      refine st_off (t := 10) (c := (decide ((t1.size : Int) ≤ (t0.size : Int)))) rfl rfl (decide_eq_false hc2) ?_
      refine st_off (t := 10) (c := (decide ((t1.size : Int) ≤ (t0.size : Int)))) rfl rfl (decide_eq_false hc2) ?_
      refine st_off (t := 10) (c := (decide ((t1.size : Int) ≤ (t0.size : Int)))) rfl rfl (decide_eq_false hc2) ?_
      refine st_val (ex_pick0 (b := (decide ((t1.size : Int) ≤ (t0.size : Int)))) rfl (decide_eq_false hc2) (v := (.bool false)) rfl) ?_
      refine st_val (ex_assign (v := (.bool false)) rfl) ?_
      refine wl_nil ?_
      exact then_n ⟨false, _, rfl, mk_upds' (ae rfl ae0), h⟩


end Go.Proofs.Ytdoeegfcmbcbkaa.Tr

/- Made by program: typed transformers of the functions, each met by its code. -/
namespace Go.Proofs.Ytdoeegfcmbcbkaa.Tr
open Go Go.Eng
set_option linter.unusedVariables false
set_option maxRecDepth 100000
set_option maxHeartbeats 4000000
/-- internal/bytealg.CompareString; slots 0:a, 1:b, 2:a, 3:b -/
def f154 (t0 : ByteArray) (t1 : ByteArray) (R : (Int) → World → Prop) (w : World) : Prop :=
  Rx Try.prog (Value.int .i64) 163 #[(.string t0), (.string t1)] w fun t7 w =>
  R t7 w
theorem c154 {t0 : ByteArray} {t1 : ByteArray} {R : (Int) → World → Prop} {w : World} (h : f154 t0 t1 R w) :
    Cal Try.prog (Value.int .i64) 154 #[(.string t0), (.string t1)] w R := by
  unfold f154 at h
  refine calls_ Try.func154 Try.ntmps154 rfl rfl ?_
  refine seq_ ?_
  refine region_ ?_
  refine st_val (ex_assign (v := (.int .i64 0)) rfl) ?_
  refine wl_nil ?_
  refine then_n ?_
  refine seq_ ?_
  refine region_ ?_
  refine st_val (ex_move (v := (.string t0)) rfl) ?_
  refine st_val (ex_move (v := (.string t1)) rfl) ?_
  refine st_rx rfl h ?_; clear h; intro t7 w h
  refine st_val (ex_assign (v := (.int .i64 t7)) rfl) ?_
  refine wl_nil ?_
  refine then_n ?_
  refine wp_ret ?_
  refine ret_1 rfl rfl ⟨t7, rfl, h⟩

/-- strings.CutSuffix; slots 0:s, 1:suffix, 2:s, 3:suffix, 4:before, 5:found -/
def f156 (t0 : ByteArray) (t1 : ByteArray) (R : (ByteArray × Bool) → World → Prop) (w : World) : Prop :=
  Cal Try.prog (fun x : ByteArray × Bool => Value.tuple #[(.string x.1), (.bool x.2)]) 165 #[(.string t0), (.string t1)] w fun t8 w =>
  R (t8.1, t8.2) w
theorem c156 {t0 : ByteArray} {t1 : ByteArray} {R : (ByteArray × Bool) → World → Prop} {w : World} (h : f156 t0 t1 R w) :
    Cal Try.prog (fun x : ByteArray × Bool => Value.tuple #[(.string x.1), (.bool x.2)]) 156 #[(.string t0), (.string t1)] w R := by
  unfold f156 at h
  refine calls_ Try.func156 Try.ntmps156 rfl rfl ?_
  refine seq_ ?_
  refine region_ ?_
  refine st_val (ex_assign (v := (.string (⟨#[]⟩ : ByteArray))) rfl) ?_
  refine st_val (ex_assign (v := (.bool false)) rfl) ?_
  refine wl_nil ?_
  refine then_n ?_
  refine seq_ ?_
  refine region_ ?_
  refine st_val (ex_move (v := (.string t0)) rfl) ?_
  refine st_val (ex_move (v := (.string t1)) rfl) ?_
  refine st_cal en165 rfl h ?_; clear h; intro t8 w h
  refine st_val (ex_extract (u := (.tuple #[(.string t8.1), (.bool t8.2)])) rfl (v := (.string t8.1)) rfl) ?_
  refine st_val (ex_extract (u := (.tuple #[(.string t8.1), (.bool t8.2)])) rfl (v := (.bool t8.2)) rfl) ?_
  refine st_val (ex_assign (v := (.string t8.1)) rfl) ?_
  refine st_val (ex_assign (v := (.bool t8.2)) rfl) ?_
  refine wl_nil ?_
  refine then_n ?_
  refine wp_ret ?_
  refine ret_2 rfl rfl rfl ⟨(t8.1, t8.2), rfl, h⟩

/-- turnpike/paths.path; slots 0:s, 1:s, 3:i -/
def f157 (t0 : ByteArray) (R : (Bool) → World → Prop) (w : World) : Prop :=
  Jn (σ := Bool) (fun k1 =>
    if (t0.size : Int) < 1 then
      k1 true w
    else
      if 256 < (t0.size : Int) then
        k1 true w
      else
        RnP Try.prog (Value.int .u8) (Instr.index 9 (.string t0) (.int .i64 0)) fun t14 =>
        k1 (decide (t14 ≠ 47)) w
  ) fun s1 w =>
    if s1 = true then
      R false w
    else
      Lp (σ := Int) (fun s5 w n5 =>
        if s5 < (t0.size : Int) then
          Jn (σ := Bool) (fun k7 =>
            RnP Try.prog (Value.int .u8) (Instr.index 9 (.string t0) (.int .i64 s5)) fun t24 =>
            if t24 < 33 then
              k7 true w
            else
              RnP Try.prog (Value.int .u8) (Instr.index 9 (.string t0) (.int .i64 s5)) fun t29 =>
              k7 (decide (126 < t29)) w
          ) fun s7 w =>
            if s7 = true then
              R false w
            else
              n5 (IntKind.i64.wrap (s5 + 1)) w
        else
          R true w
      ) 0 w
theorem c157 {t0 : ByteArray} {R : (Bool) → World → Prop} {w : World} (h : f157 t0 R w) :
    Cal Try.prog Value.bool 157 #[(.string t0)] w R := by
  unfold f157 at h
  refine calls_ Try.func157 Try.ntmps157 rfl rfl ?_
  refine seq_ ?_
  refine region_ ?_
  refine st_val (ex_assign (v := (.bool false)) rfl) ?_
  refine wl_nil ?_
  refine then_n ?_
  refine seq_ ?_
  refine wp_jn (σ := Bool) (fun s1 l => ∃ j, l = upds j [(0, (.string t0)), (16, (.bool s1))]) h ?_ ?_
  · clear h; rintro s1 _ w ⟨j, rfl⟩ h
    by_cases hc4 : s1 = true
    · rw [if_pos hc4] at h; refine cond_1 (b := s1) rfl hc4 ?_
      refine seq_ ?_
      refine region_ ?_
      refine st_val (ex_assign (v := (.bool false)) rfl) ?_
      refine wl_nil ?_
      refine then_n ?_
      refine wp_ret ?_
      refine then_r ?_
      refine ret_1 rfl rfl ⟨false, rfl, h⟩
    · rw [if_neg hc4] at h; refine cond_0 (b := s1) rfl (Bool.eq_false_iff.2 hc4) ?_
      refine wp_skip ?_
      refine then_n ?_
      refine seq_ ?_
      refine seq_ ?_
      refine region_ ?_
      refine st_val (ex_move (v := (.string t0)) rfl) ?_
      refine st_val (ex_lenS (s := t0) Try.underlying9 rfl) ?_
      refine st_val (ex_move (v := (.int .i64 0)) rfl) ?_
      refine wl_nil ?_
      refine then_n ?_
      refine wp_block ?_
      refine wp_lp (σ := Int) (fun s5 a => ∃ j, a = F 33 (upds j [(0, (.string t0)), (18, (.int .i64 (t0.size : Int))), (19, (.int .i64 s5))])) h (mk_upds (ae rfl (ae rfl (ae rfl ae0)))) ?_
      clear h; rintro s5 _ w n5 ⟨j, rfl⟩ h
      refine seq_ ?_
      refine region_ ?_
      refine st_val (ex_lss (a := s5) (b := (t0.size : Int)) rfl rfl) ?_
      refine wl_nil ?_
      refine then_n ?_
      refine seq_ ?_
      by_cases hc6 : s5 < (t0.size : Int)
      · rw [if_pos hc6] at h; refine cond_1 (b := (decide (s5 < (t0.size : Int)))) rfl (decide_eq_true hc6) ?_
        refine wp_skip ?_
        refine then_n ?_
        refine seq_ ?_
        refine wp_block ?_
        refine seq_ ?_
        refine region_ ?_
        refine st_val (ex_move (v := (.int .i64 s5)) rfl) ?_
        refine st_val (ex_assign (v := (.int .i64 s5)) rfl) ?_
        refine wl_nil ?_
        refine then_n ?_
        refine wp_jn (σ := Bool) (fun s7 l => ∃ j, l = upds j [(0, (.string t0)), (18, (.int .i64 (t0.size : Int))), (19, (.int .i64 s5)), (31, (.bool s7))]) h ?_ ?_
        · clear h; rintro s7 _ w ⟨j, rfl⟩ h
          by_cases hc9 : s7 = true
          · rw [if_pos hc9] at h; refine cond_1 (b := s7) rfl hc9 ?_
            refine seq_ ?_
            refine region_ ?_
            refine st_val (ex_assign (v := (.bool false)) rfl) ?_
            refine wl_nil ?_
            refine then_n ?_
            refine wp_ret ?_
            refine inb_r ?_
            refine then_r ?_
            refine then_r ?_
            refine inb_r ?_
            refine then_r ?_
            refine ret_1 rfl rfl ⟨false, rfl, h⟩
          · rw [if_neg hc9] at h; refine cond_0 (b := s7) rfl (Bool.eq_false_iff.2 hc9) ?_
            refine wp_skip ?_
            refine inb_n ?_
            refine then_n ?_
            refine region_ ?_
            refine st_val (ex_add (a := s5) (b := 1) rfl rfl) ?_
            refine st_val (ex_move (v := (.int .i64 (IntKind.i64.wrap (s5 + 1)))) rfl) ?_
            refine wl_nil ?_
            exact then_n ⟨(IntKind.i64.wrap (s5 + 1)), mk_upds (ae rfl (ae rfl (ae rfl ae0))), h⟩
        · clear h; intro k7 h
          refine region_ ?_
          refine st_val (ex_move (v := (.string t0)) rfl) ?_
          refine st_val (ex_move (v := (.int .i64 s5)) rfl) ?_
          refine st_rnp (fun r => ex_index rfl rfl r) h ?_; clear h; intro t24 h
          refine st_val (ex_lss (a := t24) (b := 33) rfl rfl) ?_
          refine st_val (ex_move (v := (.bool (decide (t24 < 33)))) rfl) ?_
          by_cases hc8 : t24 < 33
          · rw [if_pos hc8] at h
            refine st_off (t := 26) (c := (decide (t24 < 33))) rfl rfl (decide_eq_true hc8) ?_
            refine st_off (t := 26) (c := (decide (t24 < 33))) rfl rfl (decide_eq_true hc8) ?_
            refine st_off (t := 26) (c := (decide (t24 < 33))) rfl rfl (decide_eq_true hc8) ?_
            refine st_off (t := 26) (c := (decide (t24 < 33))) rfl rfl (decide_eq_true hc8) ?_
            refine st_val (ex_pick1 (b := (decide (t24 < 33))) rfl (decide_eq_true hc8) (v := (.bool true)) rfl) ?_
            refine wl_nil ?_
            exact then_n ⟨true, _, rfl, mk_upds' (ae rfl (ae rfl (ae rfl (ae rfl ae0)))), h⟩
          · rw [if_neg hc8] at h
            refine st_on (t := 26) (c := (decide (t24 < 33))) rfl rfl (decide_eq_false hc8) ?_
            refine st_val (ex_move (v := (.string t0)) rfl) ?_
            refine st_on (t := 26) (c := (decide (t24 < 33))) rfl rfl (decide_eq_false hc8) ?_
            refine st_val (ex_move (v := (.int .i64 s5)) rfl) ?_
            refine st_on (t := 26) (c := (decide (t24 < 33))) rfl rfl (decide_eq_false hc8) ?_
            refine st_rnp (fun r => ex_index rfl rfl r) h ?_; clear h; intro t29 h
            refine st_on (t := 26) (c := (decide (t24 < 33))) rfl rfl (decide_eq_false hc8) ?_
            refine st_val (ex_gtr (a := t29) (b := 126) rfl rfl) ?_
            refine st_val (ex_pick0 (b := (decide (t24 < 33))) rfl (decide_eq_false hc8) (v := (.bool (decide (126 < t29)))) rfl) ?_
            refine wl_nil ?_
            exact then_n ⟨(decide (126 < t29)), _, rfl, mk_upds' (ae rfl (ae rfl (ae rfl (ae rfl ae0)))), h⟩
      · rw [if_neg hc6] at h; refine cond_0 (b := (decide (s5 < (t0.size : Int)))) rfl (decide_eq_false hc6) ?_
        refine wp_exit ?_
        refine then_e ?_
        refine then_e ?_
        refine inb_e ?_
        refine then_n ?_
        refine seq_ ?_
        refine region_ ?_
        refine st_val (ex_assign (v := (.bool true)) rfl) ?_
        refine wl_nil ?_
        refine then_n ?_
        refine wp_ret ?_
        refine ret_1 rfl rfl ⟨true, rfl, h⟩
  · clear h; intro k1 h
    refine region_ ?_
    refine st_val (ex_move (v := (.string t0)) rfl) ?_
    refine st_val (ex_lenS (s := t0) Try.underlying9 rfl) ?_
    refine st_val (ex_lss (a := (t0.size : Int)) (b := 1) rfl rfl) ?_
    refine st_val (ex_move (v := (.bool (decide ((t0.size : Int) < 1)))) rfl) ?_
    by_cases hc2 : (t0.size : Int) < 1
    · rw [if_pos hc2] at h
      refine st_off (t := 7) (c := (decide ((t0.size : Int) < 1))) rfl rfl (decide_eq_true hc2) ?_
      refine st_off (t := 7) (c := (decide ((t0.size : Int) < 1))) rfl rfl (decide_eq_true hc2) ?_
      refine st_off (t := 7) (c := (decide ((t0.size : Int) < 1))) rfl rfl (decide_eq_true hc2) ?_
      refine st_val (ex_pick1 (b := (decide ((t0.size : Int) < 1))) rfl (decide_eq_true hc2) (v := (.bool true)) rfl) ?_
      refine st_val (ex_move (v := (.bool true)) rfl) ?_
      refine st_off (t := 12) (c := true) rfl rfl (rfl : true = !false) ?_
      refine st_off (t := 12) (c := true) rfl rfl (rfl : true = !false) ?_
      refine st_off (t := 12) (c := true) rfl rfl (rfl : true = !false) ?_
      refine st_val (ex_pick1 (b := true) rfl (rfl : true = true) (v := (.bool true)) rfl) ?_
      refine wl_nil ?_
      exact then_n ⟨true, _, rfl, mk_upds' (ae rfl (ae rfl ae0)), h⟩
    · rw [if_neg hc2] at h
      refine st_on (t := 7) (c := (decide ((t0.size : Int) < 1))) rfl rfl (decide_eq_false hc2) ?_
      refine st_val (ex_move (v := (.string t0)) rfl) ?_
      refine st_on (t := 7) (c := (decide ((t0.size : Int) < 1))) rfl rfl (decide_eq_false hc2) ?_
      refine st_val (ex_lenS (s := t0) Try.underlying9 rfl) ?_
      refine st_on (t := 7) (c := (decide ((t0.size : Int) < 1))) rfl rfl (decide_eq_false hc2) ?_
      refine st_val (ex_gtr (a := (t0.size : Int)) (b := 256) rfl rfl) ?_
      refine st_val (ex_pick0 (b := (decide ((t0.size : Int) < 1))) rfl (decide_eq_false hc2) (v := (.bool (decide (256 < (t0.size : Int))))) rfl) ?_
      refine st_val (ex_move (v := (.bool (decide (256 < (t0.size : Int))))) rfl) ?_
      by_cases hc3 : 256 < (t0.size : Int)
      · rw [if_pos hc3] at h
        refine st_off (t := 12) (c := (decide (256 < (t0.size : Int)))) rfl rfl (decide_eq_true hc3) ?_
        refine st_off (t := 12) (c := (decide (256 < (t0.size : Int)))) rfl rfl (decide_eq_true hc3) ?_
        refine st_off (t := 12) (c := (decide (256 < (t0.size : Int)))) rfl rfl (decide_eq_true hc3) ?_
        refine st_val (ex_pick1 (b := (decide (256 < (t0.size : Int)))) rfl (decide_eq_true hc3) (v := (.bool true)) rfl) ?_
        refine wl_nil ?_
        exact then_n ⟨true, _, rfl, mk_upds' (ae rfl (ae rfl ae0)), h⟩
      · rw [if_neg hc3] at h
        refine st_on (t := 12) (c := (decide (256 < (t0.size : Int)))) rfl rfl (decide_eq_false hc3) ?_
        refine st_val (ex_move (v := (.string t0)) rfl) ?_
        refine st_on (t := 12) (c := (decide (256 < (t0.size : Int)))) rfl rfl (decide_eq_false hc3) ?_
        refine st_rnp (fun r => ex_index rfl rfl r) h ?_; clear h; intro t14 h
        refine st_on (t := 12) (c := (decide (256 < (t0.size : Int)))) rfl rfl (decide_eq_false hc3) ?_
        refine st_val (ex_neq (a := t14) (b := 47) rfl rfl) ?_
        refine st_val (ex_pick0 (b := (decide (256 < (t0.size : Int)))) rfl (decide_eq_false hc3) (v := (.bool (decide (t14 ≠ 47)))) rfl) ?_
        refine wl_nil ?_
        exact then_n ⟨(decide (t14 ≠ 47)), _, rfl, mk_upds' (ae rfl (ae rfl ae0)), h⟩

/-- internal/stringslite.CutSuffix; slots 0:s, 1:suffix, 2:s, 3:suffix, 4:before, 5:found -/
def f165 (t0 : ByteArray) (t1 : ByteArray) (R : (ByteArray × Bool) → World → Prop) (w : World) : Prop :=
  Cal Try.prog Value.bool 139 #[(.string t0), (.string t1)] w fun t8 w =>
  if (!t8) = true then
    R (t0, false) w
  else
    RnP Try.prog Value.string (Instr.sliceAt 9 (.string t0) none (some (.int .i64 (IntKind.i64.wrap ((t0.size : Int) - (t1.size : Int))))) none) fun t17 =>
    R (t17, true) w
theorem c165 {t0 : ByteArray} {t1 : ByteArray} {R : (ByteArray × Bool) → World → Prop} {w : World} (h : f165 t0 t1 R w) :
    Cal Try.prog (fun x : ByteArray × Bool => Value.tuple #[(.string x.1), (.bool x.2)]) 165 #[(.string t0), (.string t1)] w R := by
  unfold f165 at h
  refine calls_ Try.func165 Try.ntmps165 rfl rfl ?_
  refine seq_ ?_
  refine region_ ?_
  refine st_val (ex_assign (v := (.string (⟨#[]⟩ : ByteArray))) rfl) ?_
  refine st_val (ex_assign (v := (.bool false)) rfl) ?_
  refine wl_nil ?_
  refine then_n ?_
  refine seq_ ?_
  refine seq_ ?_
  refine region_ ?_
  refine st_val (ex_move (v := (.string t0)) rfl) ?_
  refine st_val (ex_move (v := (.string t1)) rfl) ?_
  refine st_cal en139 rfl h ?_; clear h; intro t8 w h
  refine st_val (ex_not (b := t8) rfl) ?_
  refine wl_nil ?_
  refine then_n ?_
  by_cases hc1 : (!t8) = true
  · rw [if_pos hc1] at h; refine cond_1 (b := (!t8)) rfl hc1 ?_
    refine seq_ ?_
    refine region_ ?_
    refine st_val (ex_move (v := (.string t0)) rfl) ?_
    refine st_val (ex_assign (v := (.string t0)) rfl) ?_
    refine st_val (ex_assign (v := (.bool false)) rfl) ?_
    refine wl_nil ?_
    refine then_n ?_
    refine wp_ret ?_
    refine then_r ?_
    refine ret_2 rfl rfl rfl ⟨(t0, false), rfl, h⟩
  · rw [if_neg hc1] at h; refine cond_0 (b := (!t8)) rfl (Bool.eq_false_iff.2 hc1) ?_
    refine wp_skip ?_
    refine then_n ?_
    refine seq_ ?_
    refine region_ ?_
    refine st_val (ex_move (v := (.string t0)) rfl) ?_
    refine st_val (ex_move (v := (.string t0)) rfl) ?_
    refine st_val (ex_lenS (s := t0) Try.underlying9 rfl) ?_
    refine st_val (ex_move (v := (.string t1)) rfl) ?_
    refine st_val (ex_lenS (s := t1) Try.underlying9 rfl) ?_
    refine st_val (ex_sub (a := (t0.size : Int)) (b := (t1.size : Int)) rfl rfl) ?_
    refine st_rnp (fun r => ex_slice rfl rfl rfl rfl r) h ?_; clear h; intro t17 h
    refine st_val (ex_assign (v := (.string t17)) rfl) ?_
    refine st_val (ex_assign (v := (.bool true)) rfl) ?_
    refine wl_nil ?_
    refine then_n ?_
    refine wp_ret ?_
    refine ret_2 rfl rfl rfl ⟨(t17, true), rfl, h⟩


end Go.Proofs.Ytdoeegfcmbcbkaa.Tr

/- Memory: what a slice or a block reads as, and one law for each form that a transformer has. -/
namespace Go.Eng
open Go
set_option linter.unusedVariables false

/-! ### Cells in a row, and blocks known whole -/
def At (w : World) (p : Addr) (cs : List Value) : Prop := ∀ i (h : i < cs.length), w.cell? (p.add i) = some cs[i]
theorem add_block (a : Addr) (n : Nat) : (a.add n).block = a.block := by unfold Addr.add; split <;> rfl
theorem add_add (a : Addr) (i j : Nat) : (a.add i).add j = a.add (i + j) := by
  unfold Addr.add
  by_cases hi : i = 0 <;> by_cases hj : j = 0 <;> simp [hi, hj, Nat.add_assoc]
theorem add_zero (a : Addr) : a.add 0 = a := rfl
section
variable {S : Nat → Prop} {w w' : World} {p : Addr} {cs : List Value} {b T : Nat}
theorem At.chg (h : At w p cs) (k : Chg S w w') (hs : p.block < w.heap.size → ¬ S p.block) : At w' p cs := fun i hi =>
  k.cell (h i hi) (by
    have := World.block_lt_of_cell? w _ (h i hi)
    rw [add_block] at this ⊢; exact hs this)
theorem At.ext (h : At w p cs) (k : Ext w w') : At w' p cs := fun i hi => k.cell' (h i hi)
theorem At.one {v : Value} (h : At w p [v]) : w.cell? p = some v := h 0 (by simp)
theorem At.get (h : At w p cs) {i : Nat} (hi : i < cs.length) : w.cell? (p.add i) = some cs[i] := h i hi
/-- block b is just the cells cs of element type T, none frozen -/
def Blk (w : World) (b : Nat) (T : TypeId) (cs : List Value) : Prop := w.heap[b]? = some (.cells cs.toArray T (0, 0))
theorem Blk.lt (h : Blk w b T cs) : b < w.heap.size := (Array.getElem?_eq_some_iff.1 h).1
theorem Blk.chg (h : Blk w b T cs) (k : Chg S w w') (hs : ¬ S b) : Blk w' b T cs := (k.block b h.lt hs).trans h
theorem Blk.ext (h : Blk w b T cs) (k : Ext w w') : Blk w' b T cs := (k.block b h.lt).trans h
theorem Blk.cell (h : Blk w b T cs) {i : Nat} (hi : i < cs.length) : w.cell? ⟨b, i, none⟩ = some cs[i] := by
  unfold Blk at h; simp [World.cell?, h, hi]
theorem blk_add (i j : Nat) : (⟨b, i, none⟩ : Addr).add j = ⟨b, i + j, none⟩ := by
  unfold Addr.add; split <;> simp_all
theorem Blk.at_ (h : Blk w b T cs) {o : Nat} {ds : List Value} (hd : (cs.drop o).take ds.length = ds) : At w ⟨b, o, none⟩ ds := by
  intro i hi
  rw [blk_add]
  have hl : o + i < cs.length := by
    have := congrArg List.length hd
    simp only [List.length_take, List.length_drop] at this; omega
  rw [h.cell hl]
  have : ds[i] = ((cs.drop o).take ds.length)[i]'(by rw [hd]; exact hi) := by congr 1; exact hd.symm
  rw [this]; simp
theorem Blk.whole (h : Blk w b T cs) : At w ⟨b, 0, none⟩ cs := h.at_ (by simp)
theorem Blk.frozen (h : Blk w b T cs) (i : Nat) : w.frozen? ⟨b, i, none⟩ = false := by
  unfold Blk at h; simp [World.frozen?, h]
end

/-! ### New blocks -/
section
variable {w : World} {T : TypeId} {cs : List Value}
theorem New.mk {K : Nat → World → Prop} (h : ∀ b w', Ext w w' → Blk w' b T cs → b = w.heap.size → w'.heap.size = w.heap.size + 1 → K b w') : New T cs w K := by
  intro b w' hb hw
  subst hb hw
  exact h _ _ (Ext.alloc _ _) (heap_alloc_new w _) rfl (Array.size_push _)
theorem NewM.mk {K : Nat → World → Prop} (h : ∀ b w', Ext w w' → w'.heap[b]? = some (.map #[] 0) → b = w.heap.size → w'.heap.size = w.heap.size + 1 → K b w') : NewM w K := by
  intro b w' hb hw
  subst hb hw
  exact h _ _ (Ext.alloc _ _) (heap_alloc_new w _) rfl (Array.size_push _)
theorem Dr.mk {K : World → World → Prop} (h : ∀ w', Ext w w' → w'.heap = w.heap → K w' w') : Dr w K := h _ (Ext.drew w) rfl
end

/-! ### Loads and stores -/
section
variable {P : Program} {t : TypeId} {w w0 : World} {p : Addr} {α : Type} {enc : α → Value} {x : α}
theorem prog_run (w : World) : (program.run P w : Result Program) = .ok P w := rfl
theorem load1_run (h : One P t) {v : Value} (hc : w.cell? p = some v) : (loadVar t p).run P w = .ok v w := by
  obtain ⟨d, hu, hd⟩ := h
  have h1 : (isAgg t).run P w = .ok false w := by
    unfold isAgg
    simp only [Sem.run_bind, run_underlying hu, Result.andThen_ok]
    cases d <;> first | rfl | cases hd
  simp only [loadVar, Sem.run_bind, h1, Result.andThen_ok, Bool.false_eq_true, if_false]
  simp [load, Sem.run, hc]
theorem loadN_run {n : Nat} (h : Many P t n) {cs : List Value} (hc : At w p cs) (hn : cs.length = n) : (loadVar t p).run P w = .ok (.agg cs.toArray) w := by
  obtain ⟨⟨d, hu, hd⟩, hs⟩ := h
  have h1 : (isAgg t).run P w = .ok true w := by
    unfold isAgg
    simp only [Sem.run_bind, run_underlying hu, Result.andThen_ok]
    cases d <;> first | rfl | cases hd
  have h2 : (sizeOf t).run P w = .ok n w := by
    cases hi : P.info? t with
    | none => rw [hi] at hs; cases hs
    | some i =>
      rw [hi] at hs
      have : i.size = n := by simpa using hs
      simp [sizeOf, typeInfo, prog_run, hi, this]
  have h3 := run_loadCells_list (P := P) (w := w) p cs (fun j v hj => by
    obtain ⟨hj', rfl⟩ := List.getElem?_eq_some_iff.1 hj
    exact hc j hj')
  rw [hn] at h3
  simp only [loadVar, Sem.run_bind, h1, Result.andThen_ok, if_true, h2, h3, Sem.run_pure]
theorem rn_ld1 {K : α → World → Prop} (h : One P t) (hc : w.cell? p = some (enc x)) (hk : K x w) : Rn P enc (Instr.loadAt t (Ptr p)) w K :=
  ⟨x, w, by simp [Instr.loadAt, Instr.sureAddr, Ptr, load1_run h hc], hk⟩
theorem rnl_ld1 {K : α → Prop} (h : One P t) (hc : w0.cell? p = some (enc x)) (hk : K x) : RnL P enc (Instr.loadAt t (Ptr p)) w0 K :=
  ⟨x, fun w hw => by simp [Instr.loadAt, Instr.sureAddr, Ptr, load1_run h (hw.cell' hc)], hk⟩
theorem rn_ldN {K : α → World → Prop} {n : Nat} {cs : List Value} (h : Many P t n) (hc : At w p cs) (hn : cs.length = n) (he : enc x = .agg cs.toArray) (hk : K x w) : Rn P enc (Instr.loadAt t (Ptr p)) w K :=
  ⟨x, w, by simp [Instr.loadAt, Instr.sureAddr, Ptr, loadN_run h hc hn, he], hk⟩
theorem rnl_ldN {K : α → Prop} {n : Nat} {cs : List Value} (h : Many P t n) (hc : At w0 p cs) (hn : cs.length = n) (he : enc x = .agg cs.toArray) (hk : K x) : RnL P enc (Instr.loadAt t (Ptr p)) w0 K :=
  ⟨x, fun w hw => by simp [Instr.loadAt, Instr.sureAddr, Ptr, loadN_run h (hc.ext hw) hn, he], hk⟩
theorem rnr_ld1 {K : α → Prop} (h : One P t) (hc : w.cell? p = some (enc x)) (hk : K x) : RnR P enc (loadVar t p) w K := ⟨x, load1_run h hc, hk⟩
theorem rnr_ldN {K : α → Prop} {n : Nat} {cs : List Value} (h : Many P t n) (hc : At w p cs) (hn : cs.length = n) (he : enc x = .agg cs.toArray) (hk : K x) : RnR P enc (loadVar t p) w K :=
  ⟨x, by rw [loadN_run h hc hn, he], hk⟩
end

/-! ### Stores into a block that is known whole -/
/-- cs with vs laid over it from o on -/
def over (cs : List Value) (o : Nat) (vs : List Value) : List Value := cs.take o ++ vs ++ cs.drop (o + vs.length)
theorem over_length {cs : List Value} {o : Nat} {vs : List Value} (h : o + vs.length ≤ cs.length) : (over cs o vs).length = cs.length := by
  simp [over]; omega
section
variable {P : Program} {t : TypeId} {w : World} {b T : Nat} {cs vs : List Value} {o : Nat}
theorem store_run {v : Value} (hs : (P.info? t).map (·.size) = some vs.length) (hv : v.cells = vs.toArray) (h1 : ∀ u ∈ vs, u.oneCell' = true) (hb : Blk w b T cs) (ho : o + vs.length ≤ cs.length) :
    ∃ w', (storeVar t ⟨b, o, none⟩ v).run P w = .ok () w' ∧ Chg (fun k => k = b) w w' ∧ w'.heap.size = w.heap.size ∧ Blk w' b T (over cs o vs) := by
  have h2 : (sizeOf t).run P w = .ok vs.length w := by
    cases hi : P.info? t with
    | none => rw [hi] at hs; cases hs
    | some i =>
      rw [hi] at hs
      have : i.size = vs.length := by simpa using hs
      simp [sizeOf, typeInfo, prog_run, hi, this]
  have h3 := run_storeCells_at P b o T vs 0 cs.toArray w hb (by simpa using ho) h1
  refine ⟨w.setRow b (over cs o vs).toArray, ?_, ⟨rfl, rfl, rfl, ?_, ?_⟩, ?_, ?_⟩
  · simp only [storeVar, Sem.run_bind, h2, Result.andThen_ok, hv]
    rw [if_neg (by simp)]
    simpa [over] using h3
  · exact Nat.le_of_eq (by simp [World.setRow])
  · intro k _ hk
    exact setRow_other w b k _ (fun e => hk e)
  · simp [World.setRow]
  · exact setRow_heap w b cs.toArray _ T (0, 0) hb
theorem rnu_st {v : Value} {p : Addr} {K : World → Prop} (hp : p = ⟨b, o, none⟩) (hb : Blk w b T cs) (vs : List Value) (hs : (P.info? t).map (·.size) = some vs.length) (hv : v.cells = vs.toArray)
    (h1 : ∀ u ∈ vs, u.oneCell' = true) (ho : o + vs.length ≤ cs.length)
    (hk : ∀ w', Chg (fun k => k = b) w w' → w'.heap.size = w.heap.size → Blk w' b T (over cs o vs) → K w') : RnU P (Instr.storeAt t (Ptr p) v) w K := by
  subst hp
  obtain ⟨w', hr, h2, h3, h4⟩ := store_run (P := P) (t := t) hs hv h1 hb ho
  exact ⟨w', by simpa [Instr.storeAt, Instr.sureAddr, Ptr] using hr, hk w' h2 h3 h4⟩
end

/-! ### Slices that read as lists -/
section
variable {α β : Type} (cells : α → List Value) (sz : Nat)
/-- The slice s reads as the list l, each element in sz cells, in blocks of which F holds. -/
structure Rd (F : Nat → Prop) (w : World) (s : Sl) (l : List α) : Prop where
  len : s.n = l.length
  cap : s.n ≤ s.c
  lim : s.c ≤ maxLen
  el : ∀ k (h : k < l.length), ∃ a, s.a = some a ∧ F a.block ∧ At w (a.add (k * sz)) (cells l[k])
end
section
variable {α : Type} {cells : α → List Value} {sz : Nat} {F G S : Nat → Prop} {w w' : World} {s : Sl} {l : List α}
theorem Rd.mono (h : Rd cells sz F w s l) (hF : ∀ b, F b → G b) : Rd cells sz G w s l := ⟨h.len, h.cap, h.lim, fun k hk => let ⟨a, h1, h2, h3⟩ := h.el k hk; ⟨a, h1, hF _ h2, h3⟩⟩
theorem Rd.ext (h : Rd cells sz F w s l) (k : Ext w w') : Rd cells sz F w' s l := ⟨h.len, h.cap, h.lim, fun i hi => let ⟨a, h1, h2, h3⟩ := h.el i hi; ⟨a, h1, h2, h3.ext k⟩⟩
theorem Rd.chg (h : Rd cells sz F w s l) (k : Chg S w w') (hs : ∀ b, F b → b < w.heap.size → ¬ S b) : Rd cells sz F w' s l :=
  ⟨h.len, h.cap, h.lim, fun i hi => let ⟨a, h1, h2, h3⟩ := h.el i hi; ⟨a, h1, h2, h3.chg k (by rw [add_block]; exact hs _ h2)⟩⟩
theorem Rd.nil_ (F : Nat → Prop) (w : World) : Rd cells sz F w Sl.nil [] := ⟨rfl, Nat.le_refl _, Nat.zero_le _, fun k hk => absurd hk (Nat.not_lt_zero _)⟩
theorem Rd.empty {a : Option Addr} {c : Nat} (hc : c ≤ maxLen) (F : Nat → Prop) (w : World) : Rd cells sz F w ⟨a, 0, c⟩ [] := ⟨rfl, Nat.zero_le _, hc, fun k hk => absurd hk (Nat.not_lt_zero _)⟩
/-- a new block read whole as a slice -/
theorem Blk.rd {b T : Nat} {cs : List Value} (hb : Blk w b T cs) {l : List α} (hcs : cs = l.flatMap cells) (hsz : ∀ x ∈ l, (cells x).length = sz) (hF : F b) {n : Nat} (hn : n = l.length) (hm : n ≤ maxLen) : Rd cells sz F w ⟨some ⟨b, 0, none⟩, n, n⟩ l := by
  subst hcs
  refine ⟨hn, Nat.le_refl _, hm, fun k hk => ⟨⟨b, 0, none⟩, rfl, hF, ?_⟩⟩
  rw [blk_add]
  refine hb.at_ ?_
  rw [Nat.zero_add, hsz _ (List.getElem_mem hk)]
  clear hb hn hF hm
  induction l generalizing k with
  | nil => exact absurd hk (Nat.not_lt_zero _)
  | cons x l ih =>
    have hx := hsz x (by simp)
    cases k with
    | zero => simp [List.flatMap_cons, ← hx]
    | succ k =>
      simp only [List.flatMap_cons, List.getElem_cons_succ]
      have := ih (fun y hy => hsz y (by simp [hy])) k (by simpa using hk)
      rw [← this]
      congr 1
      rw [List.drop_append, List.drop_eq_nil_of_le (by rw [hx, Nat.add_mul]; omega), List.nil_append]
      congr 1
      rw [hx, Nat.add_mul]; omega
end
section
variable {P : Program} {α : Type} {cells : α → List Value} {sz t e : Nat} {F : Nat → Prop} {w : World} {s : Sl} {l : List α}
theorem size_run {n : Nat} (hs : (P.info? t).map (·.size) = some n) (w : World) : (sizeOf t).run P w = .ok n w := by
  cases hi : P.info? t with
  | none => rw [hi] at hs; cases hs
  | some i =>
    rw [hi] at hs
    have : i.size = n := by simpa using hs
    simp [sizeOf, typeInfo, prog_run, hi, this]
theorem idx_run (ht : SlT P t e sz) {a : Addr} (ha : s.a = some a) {k : Nat} (hk : k < s.n) (w : World) : (Instr.indexAt t (Sl.v s) (.int .i64 (k : Int))).run P w = .ok (Ptr (a.add (k * sz))) w := by
  obtain ⟨sa, n, c⟩ := s
  simp only at ha hk
  subst ha
  have h1 : (k : Int) < (n : Int) := by omega
  have h2 := size_run ht.2 w
  simp only [Instr.indexAt, Sl.v, asIntOf, Sem.run_bind, Sem.run_pure, Result.andThen_ok, run_underlying ht.1]
  rw [if_pos ⟨by omega, h1⟩]
  simp only [Sem.run_bind, h2, Result.andThen_ok, Sem.run_pure, Ptr, Int.toNat_natCast]
theorem rnp_idx (ht : SlT P t e sz) (hs : Rd cells sz F w s l) {k : Nat} (hk : k < l.length) {i : Int} (hi : i = k) {K : Addr → Prop} (h : ∀ p, F p.block → At w p (cells l[k]) → K p) :
    RnP P Ptr (Instr.indexAt t (Sl.v s) (.int .i64 i)) K := by
  obtain ⟨a, ha, hF, hat⟩ := hs.el k hk
  subst hi
  exact ⟨_, fun w => idx_run ht ha (by rw [hs.len]; exact hk) w, h _ (by rw [add_block]; exact hF) hat⟩
end

/-! ### Slices that the call owns and appends to -/
/-- s is a row of the call's own from block B on (or nil), with the elements l -/
structure Own {α : Type} (cells : α → List Value) (sz : Nat) (T : TypeId) (B : Nat) (w : World) (s : Sl) (l : List α) : Prop where
  row : w.ownsRow B T sz (Sl.v s) l.length (l.flatMap cells)
  sz_ : ∀ x ∈ l, (cells x).length = sz
def own? (s : Sl) (b : Nat) : Prop := ∃ a, s.a = some a ∧ a.block = b
section
variable {P : Program} {α : Type} {cells : α → List Value} {sz t T ty B : Nat} {F S : Nat → Prop} {w w' : World} {s : Sl} {l : List α}
theorem Own.nil_ (B : Nat) (w : World) : Own cells sz T B w Sl.nil ([] : List α) := ⟨World.ownsRow_nil w B T sz, fun x hx => by cases hx⟩
theorem Own.len (h : Own cells sz T B w s l) : s.n = l.length := by
  obtain ⟨a, n, c⟩ := s
  rcases h.row.2 with ⟨hv, hn⟩ | ⟨g, cap, cur, hv, _⟩
  · simp only [Sl.v, Value.slice.injEq] at hv
    show n = _
    omega
  · simp only [Sl.v, Value.slice.injEq] at hv
    exact hv.2.1
theorem Own.ge (h : Own cells sz T B w s l) {b : Nat} (hb : own? s b) : B ≤ b ∧ b < w.heap.size := by
  obtain ⟨a, ha, rfl⟩ := hb
  exact h.row.lt a.block (by obtain ⟨sa, n, c⟩ := s; simp only at ha; subst ha; rfl)
theorem Own.chg (h : Own cells sz T B w s l) (k : Chg S w w') (hs : ∀ b, own? s b → ¬ S b) : Own cells sz T B w' s l := by
  refine ⟨⟨h.row.1, ?_⟩, h.sz_⟩
  rcases h.row.2 with hn | ⟨g, cap, cur, hv, hbg, hg, rest⟩
  · exact .inl hn
  · refine .inr ⟨g, cap, cur, hv, hbg, ?_, rest⟩
    have ho : own? s g := by
      obtain ⟨a, n, c⟩ := s
      simp only [Sl.v, Value.slice.injEq] at hv
      exact ⟨_, hv.1, rfl⟩
    rw [k.block g (Array.getElem?_eq_some_iff.1 hg).1 (hs g ho)]; exact hg
theorem Own.ext (h : Own cells sz T B w s l) (k : Ext w w') : Own cells sz T B w' s l := h.chg (k.chg (fun _ => False)) (fun _ _ h => h)
theorem Own.weaken {B' : Nat} (h : Own cells sz T B w s l) (hB : B' ≤ B) : Own cells sz T B' w s l := by
  refine ⟨⟨h.row.1, ?_⟩, h.sz_⟩
  rcases h.row.2 with hn | ⟨g, cap, cur, hv, hbg, rest⟩
  · exact .inl hn
  · exact .inr ⟨g, cap, cur, hv, Nat.le_trans hB hbg, rest⟩
theorem Own.rd (h : Own cells sz T B w s l) (hF : ∀ b, own? s b → F b) : Rd cells sz F w s l := by
  have hl := h.len
  obtain ⟨a, n, c⟩ := s
  rcases h.row.2 with ⟨hv, hn⟩ | ⟨g, cap, cur, hv, hbg, hg, hnc, hcm, hcs, htake⟩
  · simp only [Sl.v, Value.slice.injEq] at hv
    have : l = [] := List.eq_nil_of_length_eq_zero hn
    subst this
    exact ⟨hl, by show n ≤ c; simp only at hl; simp at hl; omega, by show c ≤ maxLen; unfold maxLen; omega, fun k hk => absurd hk (Nat.not_lt_zero _)⟩
  · simp only [Sl.v, Value.slice.injEq] at hv
    obtain ⟨rfl, rfl, rfl⟩ := hv
    refine ⟨hl, hnc, hcm, fun k hk => ⟨⟨g, 0, none⟩, rfl, hF g ⟨_, rfl, rfl⟩, ?_⟩⟩
    intro i hi
    rw [blk_add, blk_add]
    have hszk := h.sz_ _ (List.getElem_mem hk)
    have hfl : (l.flatMap cells)[k * sz + i]? = some ((cells l[k])[i]) := by
      clear htake hcs hg hnc hcm hF hl
      have key : ∀ (l : List α) (k : Nat) (hk : k < l.length), (∀ x ∈ l, (cells x).length = sz) → ∀ hi : i < (cells l[k]).length, (l.flatMap cells)[k * sz + i]? = some ((cells l[k])[i]) := by
        intro l
        induction l with
        | nil => intro k hk; exact absurd hk (Nat.not_lt_zero _)
        | cons x l ih =>
          intro k hk hsz hi
          have hx := hsz x (by simp)
          cases k with
          | zero =>
            simp only [List.flatMap_cons, Nat.zero_mul, Nat.zero_add, List.getElem_cons_zero] at hi ⊢
            rw [List.getElem?_append_left hi, List.getElem?_eq_getElem hi]
          | succ k =>
            simp only [List.flatMap_cons, List.getElem_cons_succ] at hi ⊢
            rw [List.getElem?_append_right (by rw [hx, Nat.add_mul]; omega)]
            have e : (k + 1) * sz + i - (cells x).length = k * sz + i := by rw [hx, Nat.add_mul]; omega
            rw [e]
            exact ih k (by simpa using hk) (fun y hy => hsz y (by simp [hy])) hi
      exact key l k hk h.sz_ hi
    have hcell := cell_of_row w g (0 + k * sz + i) cur T (0, 0) hg
    rw [hcell]
    have hlt : k * sz + i < l.length * sz := by
      have h1 : i < sz := by omega
      have h2 : (k + 1) * sz ≤ l.length * sz := Nat.mul_le_mul_right _ hk
      rw [Nat.add_mul] at h2; omega
    rw [← htake, List.getElem?_take, if_pos hlt] at hfl
    rw [Nat.zero_add]
    simpa using hfl
theorem app_run {bytes : Nat} {z : Value} (ht : ElT P t T sz bytes z) (h : Own cells sz T B w s l) {a : Addr} {m c : Nat} {l' : List α} (hm : m = l'.length) (hl' : ∀ x ∈ l', (cells x).length = sz)
    (hc : ∀ j u, (l'.flatMap cells)[j]? = some u → w.cell? (a.add j) = some u) (h1 : ∀ x ∈ l', ∀ u ∈ cells x, u.oneCell' = true) (hbytes : (l.length + l'.length) * bytes ≤ 140737488355328) (hpos : 0 < bytes) (hB : B ≤ w.heap.size) :
    ∃ s' w', (Builtin.append_ #[t, t] ty #[Sl.v s, .slice (some a) m c]).run P w = .ok (Sl.v s') w' ∧ Own cells sz T B w' s' (l ++ l') ∧ Chg (own? s) w w' ∧ (∀ b, own? s' b → own? s b ∨ b = w.heap.size) := by
  subst hm
  obtain ⟨i, hi, h2⟩ : ∃ i, P.info? T = some i ∧ (i.zero, i.size, i.bytes) = (some z, sz, bytes) := by
    have := ht.inf
    cases hi : P.info? T with
    | none => rw [hi] at this; cases this
    | some i => rw [hi] at this; exact ⟨i, rfl, by simpa using this⟩
  simp only [Prod.mk.injEq] at h2
  have hlen : ∀ (l : List α), (∀ x ∈ l, (cells x).length = sz) → (l.flatMap cells).length = l.length * sz := by
    intro l
    induction l with
    | nil => intro _; simp
    | cons x l ih => intro hh; simp [List.flatMap_cons, hh x (by simp), ih (fun y hy => hh y (by simp [hy])), Nat.add_mul]; omega
  have hmax : l.length + l'.length ≤ maxLen := by
    have : (l.length + l'.length) * 1 ≤ (l.length + l'.length) * bytes := Nat.mul_le_mul_left _ hpos
    unfold maxLen; omega
  have h1' : ∀ u ∈ l'.flatMap cells, u.oneCell' = true := fun u hu => by obtain ⟨x, hx, hu⟩ := List.mem_flatMap.1 hu; exact h1 x hx u hu
  obtain ⟨v', w', hr, ho, hg, h5⟩ := run_append_own (P := P) w B t ty T i z sz bytes ht.und hi h2.1 h2.2.1 h2.2.2 ht.zc ht.pos (Sl.v s) l.length (l.flatMap cells) h.row a l'.length c (l'.flatMap cells)
    (hlen l' hl') hc h1' hmax hbytes hB
  have hv : ∃ s' : Sl, v' = Sl.v s' := by
    rcases ho.2 with ⟨rfl, _⟩ | ⟨g, cap, cur, rfl, _⟩
    · exact ⟨Sl.nil, rfl⟩
    · exact ⟨⟨_, _, _⟩, rfl⟩
  obtain ⟨s', rfl⟩ := hv
  refine ⟨s', w', hr, ⟨by rw [List.length_append, List.flatMap_append]; exact ho, fun x hx => (List.mem_append.1 hx).elim (h.sz_ x) (hl' x)⟩, ⟨hg.os, hg.tape, hg.output, hg.size, fun k hk hn => hg.block k hk fun e => hn ?_⟩, ?_⟩
  · obtain ⟨sa, n, c'⟩ := s
    cases sa with
    | none => simp [Sl.v, Value.ownBlock] at e
    | some a => simp only [Sl.v, Value.ownBlock, Option.some.injEq] at e; exact ⟨a, rfl, e.symm⟩
  · intro b hb
    obtain ⟨a', ha', rfl⟩ := hb
    obtain ⟨sa', n', c''⟩ := s'
    simp only at ha'
    subst ha'
    have hbound : ((l.length + l'.length : Nat) : Int) ≤ 9223372036854775807 := by unfold maxLen at hmax; omega
    rcases h.row.2 with ⟨hv, hn0⟩ | ⟨g, cap, cur, hv, hbg, hgg, hnc, hcm, hcs, htake⟩
    · by_cases hm0 : l'.length = 0
      · have := h5.2 ⟨hv, hm0⟩
        simp [Sl.v] at this
      · rw [hv] at hr
        have hr2 := run_append_nil (P := P) w t ty T i z ht.und hi h2.1 a l'.length c (l'.flatMap cells) (by rw [h2.2.1]; exact hlen l' hl') hc (by omega) (by omega) (by rw [h2.2.2]; rw [hn0, Nat.zero_add] at hbytes; omega)
        rw [hr2] at hr
        injection hr with e1 e2
        simp only [Sl.v, Value.slice.injEq, Option.some.injEq] at e1
        exact .inr (by rw [← e1.1])
    · rw [hv] at hr
      have hsa : s.a = some ⟨g, 0, none⟩ := by
        obtain ⟨sa, n, c'⟩ := s
        simp only [Sl.v, Value.slice.injEq] at hv; exact hv.1
      by_cases hroom : l.length + l'.length ≤ cap
      · have hr2 := run_append_room (P := P) w t ty T i ht.und hi g l.length cap cur hgg a l'.length c (l'.flatMap cells) (by rw [h2.2.1]; exact hlen l' hl') hc h1' hroom
          (by rw [h2.2.1, hlen l' hl', hcs, ← Nat.add_mul]; exact Nat.mul_le_mul_right _ hroom)
        rw [hr2] at hr
        injection hr with e1 e2
        simp only [Sl.v, Value.slice.injEq, Option.some.injEq] at e1
        exact .inl ⟨_, hsa, by rw [← e1.1]⟩
      · have holds : ∀ j u, (l.flatMap cells)[j]? = some u → w.cell? ((⟨g, 0, none⟩ : Addr).add j) = some u := h.row.cells (g := g) (by rw [hv]; rfl)
        have hr2 := run_append_grow (P := P) w t ty T i z ht.und hi h2.1 ⟨g, 0, none⟩ l.length cap (l.flatMap cells) (by rw [h2.2.1]; exact h.row.1) holds a l'.length c (l'.flatMap cells) (by rw [h2.2.1]; exact hlen l' hl') hc
          (by omega) hbound (by rw [h2.2.2]; exact growslice_fits (by omega) hbytes)
        rw [hr2] at hr
        injection hr with e1 e2
        simp only [Sl.v, Value.slice.injEq, Option.some.injEq] at e1
        exact .inr (by rw [← e1.1])
/-- append of one element that lies in a new block of its own -/
theorem rn_app1 {bytes : Nat} {z : Value} {b : Nat} {x : α} {cs : List Value} {K : Sl → World → Prop} (ht : ElT P t T sz bytes z) (h : Own cells sz T B w s l) (hb : Blk w b T cs) (hcs : cs = cells x) (hx : (cells x).length = sz)
    (h1 : ∀ u ∈ cells x, u.oneCell' = true) (hbytes : (l.length + 1) * bytes ≤ 140737488355328) (hpos : 0 < bytes) (hB : B ≤ w.heap.size)
    (hk : ∀ s' w', Own cells sz T B w' s' (l ++ [x]) → Chg (own? s) w w' → (∀ b, own? s' b → own? s b ∨ b = w.heap.size) → K s' w') : Rn P Sl.v (Builtin.append_ #[t, t] ty #[Sl.v s, Sl.v ⟨some ⟨b, 0, none⟩, 1, 1⟩]) w K := by
  subst hcs
  obtain ⟨s', w', hr, ho, hg, hn⟩ := app_run (ty := ty) (c := 1) (a := ⟨b, 0, none⟩) (l' := [x]) (m := 1) ht h rfl (by simpa using hx) (fun j u hu => by
    have hu' : (cells x)[j]? = some u := by simpa using hu
    obtain ⟨hj, rfl⟩ := List.getElem?_eq_some_iff.1 hu'
    rw [blk_add, Nat.zero_add]; exact hb.cell hj) (by simpa using h1) (by simpa using hbytes) hpos hB
  exact ⟨s', w', hr, hk s' w' ho hg hn⟩
end
/-! ### Steps in the words of a transformer -/
section
variable {P : Program} {t : TypeId} {w w0 : World} {p : Addr} {α β : Type} {enc : α → Value} {x : α} {cs : List Value} {b T : Nat} {cells : β → List Value} {sz : Nat} {F : Nat → Prop} {s : Sl} {l : List β}
theorem At.get? (h : At w p cs) {i : Nat} {v : Value} (hi : cs[i]? = some v) : w.cell? (p.add i) = some v := by
  obtain ⟨hj, rfl⟩ := List.getElem?_eq_some_iff.1 hi
  exact h i hj
theorem rn_at {K : α → World → Prop} {i : Nat} (h : One P t) (hp : At w p cs) (hi : cs[i]? = some (enc x)) (hk : K x w) : Rn P enc (Instr.loadAt t (Ptr (p.add i))) w K := rn_ld1 h (hp.get? hi) hk
theorem rnl_at {K : α → Prop} {i : Nat} (h : One P t) (hp : At w0 p cs) (hi : cs[i]? = some (enc x)) (hk : K x) : RnL P enc (Instr.loadAt t (Ptr (p.add i))) w0 K := rnl_ld1 h (hp.get? hi) hk
theorem rn_at0 {K : α → World → Prop} (h : One P t) (hp : At w p [enc x]) (hk : K x w) : Rn P enc (Instr.loadAt t (Ptr p)) w K := rn_ld1 h hp.one hk
theorem rnl_at0 {K : α → Prop} (h : One P t) (hp : At w0 p [enc x]) (hk : K x) : RnL P enc (Instr.loadAt t (Ptr p)) w0 K := rnl_ld1 h hp.one hk
theorem rn_blk {K : α → World → Prop} {i : Nat} (h : One P t) (hb : Blk w b T cs) (hp : p = ⟨b, i, none⟩) (hi : cs[i]? = some (enc x)) (hk : K x w) : Rn P enc (Instr.loadAt t (Ptr p)) w K := by
  obtain ⟨hj, e⟩ := List.getElem?_eq_some_iff.1 hi
  subst hp; exact rn_ld1 h ((hb.cell hj).trans (by rw [e])) hk
theorem rnl_blk {K : α → Prop} {i : Nat} (h : One P t) (hb : Blk w0 b T cs) (hp : p = ⟨b, i, none⟩) (hi : cs[i]? = some (enc x)) (hk : K x) : RnL P enc (Instr.loadAt t (Ptr p)) w0 K := by
  obtain ⟨hj, e⟩ := List.getElem?_eq_some_iff.1 hi
  subst hp; exact rnl_ld1 h ((hb.cell hj).trans (by rw [e])) hk
theorem rn_blkN {K : α → World → Prop} {n : Nat} (h : Many P t n) (hb : Blk w b T cs) (hn : cs.length = n) (he : enc x = .agg cs.toArray) (hk : K x w) : Rn P enc (Instr.loadAt t (Ptr ⟨b, 0, none⟩)) w K := rn_ldN h hb.whole hn he hk
theorem Cal.mono {f : FuncId} {args : Array Value} {K K' : α → World → Prop} (h : Cal P enc f args w K) (hk : ∀ x w', K x w' → K' x w') : Cal P enc f args w K' :=
  Calls.mono h fun e w' ⟨x, he, hK⟩ => ⟨x, he, hk x w' hK⟩
theorem Lp.mk {σ : Type} {body : σ → World → (σ → World → Prop) → Prop} {s : σ} (I : σ → World → Prop) (m : σ → Nat) (h0 : I s w)
    (h : ∀ s w K, I s w → (∀ s' w', I s' w' → m s' < m s → K s' w') → body s w K) : Lp body s w :=
  ⟨I, fun s _ => m s, h0, fun s w hI => h s w _ hI fun _ _ h1 h2 => ⟨h1, h2⟩⟩
theorem wrap_in {n : Int} (h : -9223372036854775808 ≤ n ∧ n ≤ 9223372036854775807) : IntKind.i64.wrap n = n := IntWalk.i64_in n h
theorem Rd.wr (h : Rd cells sz F w s l) {k : Nat} (hk : k < l.length) : IntKind.i64.wrap ((k : Int) + 1) = ((k + 1 : Nat) : Int) := by
  have h1 := h.lim; have h2 := h.len; have h3 := h.cap
  unfold maxLen at h1
  rw [wrap_in ⟨by omega, by omega⟩]; rfl
end
end Go.Eng

/- More laws for the forms: slices cut, appends from any source, struct equality, calls of functions handed in. -/
namespace Go.Eng
open Go
set_option linter.unusedVariables false

section
variable {P : Program} {t e sz : Nat} {w : World} {s : Sl}
/-- s[lo:hi] -/
def Sl.cut (s : Sl) (lo hi sz : Nat) : Sl := ⟨if s.c = lo then s.a else s.a.map (·.add (lo * sz)), hi - lo, s.c - lo⟩
def optI : Option Nat → Option Value
  | none => none
  | some k => some (.int .i64 (k : Int))
theorem slice_run (ht : SlT P t e sz) {lo hi : Option Nat} (h1 : lo.getD 0 ≤ hi.getD s.n) (h2 : hi.getD s.n ≤ s.c) (w : World) :
    (Instr.sliceAt t (Sl.v s) (optI lo) (optI hi) none).run P w = .ok (Sl.v (s.cut (lo.getD 0) (hi.getD s.n) sz)) w := by
  obtain ⟨a, n, c⟩ := s
  have hsz := size_run ht.2 w
  have hb : ∀ (k y : Nat) (code : BoundsCode), k ≤ y → (Instr.sliceBound (.int .i64 (k : Int)) y code).run P w = .ok k w := by
    intro k y code hk
    simp only [Instr.sliceBound, asIntOf, Sem.run_bind, Sem.run_pure, Result.andThen_ok]
    rw [if_pos ⟨by omega, by omega⟩]
    simp
  simp only [Instr.sliceAt, Sl.v, Sem.run_bind, run_underlying ht.1, Result.andThen_ok, Instr.slice]
  have hbd : (Instr.sliceBounds true n c (optI lo) (optI hi) none).run P w = .ok (lo.getD 0, hi.getD n, c) w := by
    cases lo <;> cases hi <;> simp only [optI, Option.getD_none, Option.getD_some] at h1 h2 ⊢ <;>
      simp only [Instr.sliceBounds, Sem.run_bind, Sem.run_pure, Result.andThen_ok, hb _ _ _ h2, hb _ _ _ h1, if_true, Option.isSome_none, Bool.false_eq_true, if_false]
  simp only [hbd, Result.andThen_ok, hsz, Sem.run_pure, Sl.cut]
theorem rnp_slice (ht : SlT P t e sz) (lo hi : Option Nat) {vlo vhi : Option Value} (hlo : vlo = optI lo) (hhi : vhi = optI hi) (h1 : lo.getD 0 ≤ hi.getD s.n) (h2 : hi.getD s.n ≤ s.c) {K : Sl → Prop}
    (h : K (s.cut (lo.getD 0) (hi.getD s.n) sz)) : RnP P Sl.v (Instr.sliceAt t (Sl.v s) vlo vhi none) K := by
  subst hlo hhi; exact ⟨_, fun w => slice_run ht h1 h2 w, h⟩
theorem Sl.cut_zero {s : Sl} {n sz : Nat} : s.cut 0 n sz = ⟨s.a, n, s.c⟩ := by
  obtain ⟨a, m, c⟩ := s
  simp only [Sl.cut, Nat.sub_zero, Nat.zero_mul]
  congr 1
  split
  · rfl
  · cases a <;> rfl
variable {α : Type} {cells : α → List Value} {F : Nat → Prop} {l : List α}
theorem Rd.cut (h : Rd cells sz F w s l) {lo hi : Nat} (h1 : lo ≤ hi) (h2 : hi ≤ l.length) : Rd cells sz F w (s.cut lo hi sz) ((l.take hi).drop lo) := by
  have hl := h.len; have hc := h.cap; have hm := h.lim
  refine ⟨by simp [Sl.cut]; omega, by simp [Sl.cut]; omega, by simp [Sl.cut]; omega, fun k hk => ?_⟩
  have hk' : k + lo < hi := by simp at hk; omega
  obtain ⟨a, ha, hF, hat⟩ := h.el (lo + k) (by omega)
  have hne : ¬ s.c = lo := by omega
  refine ⟨a.add (lo * sz), by simp [Sl.cut, hne, ha], by rw [add_block]; exact hF, ?_⟩
  rw [add_add, ← Nat.add_mul]
  have : ((l.take hi).drop lo)[k] = l[lo + k] := by simp
  rw [this]; exact hat
/-- the first n of a slice that has as much room -/
theorem Rd.take (h : Rd cells sz F w s l) {n : Nat} (hn : n ≤ l.length) : Rd cells sz F w ⟨s.a, n, s.c⟩ (l.take n) := by
  have := h.cut (Nat.zero_le n) hn
  rw [Sl.cut_zero] at this
  simpa using this
/-- what lies in one list -/
theorem Rd.flat (h : Rd cells sz F w s l) (hsz : ∀ x ∈ l, (cells x).length = sz) (hne : l ≠ []) : ∃ a, s.a = some a ∧ ∀ j u, (l.flatMap cells)[j]? = some u → w.cell? (a.add j) = some u := by
  have h0 : 0 < l.length := List.length_pos_iff.2 hne
  obtain ⟨a, ha, hF, _⟩ := h.el 0 h0
  refine ⟨a, ha, ?_⟩
  have hat : ∀ k (hk : k < l.length), At w (a.add (k * sz)) (cells l[k]) := fun k hk => by
    obtain ⟨a', ha', _, h2⟩ := h.el k hk
    rw [ha] at ha'; cases ha'; exact h2
  clear hF ha hne
  have key : ∀ (l : List α) (b : Addr), (∀ x ∈ l, (cells x).length = sz) → (∀ k (hk : k < l.length), At w (b.add (k * sz)) (cells l[k])) → ∀ j u, (l.flatMap cells)[j]? = some u → w.cell? (b.add j) = some u := by
    intro l
    induction l with
    | nil => intro b _ _ j u hu; simp at hu
    | cons x l ih =>
      intro b hsz hat j u hu
      have hx := hsz x (by simp)
      rw [List.flatMap_cons] at hu
      by_cases hj : j < (cells x).length
      · rw [List.getElem?_append_left hj] at hu
        have := hat 0 (by simp)
        simp only [Nat.zero_mul, List.getElem_cons_zero] at this
        have h2 := this.get? hu
        rw [add_add, Nat.zero_add] at h2; exact h2
      · rw [List.getElem?_append_right (by omega)] at hu
        have := ih (b.add sz) (fun y hy => hsz y (by simp [hy])) (fun k hk => by
          have := hat (k + 1) (by simpa using hk)
          simp only [List.getElem_cons_succ] at this
          rw [add_add, show sz + k * sz = (k + 1) * sz by rw [Nat.add_mul]; omega]; exact this) _ u hu
        rw [add_add, show sz + (j - (cells x).length) = j by omega] at this
        exact this
  exact key l a hsz hat
variable {T B bytes ty : Nat} {z : Value}
/-- append of what another slice holds, whatever it is -/
theorem rn_app {s' : Sl} {l' : List α} {K : Sl → World → Prop} (ht : ElT P t T sz bytes z) (h : Own cells sz T B w s l) (h' : Rd cells sz F w s' l') (hsz : ∀ x, (cells x).length = sz)
    (h1 : ∀ x, ∀ u ∈ cells x, u.oneCell' = true) (hbytes : (l.length + l'.length) * bytes ≤ 140737488355328) (hpos : 0 < bytes) (hB : B ≤ w.heap.size)
    (hk : ∀ s'' w', Own cells sz T B w' s'' (l ++ l') → Chg (own? s) w w' → (∀ b, own? s'' b → own? s b ∨ b = w.heap.size) → K s'' w') : Rn P Sl.v (Builtin.append_ #[t, t] ty #[Sl.v s, Sl.v s']) w K := by
  by_cases hne : l' = []
  · subst hne
    have hn : s'.n = 0 := h'.len
    obtain ⟨a', n', c'⟩ := s'
    simp only at hn
    subst hn
    refine ⟨s, w, ?_, hk s w (by simpa using h) (Chg.refl _ _) (fun b hb => .inl hb)⟩
    obtain ⟨i, hi, h2⟩ : ∃ i, P.info? T = some i ∧ (i.zero, i.size, i.bytes) = (some z, sz, bytes) := by
      have := ht.inf
      cases hi : P.info? T with
      | none => rw [hi] at this; cases this
      | some i => rw [hi] at this; exact ⟨i, rfl, by simpa using this⟩
    have hcells : (Builtin.firstCells i.size 0 (Sl.v ⟨a', 0, c'⟩)).run P w = .ok #[] w := by
      cases a' with
      | none => simp [Builtin.firstCells, Sl.v]
      | some a' => simp [Builtin.firstCells, Sl.v, loadCells, loadCellsFrom]
    have hcap : s.n ≤ s.c := (h.rd (F := fun _ => True) (fun _ _ => trivial)).cap
    obtain ⟨a, n, c⟩ := s
    simp only at hcap
    simp only [Sl.v] at hcells
    cases a with
    | none => simp [Builtin.append_, run_underlying ht.und, sizeOf, typeInfo, hi, prog_run, Builtin.lenOf, Sl.v, hcap, hcells]
    | some a => simp [Builtin.append_, run_underlying ht.und, sizeOf, typeInfo, hi, prog_run, Builtin.lenOf, Sl.v, hcap, hcells, storeCells]
  · obtain ⟨a, ha, hc⟩ := h'.flat (fun x _ => hsz x) hne
    obtain ⟨s'', w', hr, ho, hg, hn⟩ := app_run (ty := ty) (c := s'.c) (a := a) (l' := l') (m := s'.n) ht h h'.len (fun x _ => hsz x) hc (fun x _ => h1 x) hbytes hpos hB
    obtain ⟨a', n', c'⟩ := s'
    simp only at ha
    subst ha
    exact ⟨s'', w', hr, hk s'' w' ho hg hn⟩
/-- a slice that was made empty in a block of its own (a literal without elements) -/
theorem Own.empty {b : Nat} (hb : Blk w b T []) (hB : B ≤ b) : Own cells sz T B w ⟨some ⟨b, 0, none⟩, 0, 0⟩ ([] : List α) :=
  ⟨⟨by simp, .inr ⟨b, 0, #[], rfl, hB, hb, Nat.le_refl _, Nat.zero_le _, by simp, by simp⟩⟩, fun x hx => by cases hx⟩
/-- append of what another slice holds to an empty literal: a copy -/
theorem rn_copy {b : Nat} {s' : Sl} {l' : List α} {K : Sl → World → Prop} (ht : ElT P t T sz bytes z) (hb : Blk w b T []) (h' : Rd cells sz F w s' l') (hsz : ∀ x, (cells x).length = sz)
    (h1 : ∀ x, ∀ u ∈ cells x, u.oneCell' = true) (hbytes : l'.length * bytes ≤ 140737488355328) (hpos : 0 < bytes)
    (hk : ∀ x w', Chg (fun c => c = b) w w' → Rd cells sz (fun c => (c = b ∨ c = w.heap.size) ∧ c < w'.heap.size) w' x l' → K x w') : Rn P Sl.v (Builtin.append_ #[t, t] ty #[Sl.v ⟨some ⟨b, 0, none⟩, 0, 0⟩, Sl.v s']) w K :=
  rn_app ht (Own.empty hb (Nat.le_refl _)) h' hsz h1 (by simpa using hbytes) hpos (Nat.le_of_lt hb.lt) fun x w' ho hc hn =>
    hk x w' (hc.mono fun c _ hc => by obtain ⟨a, ha, rfl⟩ := hc; cases ha; rfl) (ho.rd fun c hc => ⟨by
      rcases hn c hc with ⟨a, ha, rfl⟩ | h
      · cases ha; exact .inl rfl
      · exact .inr h, (ho.ge hc).2⟩)
end

section
variable {P : Program} {t : TypeId} {w : World} {cs : Array Value} {o : Nat} {v : Value}
theorem part_one (h : One P t) (hv : cs[o]? = some v) : (part t cs o).run P w = .ok v w := by
  obtain ⟨d, hu, hd⟩ := h
  have h1 : (isAgg t).run P w = .ok false w := by
    unfold isAgg
    simp only [Sem.run_bind, run_underlying hu, Result.andThen_ok]
    cases d <;> first | rfl | cases hd
  simp only [part, Sem.run_bind, h1, Result.andThen_ok, Bool.false_eq_true, if_false, hv, Sem.run_pure]
end
theorem beq_bytes (a b : ByteArray) : (a == b) = decide (a = b) := by rw [beq_toListBytes, toList_beq]
section
variable {P : Program} {w : World} {α : Type} {enc : α → Value} {x : α}
/-- what answers in whatever world -/
theorem RnP.of {s : Sem Value} {K : α → Prop} (h : ∀ w, s.run P w = .ok (enc x) w) (hk : K x) : RnP P enc s K := ⟨x, h, hk⟩
end
end Go.Eng

