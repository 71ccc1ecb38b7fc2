/- A part of the proof whose last text is YtdoeegfcmbcbkaaAZ6. -/
import Derived.Test.YtdoeegfcmbcbkaaAZ0
set_option linter.all false
/- Made by program: typed transformers of the functions, each met by its code. -/
namespace Go.Proofs.Ytdoeegfcmbcbkaa.Tr
open Go Go.Eng
set_option linter.unusedVariables false
set_option maxRecDepth 100000
set_option maxHeartbeats 4000000
/-- turnpike/check.Check; slots 0:conf, 1:conf, 4:i, 5:there, 6:d, 7:_, 8:r, 9:hosts, 10:i, 11:r, 12:n, 13:i, 14:r, 15:i, 16:r, 17:i, 18:r -/
def f46 (t0 : Sl) (R : (Sl × TFault) → World → Prop) (w : World) : Prop :=
  New 80 (TFault.cells (⟨0, 0, 0⟩ : TFault)) w fun b3 w =>
  Cal Try.prog (Value.int .i64) 93 #[(Sl.v t0)] w fun t20 w =>
  if 0 ≤ t20 then
    RnU Try.prog (Instr.storeAt 80 (Ptr (⟨b3, 0, none⟩ : Addr)) (TFault.v (⟨t20, 0, 2⟩ : TFault))) w fun w =>
    RnR Try.prog TFault.v (loadVar 80 (⟨b3, 0, none⟩ : Addr)) w fun r1 =>
    R (Sl.nil, r1) w
  else
    if 64 < (t0.n : Int) then
      RnU Try.prog (Instr.storeAt 80 (Ptr (⟨b3, 0, none⟩ : Addr)) (TFault.v (⟨0, 0, 124⟩ : TFault))) w fun w =>
      RnR Try.prog TFault.v (loadVar 80 (⟨b3, 0, none⟩ : Addr)) w fun r1_1 =>
      R (Sl.nil, r1_1) w
    else
      NewM w fun b29 w =>
      NewM w fun b30 w =>
      NewM w fun b31 w =>
      New 148 (TDepths.cells (⟨(some b30), (some b31)⟩ : TDepths)) w fun b33 w =>
      Lp (σ := Int) (fun s3 w n3 =>
        if s3 < (t0.n : Int) then
          Jn (σ := Unit) (fun k5 =>
            RnP Try.prog Ptr (Instr.indexAt 22 (Sl.v t0) (.int .i64 s3)) fun t38 =>
            Rn Try.prog TResource.v (Instr.loadAt 48 (Ptr t38)) w fun t39 w =>
            New 48 (TResource.cells (⟨0, ⟨#[]⟩, Sl.nil, Sl.nil, ⟨#[]⟩, Sl.nil, ⟨#[]⟩, false⟩ : TResource)) w fun b8 w =>
            RnU Try.prog (Instr.storeAt 48 (Ptr (⟨b8, 0, none⟩ : Addr)) (TResource.v t39)) w fun w =>
            Rn Try.prog TResource.v (Instr.loadAt 48 (Ptr (⟨b8, 0, none⟩ : Addr))) w fun t41 w =>
            Cal Try.prog TKey.v 63 #[(TResource.v t41)] w fun t42 w =>
            RnU Try.prog (Instr.mapUpdate 115 (.map (some b29)) (TKey.v t42) (.bool true)) w fun w =>
            Rn Try.prog (Value.int .i64) (Instr.loadAt 3 (Ptr ((⟨b8, 0, none⟩ : Addr).add 0))) w fun t44 w =>
            if t44 = 2 then
              Dr w fun w7 w =>
                RnL Try.prog Value.map (Instr.loadAt 145 (Ptr ((⟨b33, 0, none⟩ : Addr).add 0))) w7 fun t49 =>
                RnL Try.prog Value.string (Instr.loadAt 9 (Ptr ((⟨b8, 0, none⟩ : Addr).add 1))) w7 fun t51 =>
                RnL Try.prog TResource.v (Instr.loadAt 48 (Ptr (⟨b8, 0, none⟩ : Addr))) w7 fun t52 =>
                RnU Try.prog (Instr.mapUpdate 145 (.map t49) (.string t51) (TResource.v t52)) w fun w =>
                k5 () w
            else
              k5 () w
          ) fun s5 w =>
            n3 (IntKind.i64.wrap (s3 + 1)) w
        else
          NewM w fun b54 w =>
          Lp (σ := Int) (fun s8 w n8 =>
            if s8 < (t0.n : Int) then
              RnP Try.prog Ptr (Instr.indexAt 22 (Sl.v t0) (.int .i64 s8)) fun t60 =>
              Rn Try.prog TResource.v (Instr.loadAt 48 (Ptr t60)) w fun t61 w =>
              New 48 (TResource.cells (⟨0, ⟨#[]⟩, Sl.nil, Sl.nil, ⟨#[]⟩, Sl.nil, ⟨#[]⟩, false⟩ : TResource)) w fun b11 w =>
              RnU Try.prog (Instr.storeAt 48 (Ptr (⟨b11, 0, none⟩ : Addr)) (TResource.v t61)) w fun w =>
              Rn Try.prog TResource.v (Instr.loadAt 48 (Ptr (⟨b11, 0, none⟩ : Addr))) w fun t62 w =>
              Cal Try.prog (Value.int .i64) 94 #[(TResource.v t62), (.map (some b29))] w fun t64 w =>
              if 0 ≤ t64 then
                RnU Try.prog (Instr.storeAt 80 (Ptr (⟨b3, 0, none⟩ : Addr)) (TFault.v (⟨s8, t64, 140⟩ : TFault))) w fun w =>
                RnR Try.prog TFault.v (loadVar 80 (⟨b3, 0, none⟩ : Addr)) w fun r1_2 =>
                R (Sl.nil, r1_2) w
              else
                n8 (IntKind.i64.wrap (s8 + 1)) w
            else
              Lp (σ := Int) (fun s11 w n11 =>
                if s11 < (t0.n : Int) then
                  Jn (σ := Unit) (fun k13 =>
                    RnP Try.prog Ptr (Instr.indexAt 22 (Sl.v t0) (.int .i64 s11)) fun t76 =>
                    Rn Try.prog TResource.v (Instr.loadAt 48 (Ptr t76)) w fun t77 w =>
                    New 48 (TResource.cells (⟨0, ⟨#[]⟩, Sl.nil, Sl.nil, ⟨#[]⟩, Sl.nil, ⟨#[]⟩, false⟩ : TResource)) w fun b14 w =>
                    RnU Try.prog (Instr.storeAt 48 (Ptr (⟨b14, 0, none⟩ : Addr)) (TResource.v t77)) w fun w =>
                    Jn (σ := Bool) (fun k14 =>
                      Rn Try.prog (Value.int .i64) (Instr.loadAt 3 (Ptr ((⟨b14, 0, none⟩ : Addr).add 0))) w fun t79 w =>
                      if t79 = 3 then
                        Rn Try.prog Value.string (Instr.loadAt 9 (Ptr ((⟨b14, 0, none⟩ : Addr).add 4))) w fun t84 w =>
                        Rn Try.prog Value.bool (Instr.lookup 149 (.map (some b54)) (.string t84) false) w fun t85 w =>
                        k14 t85 w
                      else
                        k14 false w
                    ) fun s14 w =>
                      if s14 = true then
                        RnU Try.prog (Instr.storeAt 80 (Ptr (⟨b3, 0, none⟩ : Addr)) (TFault.v (⟨s11, 0, 141⟩ : TFault))) w fun w =>
                        RnR Try.prog TFault.v (loadVar 80 (⟨b3, 0, none⟩ : Addr)) w fun r1_3 =>
                        R (Sl.nil, r1_3) w
                      else
                        Rn Try.prog Value.string (Instr.loadAt 9 (Ptr ((⟨b14, 0, none⟩ : Addr).add 4))) w fun t91 w =>
                        Rn Try.prog Value.string (Instr.loadAt 9 (Ptr ((⟨b14, 0, none⟩ : Addr).add 4))) w fun t94 w =>
                        Rn Try.prog Value.bool (Instr.lookup 149 (.map (some b54)) (.string t94) false) w fun t95 w =>
                        if t95 = true then
                          RnU Try.prog (Instr.mapUpdate 149 (.map (some b54)) (.string t91) (.bool true)) w fun w =>
                          k13 () w
                        else
                          Rn Try.prog (Value.int .i64) (Instr.loadAt 3 (Ptr ((⟨b14, 0, none⟩ : Addr).add 0))) w fun t98 w =>
                          RnU Try.prog (Instr.mapUpdate 149 (.map (some b54)) (.string t91) (.bool (decide (t98 = 3)))) w fun w =>
                          k13 () w
                  ) fun s13 w =>
                    n11 (IntKind.i64.wrap (s11 + 1)) w
                else
                  Lp (σ := Int) (fun s18 w n18 =>
                    if s18 < (t0.n : Int) then
                      RnP Try.prog Ptr (Instr.indexAt 22 (Sl.v t0) (.int .i64 s18)) fun t107 =>
                      Rn Try.prog TResource.v (Instr.loadAt 48 (Ptr t107)) w fun t108 w =>
                      New 48 (TResource.cells (⟨0, ⟨#[]⟩, Sl.nil, Sl.nil, ⟨#[]⟩, Sl.nil, ⟨#[]⟩, false⟩ : TResource)) w fun b16 w =>
                      RnU Try.prog (Instr.storeAt 48 (Ptr (⟨b16, 0, none⟩ : Addr)) (TResource.v t108)) w fun w =>
                      Jn (σ := Bool) (fun k20 =>
                        Rn Try.prog (Value.int .i64) (Instr.loadAt 3 (Ptr ((⟨b16, 0, none⟩ : Addr).add 0))) w fun t110 w =>
                        if t110 = 2 then
                          Rn Try.prog TResource.v (Instr.loadAt 48 (Ptr (⟨b16, 0, none⟩ : Addr))) w fun t113 w =>
                          Cal Try.prog Value.bool 95 #[(TResource.v t113)] w fun t114 w =>
                          k20 t114 w
                        else
                          k20 false w
                      ) fun s20 w =>
                        if s20 = true then
                          RnU Try.prog (Instr.storeAt 80 (Ptr (⟨b3, 0, none⟩ : Addr)) (TFault.v (⟨s18, 0, 142⟩ : TFault))) w fun w =>
                          RnR Try.prog TFault.v (loadVar 80 (⟨b3, 0, none⟩ : Addr)) w fun r1_4 =>
                          R (Sl.nil, r1_4) w
                        else
                          n18 (IntKind.i64.wrap (s18 + 1)) w
                    else
                      Lp (σ := Int) (fun s23 w n23 =>
                        if s23 < (t0.n : Int) then
                          RnP Try.prog Ptr (Instr.indexAt 22 (Sl.v t0) (.int .i64 s23)) fun t124 =>
                          Rn Try.prog TResource.v (Instr.loadAt 48 (Ptr t124)) w fun t125 w =>
                          New 48 (TResource.cells (⟨0, ⟨#[]⟩, Sl.nil, Sl.nil, ⟨#[]⟩, Sl.nil, ⟨#[]⟩, false⟩ : TResource)) w fun b18 w =>
                          RnU Try.prog (Instr.storeAt 48 (Ptr (⟨b18, 0, none⟩ : Addr)) (TResource.v t125)) w fun w =>
                          Jn (σ := Bool) (fun k25 =>
                            Rn Try.prog (Value.int .i64) (Instr.loadAt 3 (Ptr ((⟨b18, 0, none⟩ : Addr).add 0))) w fun t127 w =>
                            if t127 = 2 then
                              Rn Try.prog Value.string (Instr.loadAt 9 (Ptr ((⟨b18, 0, none⟩ : Addr).add 1))) w fun t132 w =>
                              Cal Try.prog (Value.int .i64) 96 #[(Ptr (⟨b33, 0, none⟩ : Addr)), (.string t132)] w fun t133 w =>
                              k25 (decide (8 < t133)) w
                            else
                              k25 false w
                          ) fun s25 w =>
                            if s25 = true then
                              RnU Try.prog (Instr.storeAt 80 (Ptr (⟨b3, 0, none⟩ : Addr)) (TFault.v (⟨s23, 0, 143⟩ : TFault))) w fun w =>
                              RnR Try.prog TFault.v (loadVar 80 (⟨b3, 0, none⟩ : Addr)) w fun r1_5 =>
                              R (Sl.nil, r1_5) w
                            else
                              n23 (IntKind.i64.wrap (s23 + 1)) w
                        else
                          Cal Try.prog Sl.v 97 #[(Sl.v t0)] w fun t140 w =>
                          RnU Try.prog (Instr.storeAt 80 (Ptr (⟨b3, 0, none⟩ : Addr)) (TFault.v (⟨0, 0, 0⟩ : TFault))) w fun w =>
                          RnR Try.prog TFault.v (loadVar 80 (⟨b3, 0, none⟩ : Addr)) w fun r1_6 =>
                          R (t140, r1_6) w
                      ) 0 w
                  ) 0 w
              ) 0 w
          ) 0 w
      ) 0 w
theorem c46 {t0 : Sl} {R : (Sl × TFault) → World → Prop} {w : World} (h : f46 t0 R w) :
    Cal Try.prog (fun x : Sl × TFault => Value.tuple #[(Sl.v x.1), (TFault.v x.2)]) 46 #[(Sl.v t0)] w R := by
  unfold f46 at h
  refine calls_ Try.func46 Try.ntmps46 rfl rfl ?_
  refine seq_ ?_
  refine region_ ?_
  refine st_val (ex_assign (v := (Sl.v Sl.nil)) rfl) ?_
  refine st_new (f := (fun b => Ptr ⟨b, 0, none⟩)) (ex_allocN zero80 rfl) h ?_; clear h; intro b3 w h
  refine wl_nil ?_
  refine then_n ?_
  refine seq_ ?_
  refine seq_ ?_
  refine region_ ?_
  refine st_val (ex_move (v := (Sl.v t0)) rfl) ?_
  refine st_cal en93 rfl h ?_; clear h; intro t20 w h
  refine st_val (ex_assign (v := (.int .i64 t20)) rfl) ?_
  refine wl_nil ?_
  refine then_n ?_
  refine seq_ ?_
  refine region_ ?_
  refine st_val (ex_move (v := (.int .i64 t20)) rfl) ?_
  refine st_val (ex_geq (a := t20) (b := 0) rfl rfl) ?_
  refine wl_nil ?_
  refine then_n ?_
  by_cases hc1 : 0 ≤ t20
  · rw [if_pos hc1] at h; refine cond_1 (b := (decide (0 ≤ t20))) rfl (decide_eq_true hc1) ?_
    refine seq_ ?_
    refine region_ ?_
    refine st_val (ex_move (v := (.int .i64 t20)) rfl) ?_
    refine st_val (ex_build (a' := [(0, (.int .i64 t20)), (2, (.int .i64 2))]) (v := TFault.v (⟨t20, 0, 2⟩ : TFault)) rfl (e_build Try.underlying80 zero80 rfl pl80 rfl _)) ?_
    refine st_val (ex_assign (v := (Sl.v Sl.nil)) rfl) ?_
    refine st_rnu (fun r => ex_store rfl rfl r) h ?_; clear h; intro w h
    refine wl_nil ?_
    refine then_n ?_
    refine wp_ret ?_
    refine then_r ?_
    obtain ⟨r1, hr1, h⟩ := h
    refine ret_tc rfl rfl rfl hr1 ⟨(Sl.nil, r1), rfl, h⟩
  · rw [if_neg hc1] at h; refine cond_0 (b := (decide (0 ≤ t20))) rfl (decide_eq_false hc1) ?_
    refine wp_skip ?_
    refine then_n ?_
    refine seq_ ?_
    refine seq_ ?_
    refine region_ ?_
    refine st_val (ex_move (v := (Sl.v t0)) rfl) ?_
    refine st_val (ex_len (s := t0) Try.underlying22 rfl) ?_
    refine st_val (ex_gtr (a := (t0.n : Int)) (b := 64) rfl rfl) ?_
    refine wl_nil ?_
    refine then_n ?_
    by_cases hc2 : 64 < (t0.n : Int)
    · rw [if_pos hc2] at h; refine cond_1 (b := (decide (64 < (t0.n : Int)))) rfl (decide_eq_true hc2) ?_
      refine seq_ ?_
      refine region_ ?_
      refine st_val (ex_build (a' := [(2, (.int .i64 124))]) (v := TFault.v (⟨0, 0, 124⟩ : TFault)) rfl (e_build Try.underlying80 zero80 rfl pl80 rfl _)) ?_
      refine st_val (ex_assign (v := (Sl.v Sl.nil)) rfl) ?_
      refine st_rnu (fun r => ex_store rfl rfl r) h ?_; clear h; intro w h
      refine wl_nil ?_
      refine then_n ?_
      refine wp_ret ?_
      refine then_r ?_
      obtain ⟨r1_1, hr1_1, h⟩ := h
      refine ret_tc rfl rfl rfl hr1_1 ⟨(Sl.nil, r1_1), rfl, h⟩
    · rw [if_neg hc2] at h; refine cond_0 (b := (decide (64 < (t0.n : Int)))) rfl (decide_eq_false hc2) ?_
      refine wp_skip ?_
      refine then_n ?_
      refine seq_ ?_
      refine region_ ?_
      refine st_newm (ex_makeMap (e_makeMap _)) h ?_; clear h; intro b29 w h
      refine st_val (ex_assign (v := (.map (some b29))) rfl) ?_
      refine wl_nil ?_
      refine then_n ?_
      refine seq_ ?_
      refine region_ ?_
      refine st_newm (ex_makeMap (e_makeMap _)) h ?_; clear h; intro b30 w h
      refine st_newm (ex_makeMap (e_makeMap _)) h ?_; clear h; intro b31 w h
      refine st_val (ex_build (a' := [(0, (.map (some b30))), (1, (.map (some b31)))]) (v := TDepths.v (⟨(some b30), (some b31)⟩ : TDepths)) rfl (e_build Try.underlying148 zero148 rfl pl148 rfl _)) ?_
      refine st_new (f := (fun b => Ptr ⟨b, 0, none⟩)) (ex_boxN rfl rfl) h ?_; clear h; intro b33 w h
      refine st_val (ex_assign (v := (Ptr (⟨b33, 0, none⟩ : Addr))) rfl) ?_
      refine wl_nil ?_
      refine then_n ?_
      refine seq_ ?_
      refine seq_ ?_
      refine region_ ?_
      refine st_val (ex_move (v := (Sl.v t0)) rfl) ?_
      refine st_val (ex_len (s := t0) Try.underlying22 rfl) ?_
      refine st_val (ex_move (v := (.int .i64 0)) rfl) ?_
      refine wl_nil ?_
      refine then_n ?_
      refine wp_block ?_
      refine wp_lp (σ := Int) (fun s3 a => ∃ j, a = F 142 (upds j [(0, (Sl.v t0)), (3, (Ptr (⟨b3, 0, none⟩ : Addr))), (5, (.map (some b29))), (6, (Ptr (⟨b33, 0, none⟩ : Addr))), (34, (Sl.v t0)), (35, (.int .i64 (t0.n : Int))), (36, (.int .i64 s3))])) h (mk_upds (ae rfl (ae rfl (ae rfl (ae rfl (ae rfl (ae rfl (ae rfl ae0)))))))) ?_
      clear h; rintro s3 _ w n3 ⟨j, rfl⟩ h
      refine seq_ ?_
      refine region_ ?_
      refine st_val (ex_lss (a := s3) (b := (t0.n : Int)) rfl rfl) ?_
      refine wl_nil ?_
      refine then_n ?_
      refine seq_ ?_
      by_cases hc4 : s3 < (t0.n : Int)
      · rw [if_pos hc4] at h; refine cond_1 (b := (decide (s3 < (t0.n : Int)))) rfl (decide_eq_true hc4) ?_
        refine wp_skip ?_
        refine then_n ?_
        refine wp_jn (σ := Unit) (fun s5 l => ∃ j, l = upds j [(0, (Sl.v t0)), (3, (Ptr (⟨b3, 0, none⟩ : Addr))), (5, (.map (some b29))), (6, (Ptr (⟨b33, 0, none⟩ : Addr))), (34, (Sl.v t0)), (35, (.int .i64 (t0.n : Int))), (36, (.int .i64 s3))]) h ?_ ?_
        · clear h; rintro s5 _ w ⟨j, rfl⟩ h
          refine region_ ?_
          refine st_val (ex_add (a := s3) (b := 1) rfl rfl) ?_
          refine st_val (ex_move (v := (.int .i64 (IntKind.i64.wrap (s3 + 1)))) rfl) ?_
          refine wl_nil ?_
          exact then_n ⟨(IntKind.i64.wrap (s3 + 1)), mk_upds (ae rfl (ae rfl (ae rfl (ae rfl (ae rfl (ae rfl (ae rfl ae0))))))), h⟩
        · clear h; intro k5 h
          refine wp_block ?_
          refine seq_ ?_
          refine region_ ?_
          refine st_rnp (fun r => ex_indexAddr rfl rfl r) h ?_; clear h; intro t38 h
          refine st_rn (fun r => ex_load rfl r) h ?_; clear h; intro t39 w h
          refine st_new (f := (fun b => Ptr ⟨b, 0, none⟩)) (ex_allocN zero48 rfl) h ?_; clear h; intro b8 w h
          refine st_rnu (fun r => ex_store rfl rfl r) h ?_; clear h; intro w h
          refine wl_nil ?_
          refine then_n ?_
          refine seq_ ?_
          refine region_ ?_
          refine st_val (ex_move (v := (.map (some b29))) rfl) ?_
          refine st_rn (fun r => ex_load rfl r) h ?_; clear h; intro t41 w h
          refine st_cal en63 rfl h ?_; clear h; intro t42 w h
          refine st_rnu (fun r => ex_mapUpdate rfl rfl rfl r) h ?_; clear h; intro w h
          refine wl_nil ?_
          refine then_n ?_
          refine seq_ ?_
          refine region_ ?_
          refine st_val (ex_fa fa48_0 (p := (⟨b8, 0, none⟩ : Addr)) rfl) ?_
          refine st_rn (fun r => ex_load rfl r) h ?_; clear h; intro t44 w h
          refine st_val (ex_eql (a := t44) (b := 2) rfl rfl) ?_
          refine wl_nil ?_
          refine then_n ?_
          by_cases hc6 : t44 = 2
          · rw [if_pos hc6] at h; refine cond_1 (b := (decide (t44 = 2))) rfl (decide_eq_true hc6) ?_
            refine dr_begin mixed [7] (listed := #[false, false, false, false, false, false, false, false]) rfl (n := 8) rfl h ?_; clear h; intro w7 h
            have hE : Ext w7 w7 := Ext.refl _
            refine dr_takeP (i := 0) (by kernel_rfl) rfl (fun _ _ _ h => h) (fun _ => hE) (fun _ => ex_move (v := (Ptr (⟨b33, 0, none⟩ : Addr))) rfl) ?_
            refine dr_takeP (i := 1) (by kernel_rfl) rfl (fun _ _ _ h => h) (fun _ => hE) (fun _ => ex_nilCheck (p := (⟨b33, 0, none⟩ : Addr)) rfl) ?_
            refine dr_takeP (i := 2) (by kernel_rfl) rfl (fun _ _ _ h => h) (fun _ => hE) (fun _ => ex_fa fa148_0 (p := (⟨b33, 0, none⟩ : Addr)) rfl) ?_
            obtain ⟨t49, ht49, h⟩ := h
            refine dr_take (i := 3) (by kernel_rfl) rfl (fun _ _ _ h => h) hE (fun _ hw => (fun r => ex_load rfl r) (ht49 _ hw)) ?_
            refine dr_takeP (i := 4) (by kernel_rfl) rfl (fun _ _ _ h => h) (fun _ => hE) (fun _ => ex_fa fa48_1 (p := (⟨b8, 0, none⟩ : Addr)) rfl) ?_
            obtain ⟨t51, ht51, h⟩ := h
            refine dr_take (i := 5) (by kernel_rfl) rfl (fun _ _ _ h => h) hE (fun _ hw => (fun r => ex_load rfl r) (ht51 _ hw)) ?_
            obtain ⟨t52, ht52, h⟩ := h
            refine dr_take (i := 6) (by kernel_rfl) rfl (fun _ _ _ h => h) hE (fun _ hw => (fun r => ex_load rfl r) (ht52 _ hw)) ?_
            refine dr_only (i := 7) (by kernel_rfl) rfl rfl ?_
            refine o_rnu (fun r => ex_mapUpdate rfl rfl rfl r) h ?_; clear h; intro w h; refine ⟨noG (by kernel_rfl), ?_⟩
            refine dr_end (by kernel_rfl) ?_
            refine inb_n ?_
            exact then_n ⟨(), _, rfl, mk_upds' (ae rfl (ae rfl (ae rfl (ae rfl (ae rfl (ae rfl (ae rfl ae0))))))), h⟩
          · rw [if_neg hc6] at h; refine cond_0 (b := (decide (t44 = 2))) rfl (decide_eq_false hc6) ?_
            refine wp_skip ?_
            refine inb_n ?_
            exact then_n ⟨(), _, rfl, mk_upds' (ae rfl (ae rfl (ae rfl (ae rfl (ae rfl (ae rfl (ae rfl ae0))))))), h⟩
      · rw [if_neg hc4] at h; refine cond_0 (b := (decide (s3 < (t0.n : Int)))) rfl (decide_eq_false hc4) ?_
        refine wp_exit ?_
        refine then_e ?_
        refine then_e ?_
        refine inb_e ?_
        refine then_n ?_
        refine seq_ ?_
        refine region_ ?_
        refine st_newm (ex_makeMap (e_makeMap _)) h ?_; clear h; intro b54 w h
        refine st_val (ex_assign (v := (.map (some b54))) rfl) ?_
        refine wl_nil ?_
        refine then_n ?_
        refine seq_ ?_
        refine seq_ ?_
        refine region_ ?_
        refine st_val (ex_move (v := (Sl.v t0)) rfl) ?_
        refine st_val (ex_len (s := t0) Try.underlying22 rfl) ?_
        refine st_val (ex_move (v := (.int .i64 0)) rfl) ?_
        refine wl_nil ?_
        refine then_n ?_
        refine wp_block ?_
        refine wp_lp (σ := Int) (fun s8 a => ∃ j, a = F 142 (upds j [(0, (Sl.v t0)), (3, (Ptr (⟨b3, 0, none⟩ : Addr))), (5, (.map (some b29))), (6, (Ptr (⟨b33, 0, none⟩ : Addr))), (9, (.map (some b54))), (55, (Sl.v t0)), (56, (.int .i64 (t0.n : Int))), (57, (.int .i64 s8))])) h (mk_upds (ae rfl (ae rfl (ae rfl (ae rfl (ae rfl (ae rfl (ae rfl (ae rfl ae0))))))))) ?_
        clear h; rintro s8 _ w n8 ⟨j, rfl⟩ h
        refine seq_ ?_
        refine region_ ?_
        refine st_val (ex_lss (a := s8) (b := (t0.n : Int)) rfl rfl) ?_
        refine wl_nil ?_
        refine then_n ?_
        refine seq_ ?_
        by_cases hc9 : s8 < (t0.n : Int)
        · rw [if_pos hc9] at h; refine cond_1 (b := (decide (s8 < (t0.n : Int)))) rfl (decide_eq_true hc9) ?_
          refine wp_skip ?_
          refine then_n ?_
          refine seq_ ?_
          refine wp_block ?_
          refine seq_ ?_
          refine region_ ?_
          refine st_val (ex_move (v := (.int .i64 s8)) rfl) ?_
          refine st_rnp (fun r => ex_indexAddr rfl rfl r) h ?_; clear h; intro t60 h
          refine st_rn (fun r => ex_load rfl r) h ?_; clear h; intro t61 w h
          refine st_new (f := (fun b => Ptr ⟨b, 0, none⟩)) (ex_allocN zero48 rfl) h ?_; clear h; intro b11 w h
          refine st_val (ex_assign (v := (.int .i64 s8)) rfl) ?_
          refine st_rnu (fun r => ex_store rfl rfl r) h ?_; clear h; intro w h
          refine wl_nil ?_
          refine then_n ?_
          refine seq_ ?_
          refine region_ ?_
          refine st_rn (fun r => ex_load rfl r) h ?_; clear h; intro t62 w h
          refine st_val (ex_move (v := (.map (some b29))) rfl) ?_
          refine st_cal en94 rfl h ?_; clear h; intro t64 w h
          refine st_val (ex_assign (v := (.int .i64 t64)) rfl) ?_
          refine wl_nil ?_
          refine then_n ?_
          refine seq_ ?_
          refine region_ ?_
          refine st_val (ex_move (v := (.int .i64 t64)) rfl) ?_
          refine st_val (ex_geq (a := t64) (b := 0) rfl rfl) ?_
          refine wl_nil ?_
          refine then_n ?_
          by_cases hc10 : 0 ≤ t64
          · rw [if_pos hc10] at h; refine cond_1 (b := (decide (0 ≤ t64))) rfl (decide_eq_true hc10) ?_
            refine seq_ ?_
            refine region_ ?_
            refine st_val (ex_move (v := (.int .i64 s8)) rfl) ?_
            refine st_val (ex_move (v := (.int .i64 t64)) rfl) ?_
            refine st_val (ex_build (a' := [(0, (.int .i64 s8)), (1, (.int .i64 t64)), (2, (.int .i64 140))]) (v := TFault.v (⟨s8, t64, 140⟩ : TFault)) rfl (e_build Try.underlying80 zero80 rfl pl80 rfl _)) ?_
            refine st_val (ex_assign (v := (Sl.v Sl.nil)) rfl) ?_
            refine st_rnu (fun r => ex_store rfl rfl r) h ?_; clear h; intro w h
            refine wl_nil ?_
            refine then_n ?_
            refine wp_ret ?_
            refine inb_r ?_
            refine then_r ?_
            refine then_r ?_
            refine inb_r ?_
            refine then_r ?_
            obtain ⟨r1_2, hr1_2, h⟩ := h
            refine ret_tc rfl rfl rfl hr1_2 ⟨(Sl.nil, r1_2), rfl, h⟩
          · rw [if_neg hc10] at h; refine cond_0 (b := (decide (0 ≤ t64))) rfl (decide_eq_false hc10) ?_
            refine wp_skip ?_
            refine inb_n ?_
            refine then_n ?_
            refine region_ ?_
            refine st_val (ex_add (a := s8) (b := 1) rfl rfl) ?_
            refine st_val (ex_move (v := (.int .i64 (IntKind.i64.wrap (s8 + 1)))) rfl) ?_
            refine wl_nil ?_
            exact then_n ⟨(IntKind.i64.wrap (s8 + 1)), mk_upds (ae rfl (ae rfl (ae rfl (ae rfl (ae rfl (ae rfl (ae rfl (ae rfl ae0)))))))), h⟩
        · rw [if_neg hc9] at h; refine cond_0 (b := (decide (s8 < (t0.n : Int)))) rfl (decide_eq_false hc9) ?_
          refine wp_exit ?_
          refine then_e ?_
          refine then_e ?_
          refine inb_e ?_
          refine then_n ?_
          refine seq_ ?_
          refine seq_ ?_
          refine region_ ?_
          refine st_val (ex_move (v := (Sl.v t0)) rfl) ?_
          refine st_val (ex_len (s := t0) Try.underlying22 rfl) ?_
          refine st_val (ex_move (v := (.int .i64 0)) rfl) ?_
          refine wl_nil ?_
          refine then_n ?_
          refine wp_block ?_
          refine wp_lp (σ := Int) (fun s11 a => ∃ j, a = F 142 (upds j [(0, (Sl.v t0)), (3, (Ptr (⟨b3, 0, none⟩ : Addr))), (6, (Ptr (⟨b33, 0, none⟩ : Addr))), (9, (.map (some b54))), (71, (Sl.v t0)), (72, (.int .i64 (t0.n : Int))), (73, (.int .i64 s11))])) h (mk_upds (ae rfl (ae rfl (ae rfl (ae rfl (ae rfl (ae rfl (ae rfl ae0)))))))) ?_
          clear h; rintro s11 _ w n11 ⟨j, rfl⟩ h
          refine seq_ ?_
          refine region_ ?_
          refine st_val (ex_lss (a := s11) (b := (t0.n : Int)) rfl rfl) ?_
          refine wl_nil ?_
          refine then_n ?_
          refine seq_ ?_
          by_cases hc12 : s11 < (t0.n : Int)
          · rw [if_pos hc12] at h; refine cond_1 (b := (decide (s11 < (t0.n : Int)))) rfl (decide_eq_true hc12) ?_
            refine wp_skip ?_
            refine then_n ?_
            refine wp_jn (σ := Unit) (fun s13 l => ∃ j, l = upds j [(0, (Sl.v t0)), (3, (Ptr (⟨b3, 0, none⟩ : Addr))), (6, (Ptr (⟨b33, 0, none⟩ : Addr))), (9, (.map (some b54))), (71, (Sl.v t0)), (72, (.int .i64 (t0.n : Int))), (73, (.int .i64 s11))]) h ?_ ?_
            · clear h; rintro s13 _ w ⟨j, rfl⟩ h
              refine region_ ?_
              refine st_val (ex_add (a := s11) (b := 1) rfl rfl) ?_
              refine st_val (ex_move (v := (.int .i64 (IntKind.i64.wrap (s11 + 1)))) rfl) ?_
              refine wl_nil ?_
              exact then_n ⟨(IntKind.i64.wrap (s11 + 1)), mk_upds (ae rfl (ae rfl (ae rfl (ae rfl (ae rfl (ae rfl (ae rfl ae0))))))), h⟩
            · clear h; intro k13 h
              refine wp_block ?_
              refine seq_ ?_
              refine region_ ?_
              refine st_val (ex_move (v := (.int .i64 s11)) rfl) ?_
              refine st_rnp (fun r => ex_indexAddr rfl rfl r) h ?_; clear h; intro t76 h
              refine st_rn (fun r => ex_load rfl r) h ?_; clear h; intro t77 w h
              refine st_new (f := (fun b => Ptr ⟨b, 0, none⟩)) (ex_allocN zero48 rfl) h ?_; clear h; intro b14 w h
              refine st_val (ex_assign (v := (.int .i64 s11)) rfl) ?_
              refine st_rnu (fun r => ex_store rfl rfl r) h ?_; clear h; intro w h
              refine wl_nil ?_
              refine then_n ?_
              refine seq_ ?_
              refine wp_jn (σ := Bool) (fun s14 l => ∃ j, l = upds j [(0, (Sl.v t0)), (3, (Ptr (⟨b3, 0, none⟩ : Addr))), (6, (Ptr (⟨b33, 0, none⟩ : Addr))), (9, (.map (some b54))), (13, (.int .i64 s11)), (14, (Ptr (⟨b14, 0, none⟩ : Addr))), (71, (Sl.v t0)), (72, (.int .i64 (t0.n : Int))), (73, (.int .i64 s11)), (86, (.bool s14))]) h ?_ ?_
              · clear h; rintro s14 _ w ⟨j, rfl⟩ h
                by_cases hc16 : s14 = true
                · rw [if_pos hc16] at h; refine cond_1 (b := s14) rfl hc16 ?_
                  refine seq_ ?_
                  refine region_ ?_
                  refine st_val (ex_move (v := (.int .i64 s11)) rfl) ?_
                  refine st_val (ex_build (a' := [(0, (.int .i64 s11)), (2, (.int .i64 141))]) (v := TFault.v (⟨s11, 0, 141⟩ : TFault)) rfl (e_build Try.underlying80 zero80 rfl pl80 rfl _)) ?_
                  refine st_val (ex_assign (v := (Sl.v Sl.nil)) rfl) ?_
                  refine st_rnu (fun r => ex_store rfl rfl r) h ?_; clear h; intro w h
                  refine wl_nil ?_
                  refine then_n ?_
                  refine wp_ret ?_
                  refine then_r ?_
                  refine inb_r ?_
                  refine then_r ?_
                  refine then_r ?_
                  refine inb_r ?_
                  refine then_r ?_
                  obtain ⟨r1_3, hr1_3, h⟩ := h
                  refine ret_tc rfl rfl rfl hr1_3 ⟨(Sl.nil, r1_3), rfl, h⟩
                · rw [if_neg hc16] at h; refine cond_0 (b := s14) rfl (Bool.eq_false_iff.2 hc16) ?_
                  refine wp_skip ?_
                  refine then_n ?_
                  refine region_ ?_
                  refine st_val (ex_move (v := (.map (some b54))) rfl) ?_
                  refine st_val (ex_fa fa48_4 (p := (⟨b14, 0, none⟩ : Addr)) rfl) ?_
                  refine st_rn (fun r => ex_load rfl r) h ?_; clear h; intro t91 w h
                  refine st_val (ex_move (v := (.map (some b54))) rfl) ?_
                  refine st_val (ex_fa fa48_4 (p := (⟨b14, 0, none⟩ : Addr)) rfl) ?_
                  refine st_rn (fun r => ex_load rfl r) h ?_; clear h; intro t94 w h
                  refine st_rn (fun r => ex_lookup rfl rfl r) h ?_; clear h; intro t95 w h
                  refine st_val (ex_move (v := (.bool t95)) rfl) ?_
                  by_cases hc17 : t95 = true
                  · rw [if_pos hc17] at h
                    refine st_off (t := 96) (c := t95) rfl rfl hc17 ?_
                    refine st_off (t := 96) (c := t95) rfl rfl hc17 ?_
                    refine st_off (t := 96) (c := t95) rfl rfl hc17 ?_
                    refine st_val (ex_pick1 (b := t95) rfl hc17 (v := (.bool true)) rfl) ?_
                    refine st_rnu (fun r => ex_mapUpdate rfl rfl rfl r) h ?_; clear h; intro w h
                    refine wl_nil ?_
                    refine inb_n ?_
                    exact then_n ⟨(), _, rfl, mk_upds' (ae rfl (ae rfl (ae rfl (ae rfl (ae rfl (ae rfl (ae rfl ae0))))))), h⟩
                  · rw [if_neg hc17] at h
                    refine st_on (t := 96) (c := t95) rfl rfl (Bool.eq_false_iff.2 hc17) ?_
                    refine st_val (ex_fa fa48_0 (p := (⟨b14, 0, none⟩ : Addr)) rfl) ?_
                    refine st_on (t := 96) (c := t95) rfl rfl (Bool.eq_false_iff.2 hc17) ?_
                    refine st_rn (fun r => ex_load rfl r) h ?_; clear h; intro t98 w h
                    refine st_on (t := 96) (c := t95) rfl rfl (Bool.eq_false_iff.2 hc17) ?_
                    refine st_val (ex_eql (a := t98) (b := 3) rfl rfl) ?_
                    refine st_val (ex_pick0 (b := t95) rfl (Bool.eq_false_iff.2 hc17) (v := (.bool (decide (t98 = 3)))) rfl) ?_
                    refine st_rnu (fun r => ex_mapUpdate rfl rfl rfl r) h ?_; clear h; intro w h
                    refine wl_nil ?_
                    refine inb_n ?_
                    exact then_n ⟨(), _, rfl, mk_upds' (ae rfl (ae rfl (ae rfl (ae rfl (ae rfl (ae rfl (ae rfl ae0))))))), h⟩
              · clear h; intro k14 h
                refine region_ ?_
                refine st_val (ex_fa fa48_0 (p := (⟨b14, 0, none⟩ : Addr)) rfl) ?_
                refine st_rn (fun r => ex_load rfl r) h ?_; clear h; intro t79 w h
                refine st_val (ex_eql (a := t79) (b := 3) rfl rfl) ?_
                refine st_val (ex_move (v := (.bool (decide (t79 = 3)))) rfl) ?_
                by_cases hc15 : t79 = 3
                · rw [if_pos hc15] at h
                  refine st_on (t := 81) (c := (decide (t79 = 3))) rfl rfl (decide_eq_true hc15) ?_
                  refine st_val (ex_move (v := (.map (some b54))) rfl) ?_
                  refine st_on (t := 81) (c := (decide (t79 = 3))) rfl rfl (decide_eq_true hc15) ?_
                  refine st_val (ex_fa fa48_4 (p := (⟨b14, 0, none⟩ : Addr)) rfl) ?_
                  refine st_on (t := 81) (c := (decide (t79 = 3))) rfl rfl (decide_eq_true hc15) ?_
                  refine st_rn (fun r => ex_load rfl r) h ?_; clear h; intro t84 w h
                  refine st_on (t := 81) (c := (decide (t79 = 3))) rfl rfl (decide_eq_true hc15) ?_
                  refine st_rn (fun r => ex_lookup rfl rfl r) h ?_; clear h; intro t85 w h
                  refine st_val (ex_pick1 (b := (decide (t79 = 3))) rfl (decide_eq_true hc15) (v := (.bool t85)) rfl) ?_
                  refine wl_nil ?_
                  exact then_n ⟨t85, _, rfl, mk_upds' (ae rfl (ae rfl (ae rfl (ae rfl (ae rfl (ae rfl (ae rfl (ae rfl (ae rfl (ae rfl ae0)))))))))), h⟩
                · rw [if_neg hc15] at h
                  refine st_off (t := 81) (c := (decide (t79 = 3))) rfl rfl (decide_eq_false hc15) ?_
                  refine st_off (t := 81) (c := (decide (t79 = 3))) rfl rfl (decide_eq_false hc15) ?_
                  refine st_off (t := 81) (c := (decide (t79 = 3))) rfl rfl (decide_eq_false hc15) ?_
                  refine st_off (t := 81) (c := (decide (t79 = 3))) rfl rfl (decide_eq_false hc15) ?_
                  refine st_val (ex_pick0 (b := (decide (t79 = 3))) rfl (decide_eq_false hc15) (v := (.bool false)) rfl) ?_
                  refine wl_nil ?_
                  exact then_n ⟨false, _, rfl, mk_upds' (ae rfl (ae rfl (ae rfl (ae rfl (ae rfl (ae rfl (ae rfl (ae rfl (ae rfl (ae rfl ae0)))))))))), h⟩
          · rw [if_neg hc12] at h; refine cond_0 (b := (decide (s11 < (t0.n : Int)))) rfl (decide_eq_false hc12) ?_
            refine wp_exit ?_
            refine then_e ?_
            refine then_e ?_
            refine inb_e ?_
            refine then_n ?_
            refine seq_ ?_
            refine seq_ ?_
            refine region_ ?_
            refine st_val (ex_move (v := (Sl.v t0)) rfl) ?_
            refine st_val (ex_len (s := t0) Try.underlying22 rfl) ?_
            refine st_val (ex_move (v := (.int .i64 0)) rfl) ?_
            refine wl_nil ?_
            refine then_n ?_
            refine wp_block ?_
            refine wp_lp (σ := Int) (fun s18 a => ∃ j, a = F 142 (upds j [(0, (Sl.v t0)), (3, (Ptr (⟨b3, 0, none⟩ : Addr))), (6, (Ptr (⟨b33, 0, none⟩ : Addr))), (102, (Sl.v t0)), (103, (.int .i64 (t0.n : Int))), (104, (.int .i64 s18))])) h (mk_upds (ae rfl (ae rfl (ae rfl (ae rfl (ae rfl (ae rfl ae0))))))) ?_
            clear h; rintro s18 _ w n18 ⟨j, rfl⟩ h
            refine seq_ ?_
            refine region_ ?_
            refine st_val (ex_lss (a := s18) (b := (t0.n : Int)) rfl rfl) ?_
            refine wl_nil ?_
            refine then_n ?_
            refine seq_ ?_
            by_cases hc19 : s18 < (t0.n : Int)
            · rw [if_pos hc19] at h; refine cond_1 (b := (decide (s18 < (t0.n : Int)))) rfl (decide_eq_true hc19) ?_
              refine wp_skip ?_
              refine then_n ?_
              refine seq_ ?_
              refine wp_block ?_
              refine seq_ ?_
              refine region_ ?_
              refine st_val (ex_move (v := (.int .i64 s18)) rfl) ?_
              refine st_rnp (fun r => ex_indexAddr rfl rfl r) h ?_; clear h; intro t107 h
              refine st_rn (fun r => ex_load rfl r) h ?_; clear h; intro t108 w h
              refine st_new (f := (fun b => Ptr ⟨b, 0, none⟩)) (ex_allocN zero48 rfl) h ?_; clear h; intro b16 w h
              refine st_val (ex_assign (v := (.int .i64 s18)) rfl) ?_
              refine st_rnu (fun r => ex_store rfl rfl r) h ?_; clear h; intro w h
              refine wl_nil ?_
              refine then_n ?_
              refine wp_jn (σ := Bool) (fun s20 l => ∃ j, l = upds j [(0, (Sl.v t0)), (3, (Ptr (⟨b3, 0, none⟩ : Addr))), (6, (Ptr (⟨b33, 0, none⟩ : Addr))), (15, (.int .i64 s18)), (102, (Sl.v t0)), (103, (.int .i64 (t0.n : Int))), (104, (.int .i64 s18)), (115, (.bool s20))]) h ?_ ?_
              · clear h; rintro s20 _ w ⟨j, rfl⟩ h
                by_cases hc22 : s20 = true
                · rw [if_pos hc22] at h; refine cond_1 (b := s20) rfl hc22 ?_
                  refine seq_ ?_
                  refine region_ ?_
                  refine st_val (ex_move (v := (.int .i64 s18)) rfl) ?_
                  refine st_val (ex_build (a' := [(0, (.int .i64 s18)), (2, (.int .i64 142))]) (v := TFault.v (⟨s18, 0, 142⟩ : TFault)) rfl (e_build Try.underlying80 zero80 rfl pl80 rfl _)) ?_
                  refine st_val (ex_assign (v := (Sl.v Sl.nil)) rfl) ?_
                  refine st_rnu (fun r => ex_store rfl rfl r) h ?_; clear h; intro w h
                  refine wl_nil ?_
                  refine then_n ?_
                  refine wp_ret ?_
                  refine inb_r ?_
                  refine then_r ?_
                  refine then_r ?_
                  refine inb_r ?_
                  refine then_r ?_
                  obtain ⟨r1_4, hr1_4, h⟩ := h
                  refine ret_tc rfl rfl rfl hr1_4 ⟨(Sl.nil, r1_4), rfl, h⟩
                · rw [if_neg hc22] at h; refine cond_0 (b := s20) rfl (Bool.eq_false_iff.2 hc22) ?_
                  refine wp_skip ?_
                  refine inb_n ?_
                  refine then_n ?_
                  refine region_ ?_
                  refine st_val (ex_add (a := s18) (b := 1) rfl rfl) ?_
                  refine st_val (ex_move (v := (.int .i64 (IntKind.i64.wrap (s18 + 1)))) rfl) ?_
                  refine wl_nil ?_
                  exact then_n ⟨(IntKind.i64.wrap (s18 + 1)), mk_upds (ae rfl (ae rfl (ae rfl (ae rfl (ae rfl (ae rfl ae0)))))), h⟩
              · clear h; intro k20 h
                refine region_ ?_
                refine st_val (ex_fa fa48_0 (p := (⟨b16, 0, none⟩ : Addr)) rfl) ?_
                refine st_rn (fun r => ex_load rfl r) h ?_; clear h; intro t110 w h
                refine st_val (ex_eql (a := t110) (b := 2) rfl rfl) ?_
                refine st_val (ex_move (v := (.bool (decide (t110 = 2)))) rfl) ?_
                by_cases hc21 : t110 = 2
                · rw [if_pos hc21] at h
                  refine st_on (t := 112) (c := (decide (t110 = 2))) rfl rfl (decide_eq_true hc21) ?_
                  refine st_rn (fun r => ex_load rfl r) h ?_; clear h; intro t113 w h
                  refine st_on (t := 112) (c := (decide (t110 = 2))) rfl rfl (decide_eq_true hc21) ?_
                  refine st_cal en95 rfl h ?_; clear h; intro t114 w h
                  refine st_val (ex_pick1 (b := (decide (t110 = 2))) rfl (decide_eq_true hc21) (v := (.bool t114)) rfl) ?_
                  refine wl_nil ?_
                  exact then_n ⟨t114, _, rfl, mk_upds' (ae rfl (ae rfl (ae rfl (ae rfl (ae rfl (ae rfl (ae rfl (ae rfl ae0)))))))), h⟩
                · rw [if_neg hc21] at h
                  refine st_off (t := 112) (c := (decide (t110 = 2))) rfl rfl (decide_eq_false hc21) ?_
                  refine st_off (t := 112) (c := (decide (t110 = 2))) rfl rfl (decide_eq_false hc21) ?_
                  refine st_val (ex_pick0 (b := (decide (t110 = 2))) rfl (decide_eq_false hc21) (v := (.bool false)) rfl) ?_
                  refine wl_nil ?_
                  exact then_n ⟨false, _, rfl, mk_upds' (ae rfl (ae rfl (ae rfl (ae rfl (ae rfl (ae rfl (ae rfl (ae rfl ae0)))))))), h⟩
            · rw [if_neg hc19] at h; refine cond_0 (b := (decide (s18 < (t0.n : Int)))) rfl (decide_eq_false hc19) ?_
              refine wp_exit ?_
              refine then_e ?_
              refine then_e ?_
              refine inb_e ?_
              refine then_n ?_
              refine seq_ ?_
              refine seq_ ?_
              refine region_ ?_
              refine st_val (ex_move (v := (Sl.v t0)) rfl) ?_
              refine st_val (ex_len (s := t0) Try.underlying22 rfl) ?_
              refine st_val (ex_move (v := (.int .i64 0)) rfl) ?_
              refine wl_nil ?_
              refine then_n ?_
              refine wp_block ?_
              refine wp_lp (σ := Int) (fun s23 a => ∃ j, a = F 142 (upds j [(0, (Sl.v t0)), (3, (Ptr (⟨b3, 0, none⟩ : Addr))), (6, (Ptr (⟨b33, 0, none⟩ : Addr))), (119, (Sl.v t0)), (120, (.int .i64 (t0.n : Int))), (121, (.int .i64 s23))])) h (mk_upds (ae rfl (ae rfl (ae rfl (ae rfl (ae rfl (ae rfl ae0))))))) ?_
              clear h; rintro s23 _ w n23 ⟨j, rfl⟩ h
              refine seq_ ?_
              refine region_ ?_
              refine st_val (ex_lss (a := s23) (b := (t0.n : Int)) rfl rfl) ?_
              refine wl_nil ?_
              refine then_n ?_
              refine seq_ ?_
              by_cases hc24 : s23 < (t0.n : Int)
              · rw [if_pos hc24] at h; refine cond_1 (b := (decide (s23 < (t0.n : Int)))) rfl (decide_eq_true hc24) ?_
                refine wp_skip ?_
                refine then_n ?_
                refine seq_ ?_
                refine wp_block ?_
                refine seq_ ?_
                refine region_ ?_
                refine st_val (ex_move (v := (.int .i64 s23)) rfl) ?_
                refine st_rnp (fun r => ex_indexAddr rfl rfl r) h ?_; clear h; intro t124 h
                refine st_rn (fun r => ex_load rfl r) h ?_; clear h; intro t125 w h
                refine st_new (f := (fun b => Ptr ⟨b, 0, none⟩)) (ex_allocN zero48 rfl) h ?_; clear h; intro b18 w h
                refine st_val (ex_assign (v := (.int .i64 s23)) rfl) ?_
                refine st_rnu (fun r => ex_store rfl rfl r) h ?_; clear h; intro w h
                refine wl_nil ?_
                refine then_n ?_
                refine wp_jn (σ := Bool) (fun s25 l => ∃ j, l = upds j [(0, (Sl.v t0)), (3, (Ptr (⟨b3, 0, none⟩ : Addr))), (6, (Ptr (⟨b33, 0, none⟩ : Addr))), (17, (.int .i64 s23)), (119, (Sl.v t0)), (120, (.int .i64 (t0.n : Int))), (121, (.int .i64 s23)), (135, (.bool s25))]) h ?_ ?_
                · clear h; rintro s25 _ w ⟨j, rfl⟩ h
                  by_cases hc27 : s25 = true
                  · rw [if_pos hc27] at h; refine cond_1 (b := s25) rfl hc27 ?_
                    refine seq_ ?_
                    refine region_ ?_
                    refine st_val (ex_move (v := (.int .i64 s23)) rfl) ?_
                    refine st_val (ex_build (a' := [(0, (.int .i64 s23)), (2, (.int .i64 143))]) (v := TFault.v (⟨s23, 0, 143⟩ : TFault)) rfl (e_build Try.underlying80 zero80 rfl pl80 rfl _)) ?_
                    refine st_val (ex_assign (v := (Sl.v Sl.nil)) rfl) ?_
                    refine st_rnu (fun r => ex_store rfl rfl r) h ?_; clear h; intro w h
                    refine wl_nil ?_
                    refine then_n ?_
                    refine wp_ret ?_
                    refine inb_r ?_
                    refine then_r ?_
                    refine then_r ?_
                    refine inb_r ?_
                    refine then_r ?_
                    obtain ⟨r1_5, hr1_5, h⟩ := h
                    refine ret_tc rfl rfl rfl hr1_5 ⟨(Sl.nil, r1_5), rfl, h⟩
                  · rw [if_neg hc27] at h; refine cond_0 (b := s25) rfl (Bool.eq_false_iff.2 hc27) ?_
                    refine wp_skip ?_
                    refine inb_n ?_
                    refine then_n ?_
                    refine region_ ?_
                    refine st_val (ex_add (a := s23) (b := 1) rfl rfl) ?_
                    refine st_val (ex_move (v := (.int .i64 (IntKind.i64.wrap (s23 + 1)))) rfl) ?_
                    refine wl_nil ?_
                    exact then_n ⟨(IntKind.i64.wrap (s23 + 1)), mk_upds (ae rfl (ae rfl (ae rfl (ae rfl (ae rfl (ae rfl ae0)))))), h⟩
                · clear h; intro k25 h
                  refine region_ ?_
                  refine st_val (ex_fa fa48_0 (p := (⟨b18, 0, none⟩ : Addr)) rfl) ?_
                  refine st_rn (fun r => ex_load rfl r) h ?_; clear h; intro t127 w h
                  refine st_val (ex_eql (a := t127) (b := 2) rfl rfl) ?_
                  refine st_val (ex_move (v := (.bool (decide (t127 = 2)))) rfl) ?_
                  by_cases hc26 : t127 = 2
                  · rw [if_pos hc26] at h
                    refine st_on (t := 129) (c := (decide (t127 = 2))) rfl rfl (decide_eq_true hc26) ?_
                    refine st_val (ex_move (v := (Ptr (⟨b33, 0, none⟩ : Addr))) rfl) ?_
                    refine st_on (t := 129) (c := (decide (t127 = 2))) rfl rfl (decide_eq_true hc26) ?_
                    refine st_val (ex_fa fa48_1 (p := (⟨b18, 0, none⟩ : Addr)) rfl) ?_
                    refine st_on (t := 129) (c := (decide (t127 = 2))) rfl rfl (decide_eq_true hc26) ?_
                    refine st_rn (fun r => ex_load rfl r) h ?_; clear h; intro t132 w h
                    refine st_on (t := 129) (c := (decide (t127 = 2))) rfl rfl (decide_eq_true hc26) ?_
                    refine st_cal en96 rfl h ?_; clear h; intro t133 w h
                    refine st_on (t := 129) (c := (decide (t127 = 2))) rfl rfl (decide_eq_true hc26) ?_
                    refine st_val (ex_gtr (a := t133) (b := 8) rfl rfl) ?_
                    refine st_val (ex_pick1 (b := (decide (t127 = 2))) rfl (decide_eq_true hc26) (v := (.bool (decide (8 < t133)))) rfl) ?_
                    refine wl_nil ?_
                    exact then_n ⟨(decide (8 < t133)), _, rfl, mk_upds' (ae rfl (ae rfl (ae rfl (ae rfl (ae rfl (ae rfl (ae rfl (ae rfl ae0)))))))), h⟩
                  · rw [if_neg hc26] at h
                    refine st_off (t := 129) (c := (decide (t127 = 2))) rfl rfl (decide_eq_false hc26) ?_
                    refine st_off (t := 129) (c := (decide (t127 = 2))) rfl rfl (decide_eq_false hc26) ?_
                    refine st_off (t := 129) (c := (decide (t127 = 2))) rfl rfl (decide_eq_false hc26) ?_
                    refine st_off (t := 129) (c := (decide (t127 = 2))) rfl rfl (decide_eq_false hc26) ?_
                    refine st_off (t := 129) (c := (decide (t127 = 2))) rfl rfl (decide_eq_false hc26) ?_
                    refine st_val (ex_pick0 (b := (decide (t127 = 2))) rfl (decide_eq_false hc26) (v := (.bool false)) rfl) ?_
                    refine wl_nil ?_
                    exact then_n ⟨false, _, rfl, mk_upds' (ae rfl (ae rfl (ae rfl (ae rfl (ae rfl (ae rfl (ae rfl (ae rfl ae0)))))))), h⟩
              · rw [if_neg hc24] at h; refine cond_0 (b := (decide (s23 < (t0.n : Int)))) rfl (decide_eq_false hc24) ?_
                refine wp_exit ?_
                refine then_e ?_
                refine then_e ?_
                refine inb_e ?_
                refine then_n ?_
                refine seq_ ?_
                refine region_ ?_
                refine st_val (ex_move (v := (Sl.v t0)) rfl) ?_
                refine st_cal en97 rfl h ?_; clear h; intro t140 w h
                refine st_val (ex_build (a' := []) (v := TFault.v (⟨0, 0, 0⟩ : TFault)) rfl (e_build Try.underlying80 zero80 rfl pl80 rfl _)) ?_
                refine st_val (ex_assign (v := (Sl.v t140)) rfl) ?_
                refine st_rnu (fun r => ex_store rfl rfl r) h ?_; clear h; intro w h
                refine wl_nil ?_
                refine then_n ?_
                refine wp_ret ?_
                obtain ⟨r1_6, hr1_6, h⟩ := h
                refine ret_tc rfl rfl rfl hr1_6 ⟨(t140, r1_6), rfl, h⟩


end Go.Proofs.Ytdoeegfcmbcbkaa.Tr

