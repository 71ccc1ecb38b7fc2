/- A part of the proof whose last text is YtdoeegfcmbcbkaaCZ4. -/
import Derived.Test.YtdoeegfcmbcbkaaCZ0
set_option linter.all false
namespace Go.Proofs.Ytdoeegfcmbcbkaa.Tr
open Go Go.Eng
set_option linter.unusedVariables false
set_option maxRecDepth 100000
set_option maxHeartbeats 4000000
def f46 (t0 : Sl) (R : (Sl × TFault) → World → Prop) (w : World) : Prop :=
 New 80 (TFault.cells (⟨0, 0, 0⟩ : TFault)) w fun b3 w =>
 Cal Try.prog (Value.int .i64) 93 #[(Sl.v t0)] w fun t20 w =>
 if 0 ≤ t20 then
  RnU Try.prog (Instr.storeAt 80 (Ptr (⟨b3, 0, none⟩ : Addr)) (TFault.v (⟨t20, 0, 2⟩ : TFault))) w fun w =>
  RnR Try.prog TFault.v (loadVar 80 (⟨b3, 0, none⟩ : Addr)) w fun r1 =>
  R (Sl.nil, r1) w
 else
  if 64 < (t0.n : Int) then
   RnU Try.prog (Instr.storeAt 80 (Ptr (⟨b3, 0, none⟩ : Addr)) (TFault.v (⟨0, 0, 124⟩ : TFault))) w fun w =>
   RnR Try.prog TFault.v (loadVar 80 (⟨b3, 0, none⟩ : Addr)) w fun r1_1 =>
   R (Sl.nil, r1_1) w
  else
   NewM w fun b29 w =>
   NewM w fun b30 w =>
   NewM w fun b31 w =>
   New 148 (TDepths.cells (⟨(some b30), (some b31)⟩ : TDepths)) w fun b33 w =>
   Lp (σ := Int) (fun s3 w n3 =>
    if s3 < (t0.n : Int) then
     Jn (σ := Unit) (fun k5 =>
      RnP Try.prog Ptr (Instr.indexAt 22 (Sl.v t0) (.int .i64 s3)) fun t38 =>
      Rn Try.prog TResource.v (Instr.loadAt 48 (Ptr t38)) w fun t39 w =>
      New 48 (TResource.cells (⟨0, ⟨#[]⟩, Sl.nil, Sl.nil, ⟨#[]⟩, Sl.nil, ⟨#[]⟩, false⟩ : TResource)) w fun b8 w =>
      RnU Try.prog (Instr.storeAt 48 (Ptr (⟨b8, 0, none⟩ : Addr)) (TResource.v t39)) w fun w =>
      Rn Try.prog TResource.v (Instr.loadAt 48 (Ptr (⟨b8, 0, none⟩ : Addr))) w fun t41 w =>
      Cal Try.prog TKey.v 63 #[(TResource.v t41)] w fun t42 w =>
      RnU Try.prog (Instr.mapUpdate 115 (.map (some b29)) (TKey.v t42) (.bool true)) w fun w =>
      Rn Try.prog (Value.int .i64) (Instr.loadAt 3 (Ptr ((⟨b8, 0, none⟩ : Addr).add 0))) w fun t44 w =>
      if t44 = 2 then
       Dr w fun w7 w =>
        RnL Try.prog Value.map (Instr.loadAt 145 (Ptr ((⟨b33, 0, none⟩ : Addr).add 0))) w7 fun t49 =>
        RnL Try.prog Value.string (Instr.loadAt 9 (Ptr ((⟨b8, 0, none⟩ : Addr).add 1))) w7 fun t51 =>
        RnL Try.prog TResource.v (Instr.loadAt 48 (Ptr (⟨b8, 0, none⟩ : Addr))) w7 fun t52 =>
        RnU Try.prog (Instr.mapUpdate 145 (.map t49) (.string t51) (TResource.v t52)) w fun w =>
        k5 () w
      else
       k5 () w
     ) fun s5 w =>
      n3 (IntKind.i64.wrap (s3 + 1)) w
    else
     NewM w fun b54 w =>
     Lp (σ := Int) (fun s8 w n8 =>
      if s8 < (t0.n : Int) then
       RnP Try.prog Ptr (Instr.indexAt 22 (Sl.v t0) (.int .i64 s8)) fun t60 =>
       Rn Try.prog TResource.v (Instr.loadAt 48 (Ptr t60)) w fun t61 w =>
       New 48 (TResource.cells (⟨0, ⟨#[]⟩, Sl.nil, Sl.nil, ⟨#[]⟩, Sl.nil, ⟨#[]⟩, false⟩ : TResource)) w fun b11 w =>
       RnU Try.prog (Instr.storeAt 48 (Ptr (⟨b11, 0, none⟩ : Addr)) (TResource.v t61)) w fun w =>
       Rn Try.prog TResource.v (Instr.loadAt 48 (Ptr (⟨b11, 0, none⟩ : Addr))) w fun t62 w =>
       Cal Try.prog (Value.int .i64) 94 #[(TResource.v t62), (.map (some b29))] w fun t64 w =>
       if 0 ≤ t64 then
        RnU Try.prog (Instr.storeAt 80 (Ptr (⟨b3, 0, none⟩ : Addr)) (TFault.v (⟨s8, t64, 140⟩ : TFault))) w fun w =>
        RnR Try.prog TFault.v (loadVar 80 (⟨b3, 0, none⟩ : Addr)) w fun r1_2 =>
        R (Sl.nil, r1_2) w
       else
        n8 (IntKind.i64.wrap (s8 + 1)) w
      else
       Lp (σ := Int) (fun s11 w n11 =>
        if s11 < (t0.n : Int) then
         Jn (σ := Unit) (fun k13 =>
          RnP Try.prog Ptr (Instr.indexAt 22 (Sl.v t0) (.int .i64 s11)) fun t76 =>
          Rn Try.prog TResource.v (Instr.loadAt 48 (Ptr t76)) w fun t77 w =>
          New 48 (TResource.cells (⟨0, ⟨#[]⟩, Sl.nil, Sl.nil, ⟨#[]⟩, Sl.nil, ⟨#[]⟩, false⟩ : TResource)) w fun b14 w =>
          RnU Try.prog (Instr.storeAt 48 (Ptr (⟨b14, 0, none⟩ : Addr)) (TResource.v t77)) w fun w =>
          Jn (σ := Bool) (fun k14 =>
           Rn Try.prog (Value.int .i64) (Instr.loadAt 3 (Ptr ((⟨b14, 0, none⟩ : Addr).add 0))) w fun t79 w =>
           if t79 = 3 then
            Rn Try.prog Value.string (Instr.loadAt 9 (Ptr ((⟨b14, 0, none⟩ : Addr).add 4))) w fun t84 w =>
            Rn Try.prog Value.bool (Instr.lookup 149 (.map (some b54)) (.string t84) false) w fun t85 w =>
            k14 t85 w
           else
            k14 false w
          ) fun s14 w =>
           if s14 = true then
            RnU Try.prog (Instr.storeAt 80 (Ptr (⟨b3, 0, none⟩ : Addr)) (TFault.v (⟨s11, 0, 141⟩ : TFault))) w fun w =>
            RnR Try.prog TFault.v (loadVar 80 (⟨b3, 0, none⟩ : Addr)) w fun r1_3 =>
            R (Sl.nil, r1_3) w
           else
            Rn Try.prog Value.string (Instr.loadAt 9 (Ptr ((⟨b14, 0, none⟩ : Addr).add 4))) w fun t91 w =>
            Rn Try.prog Value.string (Instr.loadAt 9 (Ptr ((⟨b14, 0, none⟩ : Addr).add 4))) w fun t94 w =>
            Rn Try.prog Value.bool (Instr.lookup 149 (.map (some b54)) (.string t94) false) w fun t95 w =>
            if t95 = true then
             RnU Try.prog (Instr.mapUpdate 149 (.map (some b54)) (.string t91) (.bool true)) w fun w =>
             k13 () w
            else
             Rn Try.prog (Value.int .i64) (Instr.loadAt 3 (Ptr ((⟨b14, 0, none⟩ : Addr).add 0))) w fun t98 w =>
             RnU Try.prog (Instr.mapUpdate 149 (.map (some b54)) (.string t91) (.bool (decide (t98 = 3)))) w fun w =>
             k13 () w
         ) fun s13 w =>
          n11 (IntKind.i64.wrap (s11 + 1)) w
        else
         Lp (σ := Int) (fun s18 w n18 =>
          if s18 < (t0.n : Int) then
           RnP Try.prog Ptr (Instr.indexAt 22 (Sl.v t0) (.int .i64 s18)) fun t107 =>
           Rn Try.prog TResource.v (Instr.loadAt 48 (Ptr t107)) w fun t108 w =>
           New 48 (TResource.cells (⟨0, ⟨#[]⟩, Sl.nil, Sl.nil, ⟨#[]⟩, Sl.nil, ⟨#[]⟩, false⟩ : TResource)) w fun b16 w =>
           RnU Try.prog (Instr.storeAt 48 (Ptr (⟨b16, 0, none⟩ : Addr)) (TResource.v t108)) w fun w =>
           Jn (σ := Bool) (fun k20 =>
            Rn Try.prog (Value.int .i64) (Instr.loadAt 3 (Ptr ((⟨b16, 0, none⟩ : Addr).add 0))) w fun t110 w =>
            if t110 = 2 then
             Rn Try.prog TResource.v (Instr.loadAt 48 (Ptr (⟨b16, 0, none⟩ : Addr))) w fun t113 w =>
             Cal Try.prog Value.bool 95 #[(TResource.v t113)] w fun t114 w =>
             k20 t114 w
            else
             k20 false w
           ) fun s20 w =>
            if s20 = true then
             RnU Try.prog (Instr.storeAt 80 (Ptr (⟨b3, 0, none⟩ : Addr)) (TFault.v (⟨s18, 0, 142⟩ : TFault))) w fun w =>
             RnR Try.prog TFault.v (loadVar 80 (⟨b3, 0, none⟩ : Addr)) w fun r1_4 =>
             R (Sl.nil, r1_4) w
            else
             n18 (IntKind.i64.wrap (s18 + 1)) w
          else
           Lp (σ := Int) (fun s23 w n23 =>
            if s23 < (t0.n : Int) then
             RnP Try.prog Ptr (Instr.indexAt 22 (Sl.v t0) (.int .i64 s23)) fun t124 =>
             Rn Try.prog TResource.v (Instr.loadAt 48 (Ptr t124)) w fun t125 w =>
             New 48 (TResource.cells (⟨0, ⟨#[]⟩, Sl.nil, Sl.nil, ⟨#[]⟩, Sl.nil, ⟨#[]⟩, false⟩ : TResource)) w fun b18 w =>
             RnU Try.prog (Instr.storeAt 48 (Ptr (⟨b18, 0, none⟩ : Addr)) (TResource.v t125)) w fun w =>
             Jn (σ := Bool) (fun k25 =>
              Rn Try.prog (Value.int .i64) (Instr.loadAt 3 (Ptr ((⟨b18, 0, none⟩ : Addr).add 0))) w fun t127 w =>
              if t127 = 2 then
               Rn Try.prog Value.string (Instr.loadAt 9 (Ptr ((⟨b18, 0, none⟩ : Addr).add 1))) w fun t132 w =>
               Cal Try.prog (Value.int .i64) 96 #[(Ptr (⟨b33, 0, none⟩ : Addr)), (.string t132)] w fun t133 w =>
               k25 (decide (8 < t133)) w
              else
               k25 false w
             ) fun s25 w =>
              if s25 = true then
               RnU Try.prog (Instr.storeAt 80 (Ptr (⟨b3, 0, none⟩ : Addr)) (TFault.v (⟨s23, 0, 143⟩ : TFault))) w fun w =>
               RnR Try.prog TFault.v (loadVar 80 (⟨b3, 0, none⟩ : Addr)) w fun r1_5 =>
               R (Sl.nil, r1_5) w
              else
               n23 (IntKind.i64.wrap (s23 + 1)) w
            else
             Cal Try.prog Sl.v 97 #[(Sl.v t0)] w fun t140 w =>
             RnU Try.prog (Instr.storeAt 80 (Ptr (⟨b3, 0, none⟩ : Addr)) (TFault.v (⟨0, 0, 0⟩ : TFault))) w fun w =>
             RnR Try.prog TFault.v (loadVar 80 (⟨b3, 0, none⟩ : Addr)) w fun r1_6 =>
             R (t140, r1_6) w
           ) 0 w
         ) 0 w
       ) 0 w
     ) 0 w
   ) 0 w
theorem c46 {t0 : Sl} {R : (Sl × TFault) → World → Prop} {w : World} (h : f46 t0 R w) :
  Cal Try.prog (fun x : Sl × TFault => Value.tuple #[(Sl.v x.1), (TFault.v x.2)]) 46 #[(Sl.v t0)] w R := by
 unfold f46 at h
 refine calls_ Try.func46 Try.ntmps46 rfl rfl <| seq_ <| region_ <| asg (Sl.v Sl.nil) rfl ?_
 refine st_new (f := (fun b => Ptr ⟨b, 0, none⟩)) (ex_allocN zero80 rfl) h ?_; clear h; intro b3 w h
 refine wl_nil <| then_n <| seq_ <| seq_ <| region_ <| mv (Sl.v t0) rfl ?_
 refine st_cal en93 rfl h ?_; clear h; intro t20 w h
 refine asg (.int .i64 t20) rfl <| wl_nil <| then_n <| seq_ <| region_ <| mv (.int .i64 t20) rfl <| st_val (ex_geq (a := t20) (b := 0) rfl rfl) <| wl_nil <| then_n ?_
 by_cases hc1 : 0 ≤ t20
 ·rw [if_pos hc1] at h; refine cond_1 (b := (decide (0 ≤ t20))) rfl (decide_eq_true hc1) ?_
  refine seq_ <| region_ <| mv (.int .i64 t20) rfl <| st_val (ex_build (a' := [(0, (.int .i64 t20)), (2, (.int .i64 2))]) (v := TFault.v (⟨t20, 0, 2⟩ : TFault)) rfl (e_build Try.underlying80 zero80 rfl pl80 rfl _)) <| asg (Sl.v Sl.nil) rfl ?_
  refine st_rnu (fun r => ex_store rfl rfl r) h ?_; clear h; intro w h
  refine wl_nil <| then_n <| wp_ret <| then_r ?_
  obtain ⟨r1, hr1, h⟩ := h
  refine ret_tc rfl rfl rfl hr1 ⟨(Sl.nil, r1), rfl, h⟩
 ·rw [if_neg hc1] at h; refine cond_0 (b := (decide (0 ≤ t20))) rfl (decide_eq_false hc1) ?_
  refine wp_skip <| then_n <| seq_ <| seq_ <| region_ <| mv (Sl.v t0) rfl <| st_val (ex_len (s := t0) Try.underlying22 rfl) <| st_val (ex_gtr (a := (t0.n : Int)) (b := 64) rfl rfl) <| wl_nil <| then_n ?_
  by_cases hc2 : 64 < (t0.n : Int)
  ·rw [if_pos hc2] at h; refine cond_1 (b := (decide (64 < (t0.n : Int)))) rfl (decide_eq_true hc2) ?_
   refine seq_ <| region_ <| st_val (ex_build (a' := [(2, (.int .i64 124))]) (v := TFault.v (⟨0, 0, 124⟩ : TFault)) rfl (e_build Try.underlying80 zero80 rfl pl80 rfl _)) <| asg (Sl.v Sl.nil) rfl ?_
   refine st_rnu (fun r => ex_store rfl rfl r) h ?_; clear h; intro w h
   refine wl_nil <| then_n <| wp_ret <| then_r ?_
   obtain ⟨r1_1, hr1_1, h⟩ := h
   refine ret_tc rfl rfl rfl hr1_1 ⟨(Sl.nil, r1_1), rfl, h⟩
  ·rw [if_neg hc2] at h; refine cond_0 (b := (decide (64 < (t0.n : Int)))) rfl (decide_eq_false hc2) ?_
   refine wp_skip <| then_n <| seq_ <| region_ ?_
   refine st_newm (ex_makeMap (e_makeMap _)) h ?_; clear h; intro b29 w h
   refine asg (.map (some b29)) rfl <| wl_nil <| then_n <| seq_ <| region_ ?_
   refine st_newm (ex_makeMap (e_makeMap _)) h ?_; clear h; intro b30 w h
   refine st_newm (ex_makeMap (e_makeMap _)) h ?_; clear h; intro b31 w h
   refine st_val (ex_build (a' := [(0, (.map (some b30))), (1, (.map (some b31)))]) (v := TDepths.v (⟨(some b30), (some b31)⟩ : TDepths)) rfl (e_build Try.underlying148 zero148 rfl pl148 rfl _)) ?_
   refine st_new (f := (fun b => Ptr ⟨b, 0, none⟩)) (ex_boxN rfl rfl) h ?_; clear h; intro b33 w h
   refine asg (Ptr (⟨b33, 0, none⟩ : Addr)) rfl <| wl_nil <| then_n <| seq_ <| seq_ <| region_ <| mv (Sl.v t0) rfl <| st_val (ex_len (s := t0) Try.underlying22 rfl) <| mv (.int .i64 0) rfl <| wl_nil ?_
   refine then_n <| wp_block <| wp_lp (σ := Int) (fun s3 a => ∃ j, a = F 142 (upds j [(0, (Sl.v t0)), (3, (Ptr (⟨b3, 0, none⟩ : Addr))), (5, (.map (some b29))), (6, (Ptr (⟨b33, 0, none⟩ : Addr))), (34, (Sl.v t0)), (35, (.int .i64 (t0.n : Int))), (36, (.int .i64 s3))])) h (mk_upds (ae rfl (ae rfl (ae rfl (ae rfl (ae rfl (ae rfl (ae rfl ae0)))))))) ?_
   clear h; rintro s3 _ w n3 ⟨j, rfl⟩ h
   refine seq_ <| region_ <| st_val (ex_lss (a := s3) (b := (t0.n : Int)) rfl rfl) <| wl_nil <| then_n <| seq_ ?_
   by_cases hc4 : s3 < (t0.n : Int)
   ·rw [if_pos hc4] at h; refine cond_1 (b := (decide (s3 < (t0.n : Int)))) rfl (decide_eq_true hc4) ?_
    refine wp_skip <| then_n ?_
    refine wp_jn (σ := Unit) (fun s5 l => ∃ j, l = upds j [(0, (Sl.v t0)), (3, (Ptr (⟨b3, 0, none⟩ : Addr))), (5, (.map (some b29))), (6, (Ptr (⟨b33, 0, none⟩ : Addr))), (34, (Sl.v t0)), (35, (.int .i64 (t0.n : Int))), (36, (.int .i64 s3))]) h ?_ ?_
    ·clear h; rintro s5 _ w ⟨j, rfl⟩ h
     refine region_ <| st_val (ex_add (a := s3) (b := 1) rfl rfl) <| mv (.int .i64 (IntKind.i64.wrap (s3 + 1))) rfl <| wl_nil ?_
     exact then_n ⟨(IntKind.i64.wrap (s3 + 1)), mk_upds (ae rfl (ae rfl (ae rfl (ae rfl (ae rfl (ae rfl (ae rfl ae0))))))), h⟩
    ·clear h; intro k5 h
     refine wp_block <| seq_ <| region_ ?_
     refine st_rnp (fun r => ex_indexAddr rfl rfl r) h ?_; clear h; intro t38 h
     refine st_rn (fun r => ex_load rfl r) h ?_; clear h; intro t39 w h
     refine st_new (f := (fun b => Ptr ⟨b, 0, none⟩)) (ex_allocN zero48 rfl) h ?_; clear h; intro b8 w h
     refine st_rnu (fun r => ex_store rfl rfl r) h ?_; clear h; intro w h
     refine wl_nil <| then_n <| seq_ <| region_ <| mv (.map (some b29)) rfl ?_
     refine st_rn (fun r => ex_load rfl r) h ?_; clear h; intro t41 w h
     refine st_cal en63 rfl h ?_; clear h; intro t42 w h
     refine st_rnu (fun r => ex_mapUpdate rfl rfl rfl r) h ?_; clear h; intro w h
     refine wl_nil <| then_n <| seq_ <| region_ <| st_val (ex_fa fa48_0 (p := (⟨b8, 0, none⟩ : Addr)) rfl) ?_
     refine st_rn (fun r => ex_load rfl r) h ?_; clear h; intro t44 w h
     refine st_val (ex_eql (a := t44) (b := 2) rfl rfl) <| wl_nil <| then_n ?_
     by_cases hc6 : t44 = 2
     ·rw [if_pos hc6] at h; refine cond_1 (b := (decide (t44 = 2))) rfl (decide_eq_true hc6) ?_
      refine dr_begin mixed [7] (listed := #[false, false, false, false, false, false, false, false]) rfl (n := 8) rfl h ?_; clear h; intro w7 h
      have hE : Ext w7 w7 := Ext.refl _
      refine tP 0 rfl (fun _ => hE) (fun _ => ex_move (v := (Ptr (⟨b33, 0, none⟩ : Addr))) rfl) <| tP 1 rfl (fun _ => hE) (fun _ => ex_nilCheck (p := (⟨b33, 0, none⟩ : Addr)) rfl) <| tP 2 rfl (fun _ => hE) (fun _ => ex_fa fa148_0 (p := (⟨b33, 0, none⟩ : Addr)) rfl) ?_
      obtain ⟨t49, ht49, h⟩ := h
      refine tK 3 rfl hE (fun _ hw => (fun r => ex_load rfl r) (ht49 _ hw)) <| tP 4 rfl (fun _ => hE) (fun _ => ex_fa fa48_1 (p := (⟨b8, 0, none⟩ : Addr)) rfl) ?_
      obtain ⟨t51, ht51, h⟩ := h
      refine tK 5 rfl hE (fun _ hw => (fun r => ex_load rfl r) (ht51 _ hw)) ?_
      obtain ⟨t52, ht52, h⟩ := h
      refine tK 6 rfl hE (fun _ hw => (fun r => ex_load rfl r) (ht52 _ hw)) <| dr_only (i := 7) (by kernel_rfl) rfl rfl ?_
      refine o_rnu (fun r => ex_mapUpdate rfl rfl rfl r) h ?_; clear h; intro w h; refine ⟨noG (by kernel_rfl), ?_⟩
      refine dr_end (by kernel_rfl) <| inb_n ?_
      exact then_n ⟨(), _, rfl, mk_upds' (ae rfl (ae rfl (ae rfl (ae rfl (ae rfl (ae rfl (ae rfl ae0))))))), h⟩
     ·rw [if_neg hc6] at h; refine cond_0 (b := (decide (t44 = 2))) rfl (decide_eq_false hc6) ?_
      refine wp_skip <| inb_n ?_
      exact then_n ⟨(), _, rfl, mk_upds' (ae rfl (ae rfl (ae rfl (ae rfl (ae rfl (ae rfl (ae rfl ae0))))))), h⟩
   ·rw [if_neg hc4] at h; refine cond_0 (b := (decide (s3 < (t0.n : Int)))) rfl (decide_eq_false hc4) ?_
    refine wp_exit <| then_e <| then_e <| inb_e <| then_n <| seq_ <| region_ ?_
    refine st_newm (ex_makeMap (e_makeMap _)) h ?_; clear h; intro b54 w h
    refine asg (.map (some b54)) rfl <| wl_nil <| then_n <| seq_ <| seq_ <| region_ <| mv (Sl.v t0) rfl <| st_val (ex_len (s := t0) Try.underlying22 rfl) <| mv (.int .i64 0) rfl <| wl_nil ?_
    refine then_n <| wp_block <| wp_lp (σ := Int) (fun s8 a => ∃ j, a = F 142 (upds j [(0, (Sl.v t0)), (3, (Ptr (⟨b3, 0, none⟩ : Addr))), (5, (.map (some b29))), (6, (Ptr (⟨b33, 0, none⟩ : Addr))), (9, (.map (some b54))), (55, (Sl.v t0)), (56, (.int .i64 (t0.n : Int))), (57, (.int .i64 s8))])) h (mk_upds (ae rfl (ae rfl (ae rfl (ae rfl (ae rfl (ae rfl (ae rfl (ae rfl ae0))))))))) ?_
    clear h; rintro s8 _ w n8 ⟨j, rfl⟩ h
    refine seq_ <| region_ <| st_val (ex_lss (a := s8) (b := (t0.n : Int)) rfl rfl) <| wl_nil <| then_n <| seq_ ?_
    by_cases hc9 : s8 < (t0.n : Int)
    ·rw [if_pos hc9] at h; refine cond_1 (b := (decide (s8 < (t0.n : Int)))) rfl (decide_eq_true hc9) ?_
     refine wp_skip <| then_n <| seq_ <| wp_block <| seq_ <| region_ <| mv (.int .i64 s8) rfl ?_
     refine st_rnp (fun r => ex_indexAddr rfl rfl r) h ?_; clear h; intro t60 h
     refine st_rn (fun r => ex_load rfl r) h ?_; clear h; intro t61 w h
     refine st_new (f := (fun b => Ptr ⟨b, 0, none⟩)) (ex_allocN zero48 rfl) h ?_; clear h; intro b11 w h
     refine asg (.int .i64 s8) rfl ?_
     refine st_rnu (fun r => ex_store rfl rfl r) h ?_; clear h; intro w h
     refine wl_nil <| then_n <| seq_ <| region_ ?_
     refine st_rn (fun r => ex_load rfl r) h ?_; clear h; intro t62 w h
     refine mv (.map (some b29)) rfl ?_
     refine st_cal en94 rfl h ?_; clear h; intro t64 w h
     refine asg (.int .i64 t64) rfl <| wl_nil <| then_n <| seq_ <| region_ <| mv (.int .i64 t64) rfl <| st_val (ex_geq (a := t64) (b := 0) rfl rfl) <| wl_nil <| then_n ?_
     by_cases hc10 : 0 ≤ t64
     ·rw [if_pos hc10] at h; refine cond_1 (b := (decide (0 ≤ t64))) rfl (decide_eq_true hc10) ?_
      refine seq_ <| region_ <| mv (.int .i64 s8) rfl <| mv (.int .i64 t64) rfl <| st_val (ex_build (a' := [(0, (.int .i64 s8)), (1, (.int .i64 t64)), (2, (.int .i64 140))]) (v := TFault.v (⟨s8, t64, 140⟩ : TFault)) rfl (e_build Try.underlying80 zero80 rfl pl80 rfl _)) <| asg (Sl.v Sl.nil) rfl ?_
      refine st_rnu (fun r => ex_store rfl rfl r) h ?_; clear h; intro w h
      refine wl_nil <| then_n <| wp_ret <| inb_r <| then_r <| then_r <| inb_r <| then_r ?_
      obtain ⟨r1_2, hr1_2, h⟩ := h
      refine ret_tc rfl rfl rfl hr1_2 ⟨(Sl.nil, r1_2), rfl, h⟩
     ·rw [if_neg hc10] at h; refine cond_0 (b := (decide (0 ≤ t64))) rfl (decide_eq_false hc10) ?_
      refine wp_skip <| inb_n <| then_n <| region_ <| st_val (ex_add (a := s8) (b := 1) rfl rfl) <| mv (.int .i64 (IntKind.i64.wrap (s8 + 1))) rfl <| wl_nil ?_
      exact then_n ⟨(IntKind.i64.wrap (s8 + 1)), mk_upds (ae rfl (ae rfl (ae rfl (ae rfl (ae rfl (ae rfl (ae rfl (ae rfl ae0)))))))), h⟩
    ·rw [if_neg hc9] at h; refine cond_0 (b := (decide (s8 < (t0.n : Int)))) rfl (decide_eq_false hc9) ?_
     refine wp_exit <| then_e <| then_e <| inb_e <| then_n <| seq_ <| seq_ <| region_ <| mv (Sl.v t0) rfl <| st_val (ex_len (s := t0) Try.underlying22 rfl) ?_
     refine mv (.int .i64 0) rfl <| wl_nil <| then_n <| wp_block <| wp_lp (σ := Int) (fun s11 a => ∃ j, a = F 142 (upds j [(0, (Sl.v t0)), (3, (Ptr (⟨b3, 0, none⟩ : Addr))), (6, (Ptr (⟨b33, 0, none⟩ : Addr))), (9, (.map (some b54))), (71, (Sl.v t0)), (72, (.int .i64 (t0.n : Int))), (73, (.int .i64 s11))])) h (mk_upds (ae rfl (ae rfl (ae rfl (ae rfl (ae rfl (ae rfl (ae rfl ae0)))))))) ?_
     clear h; rintro s11 _ w n11 ⟨j, rfl⟩ h
     refine seq_ <| region_ <| st_val (ex_lss (a := s11) (b := (t0.n : Int)) rfl rfl) <| wl_nil <| then_n <| seq_ ?_
     by_cases hc12 : s11 < (t0.n : Int)
     ·rw [if_pos hc12] at h; refine cond_1 (b := (decide (s11 < (t0.n : Int)))) rfl (decide_eq_true hc12) ?_
      refine wp_skip <| then_n ?_
      refine wp_jn (σ := Unit) (fun s13 l => ∃ j, l = upds j [(0, (Sl.v t0)), (3, (Ptr (⟨b3, 0, none⟩ : Addr))), (6, (Ptr (⟨b33, 0, none⟩ : Addr))), (9, (.map (some b54))), (71, (Sl.v t0)), (72, (.int .i64 (t0.n : Int))), (73, (.int .i64 s11))]) h ?_ ?_
      ·clear h; rintro s13 _ w ⟨j, rfl⟩ h
       refine region_ <| st_val (ex_add (a := s11) (b := 1) rfl rfl) <| mv (.int .i64 (IntKind.i64.wrap (s11 + 1))) rfl <| wl_nil ?_
       exact then_n ⟨(IntKind.i64.wrap (s11 + 1)), mk_upds (ae rfl (ae rfl (ae rfl (ae rfl (ae rfl (ae rfl (ae rfl ae0))))))), h⟩
      ·clear h; intro k13 h
       refine wp_block <| seq_ <| region_ <| mv (.int .i64 s11) rfl ?_
       refine st_rnp (fun r => ex_indexAddr rfl rfl r) h ?_; clear h; intro t76 h
       refine st_rn (fun r => ex_load rfl r) h ?_; clear h; intro t77 w h
       refine st_new (f := (fun b => Ptr ⟨b, 0, none⟩)) (ex_allocN zero48 rfl) h ?_; clear h; intro b14 w h
       refine asg (.int .i64 s11) rfl ?_
       refine st_rnu (fun r => ex_store rfl rfl r) h ?_; clear h; intro w h
       refine wl_nil <| then_n <| seq_ ?_
       refine wp_jn (σ := Bool) (fun s14 l => ∃ j, l = upds j [(0, (Sl.v t0)), (3, (Ptr (⟨b3, 0, none⟩ : Addr))), (6, (Ptr (⟨b33, 0, none⟩ : Addr))), (9, (.map (some b54))), (13, (.int .i64 s11)), (14, (Ptr (⟨b14, 0, none⟩ : Addr))), (71, (Sl.v t0)), (72, (.int .i64 (t0.n : Int))), (73, (.int .i64 s11)), (86, (.bool s14))]) h ?_ ?_
       ·clear h; rintro s14 _ w ⟨j, rfl⟩ h
        by_cases hc16 : s14 = true
        ·rw [if_pos hc16] at h; refine cond_1 (b := s14) rfl hc16 ?_
         refine seq_ <| region_ <| mv (.int .i64 s11) rfl <| st_val (ex_build (a' := [(0, (.int .i64 s11)), (2, (.int .i64 141))]) (v := TFault.v (⟨s11, 0, 141⟩ : TFault)) rfl (e_build Try.underlying80 zero80 rfl pl80 rfl _)) <| asg (Sl.v Sl.nil) rfl ?_
         refine st_rnu (fun r => ex_store rfl rfl r) h ?_; clear h; intro w h
         refine wl_nil <| then_n <| wp_ret <| then_r <| inb_r <| then_r <| then_r <| inb_r <| then_r ?_
         obtain ⟨r1_3, hr1_3, h⟩ := h
         refine ret_tc rfl rfl rfl hr1_3 ⟨(Sl.nil, r1_3), rfl, h⟩
        ·rw [if_neg hc16] at h; refine cond_0 (b := s14) rfl (Bool.eq_false_iff.2 hc16) ?_
         refine wp_skip <| then_n <| region_ <| mv (.map (some b54)) rfl <| st_val (ex_fa fa48_4 (p := (⟨b14, 0, none⟩ : Addr)) rfl) ?_
         refine st_rn (fun r => ex_load rfl r) h ?_; clear h; intro t91 w h
         refine mv (.map (some b54)) rfl <| st_val (ex_fa fa48_4 (p := (⟨b14, 0, none⟩ : Addr)) rfl) ?_
         refine st_rn (fun r => ex_load rfl r) h ?_; clear h; intro t94 w h
         refine st_rn (fun r => ex_lookup rfl rfl r) h ?_; clear h; intro t95 w h
         refine mv (.bool t95) rfl ?_
         by_cases hc17 : t95 = true
         ·rw [if_pos hc17] at h
          refine sOff 96 hc17 rfl rfl <| sOff 96 hc17 rfl rfl <| sOff 96 hc17 rfl rfl <| st_val (ex_pick1 (b := t95) rfl hc17 (v := (.bool true)) rfl) ?_
          refine st_rnu (fun r => ex_mapUpdate rfl rfl rfl r) h ?_; clear h; intro w h
          refine wl_nil <| inb_n ?_
          exact then_n ⟨(), _, rfl, mk_upds' (ae rfl (ae rfl (ae rfl (ae rfl (ae rfl (ae rfl (ae rfl ae0))))))), h⟩
         ·rw [if_neg hc17] at h
          refine sOn 96 (Bool.eq_false_iff.2 hc17) rfl rfl <| st_val (ex_fa fa48_0 (p := (⟨b14, 0, none⟩ : Addr)) rfl) <| sOn 96 (Bool.eq_false_iff.2 hc17) rfl rfl ?_
          refine st_rn (fun r => ex_load rfl r) h ?_; clear h; intro t98 w h
          refine sOn 96 (Bool.eq_false_iff.2 hc17) rfl rfl <| st_val (ex_eql (a := t98) (b := 3) rfl rfl) <| st_val (ex_pick0 (b := t95) rfl (Bool.eq_false_iff.2 hc17) (v := (.bool (decide (t98 = 3)))) rfl) ?_
          refine st_rnu (fun r => ex_mapUpdate rfl rfl rfl r) h ?_; clear h; intro w h
          refine wl_nil <| inb_n ?_
          exact then_n ⟨(), _, rfl, mk_upds' (ae rfl (ae rfl (ae rfl (ae rfl (ae rfl (ae rfl (ae rfl ae0))))))), h⟩
       ·clear h; intro k14 h
        refine region_ <| st_val (ex_fa fa48_0 (p := (⟨b14, 0, none⟩ : Addr)) rfl) ?_
        refine st_rn (fun r => ex_load rfl r) h ?_; clear h; intro t79 w h
        refine st_val (ex_eql (a := t79) (b := 3) rfl rfl) <| mv (.bool (decide (t79 = 3))) rfl ?_
        by_cases hc15 : t79 = 3
        ·rw [if_pos hc15] at h
         refine sOn 81 (decide_eq_true hc15) rfl rfl <| mv (.map (some b54)) rfl <| sOn 81 (decide_eq_true hc15) rfl rfl <| st_val (ex_fa fa48_4 (p := (⟨b14, 0, none⟩ : Addr)) rfl) <| sOn 81 (decide_eq_true hc15) rfl rfl ?_
         refine st_rn (fun r => ex_load rfl r) h ?_; clear h; intro t84 w h
         refine sOn 81 (decide_eq_true hc15) rfl rfl ?_
         refine st_rn (fun r => ex_lookup rfl rfl r) h ?_; clear h; intro t85 w h
         refine st_val (ex_pick1 (b := (decide (t79 = 3))) rfl (decide_eq_true hc15) (v := (.bool t85)) rfl) <| wl_nil ?_
         exact then_n ⟨t85, _, rfl, mk_upds' (ae rfl (ae rfl (ae rfl (ae rfl (ae rfl (ae rfl (ae rfl (ae rfl (ae rfl (ae rfl ae0)))))))))), h⟩
        ·rw [if_neg hc15] at h
         refine sOff 81 (decide_eq_false hc15) rfl rfl <| sOff 81 (decide_eq_false hc15) rfl rfl <| sOff 81 (decide_eq_false hc15) rfl rfl <| sOff 81 (decide_eq_false hc15) rfl rfl <| st_val (ex_pick0 (b := (decide (t79 = 3))) rfl (decide_eq_false hc15) (v := (.bool false)) rfl) <| wl_nil ?_
         exact then_n ⟨false, _, rfl, mk_upds' (ae rfl (ae rfl (ae rfl (ae rfl (ae rfl (ae rfl (ae rfl (ae rfl (ae rfl (ae rfl ae0)))))))))), h⟩
     ·rw [if_neg hc12] at h; refine cond_0 (b := (decide (s11 < (t0.n : Int)))) rfl (decide_eq_false hc12) ?_
      refine wp_exit <| then_e <| then_e <| inb_e <| then_n <| seq_ <| seq_ <| region_ <| mv (Sl.v t0) rfl <| st_val (ex_len (s := t0) Try.underlying22 rfl) ?_
      refine mv (.int .i64 0) rfl <| wl_nil <| then_n <| wp_block <| wp_lp (σ := Int) (fun s18 a => ∃ j, a = F 142 (upds j [(0, (Sl.v t0)), (3, (Ptr (⟨b3, 0, none⟩ : Addr))), (6, (Ptr (⟨b33, 0, none⟩ : Addr))), (102, (Sl.v t0)), (103, (.int .i64 (t0.n : Int))), (104, (.int .i64 s18))])) h (mk_upds (ae rfl (ae rfl (ae rfl (ae rfl (ae rfl (ae rfl ae0))))))) ?_
      clear h; rintro s18 _ w n18 ⟨j, rfl⟩ h
      refine seq_ <| region_ <| st_val (ex_lss (a := s18) (b := (t0.n : Int)) rfl rfl) <| wl_nil <| then_n <| seq_ ?_
      by_cases hc19 : s18 < (t0.n : Int)
      ·rw [if_pos hc19] at h; refine cond_1 (b := (decide (s18 < (t0.n : Int)))) rfl (decide_eq_true hc19) ?_
       refine wp_skip <| then_n <| seq_ <| wp_block <| seq_ <| region_ <| mv (.int .i64 s18) rfl ?_
       refine st_rnp (fun r => ex_indexAddr rfl rfl r) h ?_; clear h; intro t107 h
       refine st_rn (fun r => ex_load rfl r) h ?_; clear h; intro t108 w h
       refine st_new (f := (fun b => Ptr ⟨b, 0, none⟩)) (ex_allocN zero48 rfl) h ?_; clear h; intro b16 w h
       refine asg (.int .i64 s18) rfl ?_
       refine st_rnu (fun r => ex_store rfl rfl r) h ?_; clear h; intro w h
       refine wl_nil <| then_n ?_
       refine wp_jn (σ := Bool) (fun s20 l => ∃ j, l = upds j [(0, (Sl.v t0)), (3, (Ptr (⟨b3, 0, none⟩ : Addr))), (6, (Ptr (⟨b33, 0, none⟩ : Addr))), (15, (.int .i64 s18)), (102, (Sl.v t0)), (103, (.int .i64 (t0.n : Int))), (104, (.int .i64 s18)), (115, (.bool s20))]) h ?_ ?_
       ·clear h; rintro s20 _ w ⟨j, rfl⟩ h
        by_cases hc22 : s20 = true
        ·rw [if_pos hc22] at h; refine cond_1 (b := s20) rfl hc22 ?_
         refine seq_ <| region_ <| mv (.int .i64 s18) rfl <| st_val (ex_build (a' := [(0, (.int .i64 s18)), (2, (.int .i64 142))]) (v := TFault.v (⟨s18, 0, 142⟩ : TFault)) rfl (e_build Try.underlying80 zero80 rfl pl80 rfl _)) <| asg (Sl.v Sl.nil) rfl ?_
         refine st_rnu (fun r => ex_store rfl rfl r) h ?_; clear h; intro w h
         refine wl_nil <| then_n <| wp_ret <| inb_r <| then_r <| then_r <| inb_r <| then_r ?_
         obtain ⟨r1_4, hr1_4, h⟩ := h
         refine ret_tc rfl rfl rfl hr1_4 ⟨(Sl.nil, r1_4), rfl, h⟩
        ·rw [if_neg hc22] at h; refine cond_0 (b := s20) rfl (Bool.eq_false_iff.2 hc22) ?_
         refine wp_skip <| inb_n <| then_n <| region_ <| st_val (ex_add (a := s18) (b := 1) rfl rfl) <| mv (.int .i64 (IntKind.i64.wrap (s18 + 1))) rfl <| wl_nil ?_
         exact then_n ⟨(IntKind.i64.wrap (s18 + 1)), mk_upds (ae rfl (ae rfl (ae rfl (ae rfl (ae rfl (ae rfl ae0)))))), h⟩
       ·clear h; intro k20 h
        refine region_ <| st_val (ex_fa fa48_0 (p := (⟨b16, 0, none⟩ : Addr)) rfl) ?_
        refine st_rn (fun r => ex_load rfl r) h ?_; clear h; intro t110 w h
        refine st_val (ex_eql (a := t110) (b := 2) rfl rfl) <| mv (.bool (decide (t110 = 2))) rfl ?_
        by_cases hc21 : t110 = 2
        ·rw [if_pos hc21] at h
         refine sOn 112 (decide_eq_true hc21) rfl rfl ?_
         refine st_rn (fun r => ex_load rfl r) h ?_; clear h; intro t113 w h
         refine sOn 112 (decide_eq_true hc21) rfl rfl ?_
         refine st_cal en95 rfl h ?_; clear h; intro t114 w h
         refine st_val (ex_pick1 (b := (decide (t110 = 2))) rfl (decide_eq_true hc21) (v := (.bool t114)) rfl) <| wl_nil ?_
         exact then_n ⟨t114, _, rfl, mk_upds' (ae rfl (ae rfl (ae rfl (ae rfl (ae rfl (ae rfl (ae rfl (ae rfl ae0)))))))), h⟩
        ·rw [if_neg hc21] at h
         refine sOff 112 (decide_eq_false hc21) rfl rfl <| sOff 112 (decide_eq_false hc21) rfl rfl <| st_val (ex_pick0 (b := (decide (t110 = 2))) rfl (decide_eq_false hc21) (v := (.bool false)) rfl) <| wl_nil ?_
         exact then_n ⟨false, _, rfl, mk_upds' (ae rfl (ae rfl (ae rfl (ae rfl (ae rfl (ae rfl (ae rfl (ae rfl ae0)))))))), h⟩
      ·rw [if_neg hc19] at h; refine cond_0 (b := (decide (s18 < (t0.n : Int)))) rfl (decide_eq_false hc19) ?_
       refine wp_exit <| then_e <| then_e <| inb_e <| then_n <| seq_ <| seq_ <| region_ <| mv (Sl.v t0) rfl <| st_val (ex_len (s := t0) Try.underlying22 rfl) ?_
       refine mv (.int .i64 0) rfl <| wl_nil <| then_n <| wp_block <| wp_lp (σ := Int) (fun s23 a => ∃ j, a = F 142 (upds j [(0, (Sl.v t0)), (3, (Ptr (⟨b3, 0, none⟩ : Addr))), (6, (Ptr (⟨b33, 0, none⟩ : Addr))), (119, (Sl.v t0)), (120, (.int .i64 (t0.n : Int))), (121, (.int .i64 s23))])) h (mk_upds (ae rfl (ae rfl (ae rfl (ae rfl (ae rfl (ae rfl ae0))))))) ?_
       clear h; rintro s23 _ w n23 ⟨j, rfl⟩ h
       refine seq_ <| region_ <| st_val (ex_lss (a := s23) (b := (t0.n : Int)) rfl rfl) <| wl_nil <| then_n <| seq_ ?_
       by_cases hc24 : s23 < (t0.n : Int)
       ·rw [if_pos hc24] at h; refine cond_1 (b := (decide (s23 < (t0.n : Int)))) rfl (decide_eq_true hc24) ?_
        refine wp_skip <| then_n <| seq_ <| wp_block <| seq_ <| region_ <| mv (.int .i64 s23) rfl ?_
        refine st_rnp (fun r => ex_indexAddr rfl rfl r) h ?_; clear h; intro t124 h
        refine st_rn (fun r => ex_load rfl r) h ?_; clear h; intro t125 w h
        refine st_new (f := (fun b => Ptr ⟨b, 0, none⟩)) (ex_allocN zero48 rfl) h ?_; clear h; intro b18 w h
        refine asg (.int .i64 s23) rfl ?_
        refine st_rnu (fun r => ex_store rfl rfl r) h ?_; clear h; intro w h
        refine wl_nil <| then_n ?_
        refine wp_jn (σ := Bool) (fun s25 l => ∃ j, l = upds j [(0, (Sl.v t0)), (3, (Ptr (⟨b3, 0, none⟩ : Addr))), (6, (Ptr (⟨b33, 0, none⟩ : Addr))), (17, (.int .i64 s23)), (119, (Sl.v t0)), (120, (.int .i64 (t0.n : Int))), (121, (.int .i64 s23)), (135, (.bool s25))]) h ?_ ?_
        ·clear h; rintro s25 _ w ⟨j, rfl⟩ h
         by_cases hc27 : s25 = true
         ·rw [if_pos hc27] at h; refine cond_1 (b := s25) rfl hc27 ?_
          refine seq_ <| region_ <| mv (.int .i64 s23) rfl <| st_val (ex_build (a' := [(0, (.int .i64 s23)), (2, (.int .i64 143))]) (v := TFault.v (⟨s23, 0, 143⟩ : TFault)) rfl (e_build Try.underlying80 zero80 rfl pl80 rfl _)) <| asg (Sl.v Sl.nil) rfl ?_
          refine st_rnu (fun r => ex_store rfl rfl r) h ?_; clear h; intro w h
          refine wl_nil <| then_n <| wp_ret <| inb_r <| then_r <| then_r <| inb_r <| then_r ?_
          obtain ⟨r1_5, hr1_5, h⟩ := h
          refine ret_tc rfl rfl rfl hr1_5 ⟨(Sl.nil, r1_5), rfl, h⟩
         ·rw [if_neg hc27] at h; refine cond_0 (b := s25) rfl (Bool.eq_false_iff.2 hc27) ?_
          refine wp_skip <| inb_n <| then_n <| region_ <| st_val (ex_add (a := s23) (b := 1) rfl rfl) <| mv (.int .i64 (IntKind.i64.wrap (s23 + 1))) rfl <| wl_nil ?_
          exact then_n ⟨(IntKind.i64.wrap (s23 + 1)), mk_upds (ae rfl (ae rfl (ae rfl (ae rfl (ae rfl (ae rfl ae0)))))), h⟩
        ·clear h; intro k25 h
         refine region_ <| st_val (ex_fa fa48_0 (p := (⟨b18, 0, none⟩ : Addr)) rfl) ?_
         refine st_rn (fun r => ex_load rfl r) h ?_; clear h; intro t127 w h
         refine st_val (ex_eql (a := t127) (b := 2) rfl rfl) <| mv (.bool (decide (t127 = 2))) rfl ?_
         by_cases hc26 : t127 = 2
         ·rw [if_pos hc26] at h
          refine sOn 129 (decide_eq_true hc26) rfl rfl <| mv (Ptr (⟨b33, 0, none⟩ : Addr)) rfl <| sOn 129 (decide_eq_true hc26) rfl rfl <| st_val (ex_fa fa48_1 (p := (⟨b18, 0, none⟩ : Addr)) rfl) <| sOn 129 (decide_eq_true hc26) rfl rfl ?_
          refine st_rn (fun r => ex_load rfl r) h ?_; clear h; intro t132 w h
          refine sOn 129 (decide_eq_true hc26) rfl rfl ?_
          refine st_cal en96 rfl h ?_; clear h; intro t133 w h
          refine sOn 129 (decide_eq_true hc26) rfl rfl <| st_val (ex_gtr (a := t133) (b := 8) rfl rfl) <| st_val (ex_pick1 (b := (decide (t127 = 2))) rfl (decide_eq_true hc26) (v := (.bool (decide (8 < t133)))) rfl) <| wl_nil ?_
          exact then_n ⟨(decide (8 < t133)), _, rfl, mk_upds' (ae rfl (ae rfl (ae rfl (ae rfl (ae rfl (ae rfl (ae rfl (ae rfl ae0)))))))), h⟩
         ·rw [if_neg hc26] at h
          refine sOff 129 (decide_eq_false hc26) rfl rfl <| sOff 129 (decide_eq_false hc26) rfl rfl <| sOff 129 (decide_eq_false hc26) rfl rfl <| sOff 129 (decide_eq_false hc26) rfl rfl <| sOff 129 (decide_eq_false hc26) rfl rfl <| st_val (ex_pick0 (b := (decide (t127 = 2))) rfl (decide_eq_false hc26) (v := (.bool false)) rfl) <| wl_nil ?_
          exact then_n ⟨false, _, rfl, mk_upds' (ae rfl (ae rfl (ae rfl (ae rfl (ae rfl (ae rfl (ae rfl (ae rfl ae0)))))))), h⟩
       ·rw [if_neg hc24] at h; refine cond_0 (b := (decide (s23 < (t0.n : Int)))) rfl (decide_eq_false hc24) ?_
        refine wp_exit <| then_e <| then_e <| inb_e <| then_n <| seq_ <| region_ <| mv (Sl.v t0) rfl ?_
        refine st_cal en97 rfl h ?_; clear h; intro t140 w h
        refine st_val (ex_build (a' := []) (v := TFault.v (⟨0, 0, 0⟩ : TFault)) rfl (e_build Try.underlying80 zero80 rfl pl80 rfl _)) <| asg (Sl.v t140) rfl ?_
        refine st_rnu (fun r => ex_store rfl rfl r) h ?_; clear h; intro w h
        refine wl_nil <| then_n <| wp_ret ?_
        obtain ⟨r1_6, hr1_6, h⟩ := h
        refine ret_tc rfl rfl rfl hr1_6 ⟨(t140, r1_6), rfl, h⟩

def f47 (t0 : TResource) (t1 : TResource) (R : (Bool) → World → Prop) (w : World) : Prop :=
 New 48 (TResource.cells t0) w fun b2 w =>
 New 48 (TResource.cells t1) w fun b3 w =>
 Jn (σ := Bool) (fun k1 =>
  Rn Try.prog (Value.int .i64) (Instr.loadAt 3 (Ptr ((⟨b2, 0, none⟩ : Addr).add 0))) w fun t6 w =>
  Rn Try.prog (Value.int .i64) (Instr.loadAt 3 (Ptr ((⟨b3, 0, none⟩ : Addr).add 0))) w fun t8 w =>
  if t6 < t8 then
   k1 true w
  else
   Rn Try.prog (Value.int .i64) (Instr.loadAt 3 (Ptr ((⟨b2, 0, none⟩ : Addr).add 0))) w fun t12 w =>
   Rn Try.prog (Value.int .i64) (Instr.loadAt 3 (Ptr ((⟨b3, 0, none⟩ : Addr).add 0))) w fun t14 w =>
   if t12 = t14 then
    Rn Try.prog Value.string (Instr.loadAt 9 (Ptr ((⟨b2, 0, none⟩ : Addr).add 1))) w fun t18 w =>
    Rn Try.prog Value.string (Instr.loadAt 9 (Ptr ((⟨b3, 0, none⟩ : Addr).add 1))) w fun t20 w =>
    k1 (sLt t18 t20) w
   else
    k1 false w
 ) fun s1 w =>
  R s1 w
def f53 (t0 : Sl) (t1 : Value) (R : (Bool) → World → Prop) (w : World) : Prop :=
 Cal Try.prog (Value.int .i64) 98 #[(Sl.v t0), t1] w fun t7 w =>
 R (decide (0 ≤ t7)) w
def f54 (t0 : Sl) (t1 : Int) (R : (Sl) → World → Prop) (w : World) : Prop :=
 Lp (σ := Sl × Int) (fun s1 w n1 =>
  if s1.2 < (t0.n : Int) then
   Jn (σ := Sl) (fun k3 =>
    RnP Try.prog Ptr (Instr.indexAt 22 (Sl.v t0) (.int .i64 s1.2)) fun t12 =>
    Rn Try.prog TResource.v (Instr.loadAt 48 (Ptr t12)) w fun t13 w =>
    New 48 (TResource.cells (⟨0, ⟨#[]⟩, Sl.nil, Sl.nil, ⟨#[]⟩, Sl.nil, ⟨#[]⟩, false⟩ : TResource)) w fun b7 w =>
    RnU Try.prog (Instr.storeAt 48 (Ptr (⟨b7, 0, none⟩ : Addr)) (TResource.v t13)) w fun w =>
    Rn Try.prog (Value.int .i64) (Instr.loadAt 3 (Ptr ((⟨b7, 0, none⟩ : Addr).add 0))) w fun t15 w =>
    if t15 = t1 then
     Rn Try.prog TResource.v (Instr.loadAt 48 (Ptr (⟨b7, 0, none⟩ : Addr))) w fun t19 w =>
     New 48 ((TResource.cells t19)) w fun b20 w =>
     Rn Try.prog Sl.v (Builtin.append_ #[22, 22] 22 #[(Sl.v s1.1), (Sl.v (⟨some ⟨b20, 0, none⟩, 1, 1⟩ : Sl))]) w fun t21 w =>
     k3 t21 w
    else
     k3 s1.1 w
   ) fun s3 w =>
    n1 (s3, (IntKind.i64.wrap (s1.2 + 1))) w
  else
   R s1.1 w
 ) (Sl.nil, 0) w
theorem c54 {t0 : Sl} {t1 : Int} {R : (Sl) → World → Prop} {w : World} (h : f54 t0 t1 R w) :
  Cal Try.prog Sl.v 54 #[(Sl.v t0), (.int .i64 t1)] w R := by
 unfold f54 at h
 refine calls_ Try.func54 Try.ntmps54 rfl rfl <| seq_ <| region_ <| asg (Sl.v Sl.nil) rfl <| wl_nil <| then_n <| seq_ <| region_ <| asg (Sl.v Sl.nil) rfl <| wl_nil ?_
 refine then_n <| seq_ <| seq_ <| region_ <| mv (Sl.v t0) rfl <| st_val (ex_len (s := t0) Try.underlying22 rfl) <| mv (.int .i64 0) rfl <| wl_nil <| then_n <| wp_block ?_
 refine wp_lp (σ := Sl × Int) (fun s1 a => ∃ j, a = F 24 (upds j [(1, (.int .i64 t1)), (5, (Sl.v s1.1)), (8, (Sl.v t0)), (9, (.int .i64 (t0.n : Int))), (10, (.int .i64 s1.2))])) h (mk_upds (ae rfl (ae rfl (ae rfl (ae rfl (ae rfl ae0)))))) ?_
 clear h; rintro s1 _ w n1 ⟨j, rfl⟩ h
 refine seq_ <| region_ <| st_val (ex_lss (a := s1.2) (b := (t0.n : Int)) rfl rfl) <| wl_nil <| then_n <| seq_ ?_
 by_cases hc2 : s1.2 < (t0.n : Int)
 ·rw [if_pos hc2] at h; refine cond_1 (b := (decide (s1.2 < (t0.n : Int)))) rfl (decide_eq_true hc2) ?_
  refine wp_skip <| then_n ?_
  refine wp_jn (σ := Sl) (fun s3 l => ∃ j, l = upds j [(1, (.int .i64 t1)), (5, (Sl.v s3)), (8, (Sl.v t0)), (9, (.int .i64 (t0.n : Int))), (10, (.int .i64 s1.2))]) h ?_ ?_
  ·clear h; rintro s3 _ w ⟨j, rfl⟩ h
   refine region_ <| st_val (ex_add (a := s1.2) (b := 1) rfl rfl) <| mv (.int .i64 (IntKind.i64.wrap (s1.2 + 1))) rfl <| wl_nil ?_
   exact then_n ⟨(s3, (IntKind.i64.wrap (s1.2 + 1))), mk_upds (ae rfl (ae rfl (ae rfl (ae rfl (ae rfl ae0))))), h⟩
  ·clear h; intro k3 h
   refine wp_block <| seq_ <| region_ ?_
   refine st_rnp (fun r => ex_indexAddr rfl rfl r) h ?_; clear h; intro t12 h
   refine st_rn (fun r => ex_load rfl r) h ?_; clear h; intro t13 w h
   refine st_new (f := (fun b => Ptr ⟨b, 0, none⟩)) (ex_allocN zero48 rfl) h ?_; clear h; intro b7 w h
   refine st_rnu (fun r => ex_store rfl rfl r) h ?_; clear h; intro w h
   refine wl_nil <| then_n <| seq_ <| region_ <| st_val (ex_fa fa48_0 (p := (⟨b7, 0, none⟩ : Addr)) rfl) ?_
   refine st_rn (fun r => ex_load rfl r) h ?_; clear h; intro t15 w h
   refine mv (.int .i64 t1) rfl <| st_val (ex_eql (a := t15) (b := t1) rfl rfl) <| wl_nil <| then_n ?_
   by_cases hc4 : t15 = t1
   ·rw [if_pos hc4] at h; refine cond_1 (b := (decide (t15 = t1))) rfl (decide_eq_true hc4) ?_
    refine region_ <| mv (Sl.v s1.1) rfl ?_
    refine st_rn (fun r => ex_load rfl r) h ?_; clear h; intro t19 w h
    refine st_new (f := (fun b => Sl.v ⟨some ⟨b, 0, none⟩, 1, 1⟩)) (ex_buildSlice (a' := [(0, (TResource.v t19))]) rfl (e_buildSlice (cs := ((TResource.cells t19))) Try.underlying22 info48 iz48 (by decide +kernel) (by decide +kernel) (by kernel_rfl) _)) h ?_; clear h; intro b20 w h
    refine st_rn (fun r => ex_builtin rfl (fun _ => rfl) r) h ?_; clear h; intro t21 w h
    refine asg (Sl.v t21) rfl <| wl_nil <| inb_n ?_
    exact then_n ⟨t21, _, rfl, mk_upds' (ae rfl (ae rfl (ae rfl (ae rfl (ae rfl ae0))))), h⟩
   ·rw [if_neg hc4] at h; refine cond_0 (b := (decide (t15 = t1))) rfl (decide_eq_false hc4) ?_
    refine wp_skip <| inb_n ?_
    exact then_n ⟨s1.1, _, rfl, mk_upds' (ae rfl (ae rfl (ae rfl (ae rfl (ae rfl ae0))))), h⟩
 ·rw [if_neg hc2] at h; refine cond_0 (b := (decide (s1.2 < (t0.n : Int)))) rfl (decide_eq_false hc2) ?_
  refine wp_exit <| then_e <| then_e <| inb_e <| then_n <| seq_ <| region_ <| mv (Sl.v s1.1) rfl <| asg (Sl.v s1.1) rfl <| wl_nil ?_
  refine then_n <| wp_ret ?_
  refine ret_1 rfl rfl ⟨s1.1, rfl, h⟩

def f55 (t0 : TResource) (t1 : Addr) (R : (Bool) → World → Prop) (w : World) : Prop :=
 New 48 (TResource.cells t0) w fun b2 w =>
 Rn Try.prog Value.string (Instr.loadAt 9 (Ptr ((⟨b2, 0, none⟩ : Addr).add 1))) w fun t5 w =>
 Rn Try.prog Value.string (Instr.loadAt 9 (Ptr t1)) w fun t6 w =>
 R (decide (t5 = t6)) w
def f56 (t0 : Sl) (R : (Sl) → World → Prop) (w : World) : Prop :=
 if (t0.a.isNone) = true then
  R Sl.nil w
 else
  New 32 [] w fun b5 w =>
  Rn Try.prog Sl.v (Builtin.append_ #[23, 23] 23 #[(Sl.v (⟨some ⟨b5, 0, none⟩, 0, 0⟩ : Sl)), (Sl.v t0)]) w fun t7 w =>
  R t7 w
def f57 (t0 : Sl) (R : ((Option Nat)) → World → Prop) (w : World) : Prop :=
 NewM w fun b9 w =>
 New 153 [(.map none)] w fun b3 w =>
 RnU Try.prog (Instr.storeAt 153 (Ptr (⟨b3, 0, none⟩ : Addr)) (.map (some b9))) w fun w =>
 Cal Try.prog Sl.v 54 #[(Sl.v t0), (.int .i64 2)] w fun t11 w =>
 Lp (σ := Int) (fun s1 w n1 =>
  if s1 < (t11.n : Int) then
   RnP Try.prog Ptr (Instr.indexAt 22 (Sl.v t11) (.int .i64 s1)) fun t15 =>
   Rn Try.prog TResource.v (Instr.loadAt 48 (Ptr t15)) w fun t16 w =>
   New 48 (TResource.cells (⟨0, ⟨#[]⟩, Sl.nil, Sl.nil, ⟨#[]⟩, Sl.nil, ⟨#[]⟩, false⟩ : TResource)) w fun b5 w =>
   RnU Try.prog (Instr.storeAt 48 (Ptr (⟨b5, 0, none⟩ : Addr)) (TResource.v t16)) w fun w =>
   Rn Try.prog Value.map (Instr.loadAt 153 (Ptr (⟨b3, 0, none⟩ : Addr))) w fun t17 w =>
   Rn Try.prog Value.string (Instr.loadAt 9 (Ptr ((⟨b5, 0, none⟩ : Addr).add 1))) w fun t19 w =>
   Rn Try.prog Sl.v (Instr.loadAt 45 (Ptr ((⟨b5, 0, none⟩ : Addr).add 3))) w fun t21 w =>
   RnU Try.prog (Instr.mapUpdate 153 (.map t17) (.string t19) (Sl.v t21)) w fun w =>
   n1 (IntKind.i64.wrap (s1 + 1)) w
  else
   NewM w fun b23 w =>
   New 97 [(.map none)] w fun b6 w =>
   RnU Try.prog (Instr.storeAt 97 (Ptr (⟨b6, 0, none⟩ : Addr)) (.map (some b23))) w fun w =>
   New 154 [Value.nilFunc] w fun b7 w =>
   RnU Try.prog (Instr.storeAt 154 (Ptr (⟨b7, 0, none⟩ : Addr)) (Value.func (.func 99) #[] #[(Ptr (⟨b6, 0, none⟩ : Addr)), (Ptr (⟨b3, 0, none⟩ : Addr)), (Ptr (⟨b7, 0, none⟩ : Addr))])) w fun w =>
   Rn Try.prog Value.map (Instr.loadAt 153 (Ptr (⟨b3, 0, none⟩ : Addr))) w fun t25 w =>
   Rn Try.prog (fun x : Value => x) (Instr.range 153 (.map t25)) w fun t26 w =>
   Lp (σ := Unit) (fun s3 w n3 =>
    Rn Try.prog (fun x : Value => x) (Instr.next t26 false 0) w fun t27 w =>
    RnP Try.prog Value.bool (Instr.extract t27 0) fun t28 =>
    if t28 = true then
     Rn Try.prog (fun x : Value => x) (Instr.entry t26) w fun t29 w =>
     RnP Try.prog Value.string (Instr.extract t29 0) fun t30 =>
     Rn Try.prog (fun x : Value => x) (Instr.loadAt 154 (Ptr (⟨b7, 0, none⟩ : Addr))) w fun t31 w =>
     CalV Try.prog Sl.v t31 #[(.string t30)] w fun t33 w =>
     n3 () w
    else
     Rn Try.prog Value.map (Instr.loadAt 97 (Ptr (⟨b6, 0, none⟩ : Addr))) w fun t34 w =>
     R t34 w
   ) () w
 ) 0 w
theorem c57 {t0 : Sl} {R : ((Option Nat)) → World → Prop} {w : World} (h : f57 t0 R w) :
  Cal Try.prog Value.map 57 #[(Sl.v t0)] w R := by
 unfold f57 at h
 refine calls_ Try.func57 Try.ntmps57 rfl rfl <| seq_ <| region_ <| asg (.map none) rfl <| wl_nil <| then_n <| seq_ <| region_ ?_
 refine st_newm (ex_makeMap (e_makeMap _)) h ?_; clear h; intro b9 w h
 refine st_new (f := (fun b => Ptr ⟨b, 0, none⟩)) (ex_allocN zero153 rfl) h ?_; clear h; intro b3 w h
 refine st_rnu (fun r => ex_store rfl rfl r) h ?_; clear h; intro w h
 refine wl_nil <| then_n <| seq_ <| seq_ <| region_ <| mv (Sl.v t0) rfl ?_
 refine st_cal en54 rfl h ?_; clear h; intro t11 w h
 refine st_val (ex_len (s := t11) Try.underlying22 rfl) <| mv (.int .i64 0) rfl <| wl_nil <| then_n <| wp_block <| wp_lp (σ := Int) (fun s1 a => ∃ j, a = F 35 (upds j [(3, (Ptr (⟨b3, 0, none⟩ : Addr))), (11, (Sl.v t11)), (12, (.int .i64 (t11.n : Int))), (13, (.int .i64 s1))])) h (mk_upds (ae rfl (ae rfl (ae rfl (ae rfl ae0))))) ?_
 clear h; rintro s1 _ w n1 ⟨j, rfl⟩ h
 refine seq_ <| region_ <| st_val (ex_lss (a := s1) (b := (t11.n : Int)) rfl rfl) <| wl_nil <| then_n <| seq_ ?_
 by_cases hc2 : s1 < (t11.n : Int)
 ·rw [if_pos hc2] at h; refine cond_1 (b := (decide (s1 < (t11.n : Int)))) rfl (decide_eq_true hc2) ?_
  refine wp_skip <| then_n <| seq_ <| wp_block <| seq_ <| region_ ?_
  refine st_rnp (fun r => ex_indexAddr rfl rfl r) h ?_; clear h; intro t15 h
  refine st_rn (fun r => ex_load rfl r) h ?_; clear h; intro t16 w h
  refine st_new (f := (fun b => Ptr ⟨b, 0, none⟩)) (ex_allocN zero48 rfl) h ?_; clear h; intro b5 w h
  refine st_rnu (fun r => ex_store rfl rfl r) h ?_; clear h; intro w h
  refine wl_nil <| then_n <| region_ ?_
  refine st_rn (fun r => ex_load rfl r) h ?_; clear h; intro t17 w h
  refine st_val (ex_fa fa48_1 (p := (⟨b5, 0, none⟩ : Addr)) rfl) ?_
  refine st_rn (fun r => ex_load rfl r) h ?_; clear h; intro t19 w h
  refine st_val (ex_fa fa48_3 (p := (⟨b5, 0, none⟩ : Addr)) rfl) ?_
  refine st_rn (fun r => ex_load rfl r) h ?_; clear h; intro t21 w h
  refine st_rnu (fun r => ex_mapUpdate rfl rfl rfl r) h ?_; clear h; intro w h
  refine wl_nil <| inb_n <| then_n <| region_ <| st_val (ex_add (a := s1) (b := 1) rfl rfl) <| mv (.int .i64 (IntKind.i64.wrap (s1 + 1))) rfl <| wl_nil ?_
  exact then_n ⟨(IntKind.i64.wrap (s1 + 1)), mk_upds (ae rfl (ae rfl (ae rfl (ae rfl ae0)))), h⟩
 ·rw [if_neg hc2] at h; refine cond_0 (b := (decide (s1 < (t11.n : Int)))) rfl (decide_eq_false hc2) ?_
  refine wp_exit <| then_e <| then_e <| inb_e <| then_n <| seq_ <| region_ ?_
  refine st_newm (ex_makeMap (e_makeMap _)) h ?_; clear h; intro b23 w h
  refine st_new (f := (fun b => Ptr ⟨b, 0, none⟩)) (ex_allocN zero97 rfl) h ?_; clear h; intro b6 w h
  refine st_rnu (fun r => ex_store rfl rfl r) h ?_; clear h; intro w h
  refine wl_nil <| then_n <| seq_ <| region_ ?_
  refine st_new (f := (fun b => Ptr ⟨b, 0, none⟩)) (ex_allocN zero154 rfl) h ?_; clear h; intro b7 w h
  refine wl_nil <| then_n <| seq_ <| region_ <| st_val (ex_makeFunc rfl rfl) ?_
  refine st_rnu (fun r => ex_store rfl rfl r) h ?_; clear h; intro w h
  refine wl_nil <| then_n <| seq_ <| seq_ <| region_ ?_
  refine st_rn (fun r => ex_load rfl r) h ?_; clear h; intro t25 w h
  refine st_rn (fun r => ex_range rfl r) h ?_; clear h; intro t26 w h
  refine wl_nil <| then_n <| wp_block <| wp_lp (σ := Unit) (fun s3 a => ∃ j, a = F 35 (upds j [(6, (Ptr (⟨b6, 0, none⟩ : Addr))), (7, (Ptr (⟨b7, 0, none⟩ : Addr))), (26, t26)])) h (mk_upds (ae rfl (ae rfl (ae rfl ae0)))) ?_
  clear h; rintro s3 _ w n3 ⟨j, rfl⟩ h
  refine seq_ <| region_ ?_
  refine st_rn (fun r => ex_next rfl r) h ?_; clear h; intro t27 w h
  refine st_rnp (fun r => ex_extract rfl r) h ?_; clear h; intro t28 h
  refine wl_nil <| then_n <| seq_ ?_
  by_cases hc4 : t28 = true
  ·rw [if_pos hc4] at h; refine cond_1 (b := t28) rfl hc4 ?_
   refine wp_skip <| then_n <| wp_block <| seq_ <| region_ ?_
   refine st_rn (fun r => ex_entry rfl r) h ?_; clear h; intro t29 w h
   refine st_rnp (fun r => ex_extract rfl r) h ?_; clear h; intro t30 h
   refine asg (.string t30) rfl <| wl_nil <| then_n <| region_ ?_
   refine st_rn (fun r => ex_load rfl r) h ?_; clear h; intro t31 w h
   refine mv (.string t30) rfl ?_
   refine st_calv rfl rfl h ?_; clear h; intro t33 w h
   refine wl_nil <| inb_n ?_
   exact then_n ⟨(), mk_upds (ae rfl (ae rfl (ae rfl ae0))), h⟩
  ·rw [if_neg hc4] at h; refine cond_0 (b := t28) rfl (Bool.eq_false_iff.2 hc4) ?_
   refine wp_exit <| then_e <| then_e <| inb_e <| then_n <| seq_ <| region_ ?_
   refine st_rn (fun r => ex_load rfl r) h ?_; clear h; intro t34 w h
   refine asg (.map t34) rfl <| wl_nil <| then_n <| wp_ret ?_
   refine ret_1 rfl rfl ⟨t34, rfl, h⟩

def f58 (t0 : Sl) (R : (Sl × TFault14) → World → Prop) (w : World) : Prop :=
 New 101 (TFault14.cells (⟨0, 0, 0⟩ : TFault14)) w fun b3 w =>
 Cal Try.prog (Value.int .i64) 65 #[(Sl.v t0)] w fun t24 w =>
 if 0 ≤ t24 then
  RnU Try.prog (Instr.storeAt 101 (Ptr (⟨b3, 0, none⟩ : Addr)) (TFault14.v (⟨t24, 0, 2⟩ : TFault14))) w fun w =>
  RnR Try.prog TFault14.v (loadVar 101 (⟨b3, 0, none⟩ : Addr)) w fun r1 =>
  R (Sl.nil, r1) w
 else
  if 64 < (t0.n : Int) then
   RnU Try.prog (Instr.storeAt 101 (Ptr (⟨b3, 0, none⟩ : Addr)) (TFault14.v (⟨0, 0, 124⟩ : TFault14))) w fun w =>
   RnR Try.prog TFault14.v (loadVar 101 (⟨b3, 0, none⟩ : Addr)) w fun r1_1 =>
   R (Sl.nil, r1_1) w
  else
   Lp (σ := Int) (fun s3 w n3 =>
    if s3 < (t0.n : Int) then
     RnP Try.prog Ptr (Instr.indexAt 22 (Sl.v t0) (.int .i64 s3)) fun t42 =>
     Rn Try.prog TResource.v (Instr.loadAt 48 (Ptr t42)) w fun t43 w =>
     Cal Try.prog (Value.int .i64) 101 #[(Sl.v t0), (TResource.v t43)] w fun t44 w =>
     if 0 ≤ t44 then
      RnU Try.prog (Instr.storeAt 101 (Ptr (⟨b3, 0, none⟩ : Addr)) (TFault14.v (⟨s3, t44, 140⟩ : TFault14))) w fun w =>
      RnR Try.prog TFault14.v (loadVar 101 (⟨b3, 0, none⟩ : Addr)) w fun r1_2 =>
      R (Sl.nil, r1_2) w
     else
      n3 (IntKind.i64.wrap (s3 + 1)) w
    else
     Lp (σ := Int) (fun s6 w n6 =>
      if s6 < (t0.n : Int) then
       Lp (σ := Int) (fun s8 w n8 =>
        if s8 < s6 then
         Jn (σ := Bool) (fun k10 =>
          Dr w fun w11 w =>
           RnP Try.prog Ptr (Instr.indexAt 22 (Sl.v t0) (.int .i64 s6)) fun t63 =>
           RnL Try.prog (Value.int .i64) (Instr.loadAt 3 (Ptr (t63.add 0))) w11 fun t65 =>
           if t65 = 3 then
            RnP Try.prog Ptr (Instr.indexAt 22 (Sl.v t0) (.int .i64 s8)) fun t70 =>
            RnL Try.prog (Value.int .i64) (Instr.loadAt 3 (Ptr (t70.add 0))) w11 fun t72 =>
            if t72 = 3 then
             RnP Try.prog Ptr (Instr.indexAt 22 (Sl.v t0) (.int .i64 s6)) fun t78 =>
             RnL Try.prog Value.string (Instr.loadAt 9 (Ptr (t78.add 4))) w11 fun t80 =>
             RnP Try.prog Ptr (Instr.indexAt 22 (Sl.v t0) (.int .i64 s8)) fun t83 =>
             RnL Try.prog Value.string (Instr.loadAt 9 (Ptr (t83.add 4))) w11 fun t85 =>
             k10 (decide (t80 = t85)) w
            else
             k10 false w
           else
            k10 false w
         ) fun s10 w =>
          if s10 = true then
           RnU Try.prog (Instr.storeAt 101 (Ptr (⟨b3, 0, none⟩ : Addr)) (TFault14.v (⟨s6, 0, 141⟩ : TFault14))) w fun w =>
           RnR Try.prog TFault14.v (loadVar 101 (⟨b3, 0, none⟩ : Addr)) w fun r1_3 =>
           R (Sl.nil, r1_3) w
          else
           n8 (IntKind.i64.wrap (s8 + 1)) w
        else
         n6 (IntKind.i64.wrap (s6 + 1)) w
       ) 0 w
      else
       Lp (σ := Int) (fun s15 w n15 =>
        if s15 < (t0.n : Int) then
         Lp (σ := Nat × Bool × Int) (fun s17 w n17 =>
          RnP Try.prog Ptr (Instr.indexAt 22 (Sl.v t0) (.int .i64 s15)) fun t99 =>
          Rn Try.prog Sl.v (Instr.loadAt 45 (Ptr (t99.add 3))) w fun t101 w =>
          if s17.2.2 < (t101.n : Int) then
           RnP Try.prog Ptr (Instr.indexAt 22 (Sl.v t0) (.int .i64 s15)) fun t108 =>
           Rn Try.prog Sl.v (Instr.loadAt 45 (Ptr (t108.add 3))) w fun t110 w =>
           RnP Try.prog Ptr (Instr.indexAt 45 (Sl.v t110) (.int .i64 s17.2.2)) fun t112 =>
           Rn Try.prog (Value.float .f64) (Instr.loadAt 30 (Ptr (t112.add 2))) w fun t114 w =>
           Jn (σ := Bool) (fun k19 =>
            if s17.2.1 = true then
             if (fGe t114 0) = true then
              k19 (fLe t114 4636737291354636288) w
             else
              k19 false w
            else
             k19 false w
           ) fun s19 w =>
            Rn Try.prog (Value.float .f64) (Op.floatArith .add .f64 s17.1 t114) w fun t126 w =>
            n17 (t126, s19, (IntKind.i64.wrap (s17.2.2 + 1))) w
          else
           Jn (σ := Bool) (fun k22 =>
            RnP Try.prog Ptr (Instr.indexAt 22 (Sl.v t0) (.int .i64 s15)) fun t129 =>
            Rn Try.prog (Value.int .i64) (Instr.loadAt 3 (Ptr (t129.add 0))) w fun t131 w =>
            if t131 = 2 then
             if s17.2.1 = true then
              Rn Try.prog (Value.float .f64) (Op.floatArith .sub .f64 4636737291354636288 4517110426252607488) w fun t138 w =>
              if (fGe s17.1 t138) = true then
               Rn Try.prog (Value.float .f64) (Op.floatArith .add .f64 4636737291354636288 4517110426252607488) w fun t144 w =>
               k22 (!(fLe s17.1 t144)) w
              else
               k22 (!false) w
             else
              k22 (!false) w
            else
             k22 false w
           ) fun s22 w =>
            if s22 = true then
             RnU Try.prog (Instr.storeAt 101 (Ptr (⟨b3, 0, none⟩ : Addr)) (TFault14.v (⟨s15, 0, 142⟩ : TFault14))) w fun w =>
             RnR Try.prog TFault14.v (loadVar 101 (⟨b3, 0, none⟩ : Addr)) w fun r1_4 =>
             R (Sl.nil, r1_4) w
            else
             n15 (IntKind.i64.wrap (s15 + 1)) w
         ) (0, true, 0) w
        else
         Cal Try.prog Sl.v 102 #[(Sl.v t0)] w fun t152 w =>
         Lp (σ := Int) (fun s27 w n27 =>
          if s27 < (t0.n : Int) then
           Jn (σ := Bool) (fun k29 =>
            RnP Try.prog Ptr (Instr.indexAt 22 (Sl.v t0) (.int .i64 s27)) fun t161 =>
            Rn Try.prog (Value.int .i64) (Instr.loadAt 3 (Ptr (t161.add 0))) w fun t163 w =>
            if t163 = 2 then
             RnP Try.prog Ptr (Instr.indexAt 77 (Sl.v t152) (.int .i64 s27)) fun t168 =>
             Rn Try.prog (Value.int .i64) (Instr.loadAt 3 (Ptr t168)) w fun t169 w =>
             k29 (decide (t169 = 0)) w
            else
             k29 false w
           ) fun s29 w =>
            if s29 = true then
             RnU Try.prog (Instr.storeAt 101 (Ptr (⟨b3, 0, none⟩ : Addr)) (TFault14.v (⟨s27, 0, 143⟩ : TFault14))) w fun w =>
             RnR Try.prog TFault14.v (loadVar 101 (⟨b3, 0, none⟩ : Addr)) w fun r1_5 =>
             R (Sl.nil, r1_5) w
            else
             n27 (IntKind.i64.wrap (s27 + 1)) w
          else
           Lp (σ := Sl × Int) (fun s32 w n32 =>
            if s32.2 < (t0.n : Int) then
             Jn (σ := Sl) (fun k34 =>
              RnP Try.prog Ptr (Instr.indexAt 22 (Sl.v t0) (.int .i64 s32.2)) fun t182 =>
              Rn Try.prog (Value.int .i64) (Instr.loadAt 3 (Ptr (t182.add 0))) w fun t184 w =>
              if t184 < 3 then
               k34 s32.1 w
              else
               Lp (σ := Sl × Int) (fun s36 w n36 =>
                RnP Try.prog Ptr (Instr.indexAt 22 (Sl.v t0) (.int .i64 s32.2)) fun t189 =>
                Rn Try.prog Sl.v (Instr.loadAt 46 (Ptr (t189.add 5))) w fun t191 w =>
                if s36.2 < (t191.n : Int) then
                 Jn (σ := Sl) (fun k38 =>
                  RnP Try.prog Ptr (Instr.indexAt 22 (Sl.v t0) (.int .i64 s32.2)) fun t198 =>
                  Rn Try.prog Sl.v (Instr.loadAt 46 (Ptr (t198.add 5))) w fun t200 w =>
                  RnP Try.prog Ptr (Instr.indexAt 46 (Sl.v t200) (.int .i64 s36.2)) fun t202 =>
                  Rn Try.prog TRule.v (Instr.loadAt 91 (Ptr t202)) w fun t203 w =>
                  New 91 (TRule.cells (⟨⟨#[]⟩, ⟨#[]⟩, ⟨#[]⟩, false⟩ : TRule)) w fun b20 w =>
                  RnU Try.prog (Instr.storeAt 91 (Ptr (⟨b20, 0, none⟩ : Addr)) (TRule.v t203)) w fun w =>
                  Lp (σ := Sl × Int) (fun s39 w n39 =>
                   if s39.2 < s36.2 then
                    RnP Try.prog Ptr (Instr.indexAt 22 (Sl.v t0) (.int .i64 s32.2)) fun t211 =>
                    Rn Try.prog Sl.v (Instr.loadAt 46 (Ptr (t211.add 5))) w fun t213 w =>
                    RnP Try.prog Ptr (Instr.indexAt 46 (Sl.v t213) (.int .i64 s39.2)) fun t215 =>
                    Rn Try.prog TRule.v (Instr.loadAt 91 (Ptr t215)) w fun t216 w =>
                    New 91 (TRule.cells (⟨⟨#[]⟩, ⟨#[]⟩, ⟨#[]⟩, false⟩ : TRule)) w fun b22 w =>
                    RnU Try.prog (Instr.storeAt 91 (Ptr (⟨b22, 0, none⟩ : Addr)) (TRule.v t216)) w fun w =>
                    Jn (σ := Bool) (fun k41 =>
                     Rn Try.prog Value.string (Instr.loadAt 9 (Ptr ((⟨b22, 0, none⟩ : Addr).add 1))) w fun t218 w =>
                     if t218 = (⟨#[42]⟩ : ByteArray) then
                      Rn Try.prog Value.string (Instr.loadAt 9 (Ptr ((⟨b22, 0, none⟩ : Addr).add 0))) w fun t229 w =>
                      Rn Try.prog Value.string (Instr.loadAt 9 (Ptr ((⟨b20, 0, none⟩ : Addr).add 0))) w fun t231 w =>
                      Cal Try.prog Value.bool 103 #[(.string t229), (.string t231)] w fun t232 w =>
                      k41 t232 w
                     else
                      Rn Try.prog Value.string (Instr.loadAt 9 (Ptr ((⟨b22, 0, none⟩ : Addr).add 1))) w fun t222 w =>
                      Rn Try.prog Value.string (Instr.loadAt 9 (Ptr ((⟨b20, 0, none⟩ : Addr).add 1))) w fun t224 w =>
                      if t222 = t224 then
                       Rn Try.prog Value.string (Instr.loadAt 9 (Ptr ((⟨b22, 0, none⟩ : Addr).add 0))) w fun t229_1 w =>
                       Rn Try.prog Value.string (Instr.loadAt 9 (Ptr ((⟨b20, 0, none⟩ : Addr).add 0))) w fun t231_1 w =>
                       Cal Try.prog Value.bool 103 #[(.string t229_1), (.string t231_1)] w fun t232_1 w =>
                       k41 t232_1 w
                      else
                       k41 false w
                    ) fun s41 w =>
                     if s41 = true then
                      New 160 ((TWarning14.cells (⟨s32.2, s36.2, s39.2⟩ : TWarning14))) w fun b239 w =>
                      Rn Try.prog Sl.v (Builtin.append_ #[99, 99] 99 #[(Sl.v s39.1), (Sl.v (⟨some ⟨b239, 0, none⟩, 1, 1⟩ : Sl))]) w fun t240 w =>
                      k38 t240 w
                     else
                      n39 (s39.1, (IntKind.i64.wrap (s39.2 + 1))) w
                   else
                    k38 s39.1 w
                  ) (s36.1, 0) w
                 ) fun s38 w =>
                  n36 (s38, (IntKind.i64.wrap (s36.2 + 1))) w
                else
                 k34 s36.1 w
               ) (s32.1, 0) w
             ) fun s34 w =>
              n32 (s34, (IntKind.i64.wrap (s32.2 + 1))) w
            else
             RnU Try.prog (Instr.storeAt 101 (Ptr (⟨b3, 0, none⟩ : Addr)) (TFault14.v (⟨0, 0, 0⟩ : TFault14))) w fun w =>
             RnR Try.prog TFault14.v (loadVar 101 (⟨b3, 0, none⟩ : Addr)) w fun r1_6 =>
             R (s32.1, r1_6) w
           ) (Sl.nil, 0) w
         ) 0 w
       ) 0 w
     ) 0 w
   ) 0 w
end Go.Proofs.Ytdoeegfcmbcbkaa.Tr


namespace Go.Proofs.Ytdoeegfcmbcbkaa.Tr
open Go Go.Eng
set_option linter.unusedVariables false
set_option maxRecDepth 100000
set_option maxHeartbeats 4000000
def f59 (t0 : Sl) (R : ((Option Addr)) → World → Prop) (w : World) : Prop :=
 New 109 (TKnown15.cells (⟨Sl.nil, Sl.nil⟩ : TKnown15)) w fun b9 w =>
 Lp (σ := Int) (fun s1 w n1 =>
  if s1 < (t0.n : Int) then
   Lp (σ := Int) (fun s3 w n3 =>
    if s3 < (t0.n : Int) then
     Jn (σ := Unit) (fun k5 =>
      Jn (σ := Bool) (fun k6 =>
       RnP Try.prog Ptr (Instr.indexAt 22 (Sl.v t0) (.int .i64 s3)) fun t24 =>
       Rn Try.prog (Value.int .i64) (Instr.loadAt 3 (Ptr (t24.add 0))) w fun t26 w =>
       if t26 ≠ 2 then
        k6 true w
       else
        RnP Try.prog Ptr (Instr.indexAt 22 (Sl.v t0) (.int .i64 s3)) fun t32 =>
        Rn Try.prog Value.string (Instr.loadAt 9 (Ptr (t32.add 1))) w fun t34 w =>
        Cal Try.prog (Value.int .i64) 60 #[(Ptr (⟨b9, 0, none⟩ : Addr)), (.string t34)] w fun t35 w =>
        k6 (decide (0 ≤ t35)) w
      ) fun s6 w =>
       if s6 = true then
        k5 () w
       else
        RnP Try.prog Ptr (Instr.indexAt 22 (Sl.v t0) (.int .i64 s3)) fun t42 =>
        Rn Try.prog TResource.v (Instr.loadAt 48 (Ptr t42)) w fun t43 w =>
        Cal Try.prog (fun x : Sl × Bool => Value.tuple #[(Sl.v x.1), (.bool x.2)]) 104 #[(Ptr (⟨b9, 0, none⟩ : Addr)), (TResource.v t43)] w fun t44 w =>
        if t44.2 = true then
         Dr w fun w10 w =>
          RnL Try.prog Sl.v (Instr.loadAt 44 (Ptr ((⟨b9, 0, none⟩ : Addr).add 0))) w10 fun t52 =>
          RnP Try.prog Ptr (Instr.indexAt 22 (Sl.v t0) (.int .i64 s3)) fun t55 =>
          RnL Try.prog Value.string (Instr.loadAt 9 (Ptr (t55.add 1))) w10 fun t57 =>
          New 9 ([(.string t57)]) w fun b58 w =>
          Rn Try.prog Sl.v (Builtin.append_ #[44, 44] 44 #[(Sl.v t52), (Sl.v (⟨some ⟨b58, 0, none⟩, 1, 1⟩ : Sl))]) w fun t59 w =>
          RnU Try.prog (Instr.storeAt 44 (Ptr ((⟨b9, 0, none⟩ : Addr).add 0)) (Sl.v t59)) w fun w =>
          Rn Try.prog Sl.v (Instr.loadAt 107 (Ptr ((⟨b9, 0, none⟩ : Addr).add 1))) w fun t66 w =>
          New 23 ([(Sl.v t44.1)]) w fun b68 w =>
          Rn Try.prog Sl.v (Builtin.append_ #[107, 107] 107 #[(Sl.v t66), (Sl.v (⟨some ⟨b68, 0, none⟩, 1, 1⟩ : Sl))]) w fun t69 w =>
          RnU Try.prog (Instr.storeAt 107 (Ptr ((⟨b9, 0, none⟩ : Addr).add 1)) (Sl.v t69)) w fun w =>
          k5 () w
        else
         k5 () w
     ) fun s5 w =>
      n3 (IntKind.i64.wrap (s3 + 1)) w
    else
     n1 (IntKind.i64.wrap (s1 + 1)) w
   ) 0 w
  else
   R (some (⟨b9, 0, none⟩ : Addr)) w
 ) 0 w
def f60 (t0 : (Option Addr)) (t1 : ByteArray) (R : (Int) → World → Prop) (w : World) : Prop :=
 Lp (σ := Int) (fun s1 w n1 =>
  NotNil t0 fun t8 =>
  Rn Try.prog Sl.v (Instr.loadAt 44 (Ptr (t8.add 0))) w fun t10 w =>
  if s1 < (t10.n : Int) then
   NotNil t0 fun t16 =>
   Rn Try.prog Sl.v (Instr.loadAt 44 (Ptr (t16.add 0))) w fun t18 w =>
   RnP Try.prog Ptr (Instr.indexAt 44 (Sl.v t18) (.int .i64 s1)) fun t20 =>
   Rn Try.prog Value.string (Instr.loadAt 9 (Ptr t20)) w fun t21 w =>
   if t21 = t1 then
    R s1 w
   else
    n1 (IntKind.i64.wrap (s1 + 1)) w
  else
   R (-1) w
 ) 0 w
def f61 (t0 : Nat) (t1 : Nat) (R : (Bool) → World → Prop) (w : World) : Prop :=
 Jn (σ := Bool) (fun k1 =>
  Rx Try.prog (Value.int .u64) 105 #[(.float .f64 t0)] w fun t6 w =>
  Rx Try.prog (Value.int .u64) 105 #[(.float .f64 t1)] w fun t8 w =>
  if t6 = t8 then
   k1 true w
  else
   if (fNe t0 t0) = true then
    k1 (fNe t1 t1) w
   else
    k1 false w
 ) fun s1 w =>
  R s1 w
def f62 (t0 : TResource) (t1 : TResource) (R : (Bool) → World → Prop) (w : World) : Prop :=
 New 48 (TResource.cells t0) w fun b2 w =>
 New 48 (TResource.cells t1) w fun b3 w =>
 Jn (σ := Bool) (fun k1 =>
  Rn Try.prog (Value.int .i64) (Instr.loadAt 3 (Ptr ((⟨b2, 0, none⟩ : Addr).add 0))) w fun t6 w =>
  Rn Try.prog (Value.int .i64) (Instr.loadAt 3 (Ptr ((⟨b3, 0, none⟩ : Addr).add 0))) w fun t8 w =>
  if t6 = t8 then
   Rn Try.prog Value.string (Instr.loadAt 9 (Ptr ((⟨b2, 0, none⟩ : Addr).add 1))) w fun t12 w =>
   Rn Try.prog Value.string (Instr.loadAt 9 (Ptr ((⟨b3, 0, none⟩ : Addr).add 1))) w fun t14 w =>
   if t12 = t14 then
    Rn Try.prog Sl.v (Instr.loadAt 44 (Ptr ((⟨b2, 0, none⟩ : Addr).add 2))) w fun t19 w =>
    Rn Try.prog Sl.v (Instr.loadAt 44 (Ptr ((⟨b3, 0, none⟩ : Addr).add 2))) w fun t21 w =>
    Cal Try.prog Value.bool 80 #[(Sl.v t19), (Sl.v t21)] w fun t22 w =>
    if t22 = true then
     Rn Try.prog Sl.v (Instr.loadAt 45 (Ptr ((⟨b2, 0, none⟩ : Addr).add 3))) w fun t26 w =>
     Rn Try.prog Sl.v (Instr.loadAt 45 (Ptr ((⟨b3, 0, none⟩ : Addr).add 3))) w fun t28 w =>
     Cal Try.prog Value.bool 106 #[(Sl.v t26), (Sl.v t28)] w fun t29 w =>
     if t29 = true then
      Rn Try.prog Value.string (Instr.loadAt 9 (Ptr ((⟨b2, 0, none⟩ : Addr).add 4))) w fun t33 w =>
      Rn Try.prog Value.string (Instr.loadAt 9 (Ptr ((⟨b3, 0, none⟩ : Addr).add 4))) w fun t35 w =>
      if t33 = t35 then
       Rn Try.prog Sl.v (Instr.loadAt 46 (Ptr ((⟨b2, 0, none⟩ : Addr).add 5))) w fun t40 w =>
       Rn Try.prog Sl.v (Instr.loadAt 46 (Ptr ((⟨b3, 0, none⟩ : Addr).add 5))) w fun t42 w =>
       Cal Try.prog Value.bool 107 #[(Sl.v t40), (Sl.v t42)] w fun t43 w =>
       if t43 = true then
        Rn Try.prog Value.string (Instr.loadAt 9 (Ptr ((⟨b2, 0, none⟩ : Addr).add 6))) w fun t47 w =>
        Rn Try.prog Value.string (Instr.loadAt 9 (Ptr ((⟨b3, 0, none⟩ : Addr).add 6))) w fun t49 w =>
        if t47 = t49 then
         Rn Try.prog Value.bool (Instr.loadAt 4 (Ptr ((⟨b2, 0, none⟩ : Addr).add 7))) w fun t54 w =>
         Rn Try.prog Value.bool (Instr.loadAt 4 (Ptr ((⟨b3, 0, none⟩ : Addr).add 7))) w fun t56 w =>
         k1 (t54 == t56) w
        else
         k1 false w
       else
        k1 false w
      else
       k1 false w
     else
      k1 false w
    else
     k1 false w
   else
    k1 false w
  else
   k1 false w
 ) fun s1 w =>
  R s1 w
def f63 (t0 : TResource) (R : (TKey) → World → Prop) (w : World) : Prop :=
 New 48 (TResource.cells t0) w fun b1 w =>
 New 113 (TKey.cells (⟨0, ⟨#[]⟩⟩ : TKey)) w fun b2 w =>
 Rn Try.prog (Value.int .i64) (Instr.loadAt 3 (Ptr ((⟨b1, 0, none⟩ : Addr).add 0))) w fun t4 w =>
 Rn Try.prog Value.string (Instr.loadAt 9 (Ptr ((⟨b1, 0, none⟩ : Addr).add 1))) w fun t6 w =>
 RnU Try.prog (Instr.storeAt 113 (Ptr (⟨b2, 0, none⟩ : Addr)) (TKey.v (⟨t4, t6⟩ : TKey))) w fun w =>
 RnR Try.prog TKey.v (loadVar 113 (⟨b2, 0, none⟩ : Addr)) w fun r0 =>
 R r0 w
theorem c63 {t0 : TResource} {R : (TKey) → World → Prop} {w : World} (h : f63 t0 R w) :
  Cal Try.prog TKey.v 63 #[(TResource.v t0)] w R := by
 unfold f63 at h
 refine calls_ Try.func63 Try.ntmps63 rfl rfl <| seq_ <| region_ ?_
 refine st_new (f := (fun b => Ptr ⟨b, 0, none⟩)) (ex_boxN rfl rfl) h ?_; clear h; intro b1 w h
 refine st_new (f := (fun b => Ptr ⟨b, 0, none⟩)) (ex_allocN zero113 rfl) h ?_; clear h; intro b2 w h
 refine wl_nil <| then_n <| seq_ <| region_ <| st_val (ex_fa fa48_0 (p := (⟨b1, 0, none⟩ : Addr)) rfl) ?_
 refine st_rn (fun r => ex_load rfl r) h ?_; clear h; intro t4 w h
 refine st_val (ex_fa fa48_1 (p := (⟨b1, 0, none⟩ : Addr)) rfl) ?_
 refine st_rn (fun r => ex_load rfl r) h ?_; clear h; intro t6 w h
 refine st_val (ex_build (a' := [(0, (.int .i64 t4)), (1, (.string t6))]) (v := TKey.v (⟨t4, t6⟩ : TKey)) rfl (e_build Try.underlying113 zero113 rfl pl113 rfl _)) ?_
 refine st_rnu (fun r => ex_store rfl rfl r) h ?_; clear h; intro w h
 refine wl_nil <| then_n <| wp_ret ?_
 obtain ⟨r0, hr0, h⟩ := h
 refine ret_c rfl rfl hr0 ⟨r0, rfl, h⟩

def f65 (t0 : Sl) (R : (Int) → World → Prop) (w : World) : Prop :=
 Lp (σ := Int) (fun s1 w n1 =>
  if s1 < (t0.n : Int) then
   Jn (σ := Bool) (fun k3 =>
    Dr w fun w4 w =>
     RnP Try.prog Ptr (Instr.indexAt 22 (Sl.v t0) (.int .i64 s1)) fun t12 =>
     RnL Try.prog (Value.int .i64) (Instr.loadAt 3 (Ptr (t12.add 0))) w4 fun t14 =>
     if t14 < 1 then
      k3 true w
     else
      RnP Try.prog Ptr (Instr.indexAt 22 (Sl.v t0) (.int .i64 s1)) fun t19 =>
      RnL Try.prog (Value.int .i64) (Instr.loadAt 3 (Ptr (t19.add 0))) w4 fun t21 =>
      if 4 < t21 then
       k3 true w
      else
       RnP Try.prog Ptr (Instr.indexAt 22 (Sl.v t0) (.int .i64 s1)) fun t27 =>
       RnL Try.prog Value.bool (Instr.loadAt 4 (Ptr (t27.add 7))) w4 fun t29 =>
       if t29 = true then
        k3 true w
       else
        if 0 < s1 then
         RnP Try.prog Ptr (Instr.indexAt 22 (Sl.v t0) (.int .i64 (IntKind.i64.wrap (s1 - 1)))) fun t38 =>
         RnL Try.prog TResource.v (Instr.loadAt 48 (Ptr t38)) w4 fun t39 =>
         RnP Try.prog Ptr (Instr.indexAt 22 (Sl.v t0) (.int .i64 s1)) fun t42 =>
         RnL Try.prog TResource.v (Instr.loadAt 48 (Ptr t42)) w4 fun t43 =>
         Cal Try.prog Value.bool 47 #[(TResource.v t39), (TResource.v t43)] w (ExtK w4 fun t44 w =>
          k3 (!t44) w
         )
        else
         k3 false w
   ) fun s3 w =>
    if s3 = true then
     R s1 w
    else
     n1 (IntKind.i64.wrap (s1 + 1)) w
  else
   R (-1) w
 ) 0 w
end Go.Proofs.Ytdoeegfcmbcbkaa.Tr


namespace Go.Proofs.Ytdoeegfcmbcbkaa.Tr
open Go Go.Eng
set_option linter.unusedVariables false
set_option maxRecDepth 100000
set_option maxHeartbeats 4000000
def f66 (t0 : Sl) (t1 : Int) (t2 : ByteArray) (R : (Int) → World → Prop) (w : World) : Prop :=
 Lp (σ := Int) (fun s1 w n1 =>
  if s1 < (t0.n : Int) then
   Jn (σ := Bool) (fun k3 =>
    RnP Try.prog Ptr (Instr.indexAt 22 (Sl.v t0) (.int .i64 s1)) fun t16 =>
    Rn Try.prog (Value.int .i64) (Instr.loadAt 3 (Ptr (t16.add 0))) w fun t18 w =>
    if t18 = t1 then
     RnP Try.prog Ptr (Instr.indexAt 22 (Sl.v t0) (.int .i64 s1)) fun t24 =>
     Rn Try.prog Value.string (Instr.loadAt 9 (Ptr (t24.add 1))) w fun t26 w =>
     k3 (decide (t26 = t2)) w
    else
     k3 false w
   ) fun s3 w =>
    if s3 = true then
     R s1 w
    else
     n1 (IntKind.i64.wrap (s1 + 1)) w
  else
   R (-1) w
 ) 0 w
def f76 (t0 : Sl) (t1 : (Option Nat)) (t2 : TResource) (R : (THost) → World → Prop) (w : World) : Prop :=
 New 48 (TResource.cells t2) w fun b5 w =>
 New 59 (THost.cells (⟨⟨#[]⟩, ⟨#[]⟩, Sl.nil, Sl.nil⟩ : THost)) w fun b6 w =>
 Rn Try.prog Value.string (Instr.loadAt 9 (Ptr ((⟨b5, 0, none⟩ : Addr).add 4))) w fun t15 w =>
 Rn Try.prog Value.string (Instr.loadAt 9 (Ptr ((⟨b5, 0, none⟩ : Addr).add 1))) w fun t17 w =>
 New 59 (THost.cells (⟨⟨#[]⟩, ⟨#[]⟩, Sl.nil, Sl.nil⟩ : THost)) w fun b7 w =>
 RnU Try.prog (Instr.storeAt 59 (Ptr (⟨b7, 0, none⟩ : Addr)) (THost.v (⟨t15, t17, Sl.nil, Sl.nil⟩ : THost))) w fun w =>
 Rn Try.prog Sl.v (Instr.loadAt 46 (Ptr ((⟨b5, 0, none⟩ : Addr).add 5))) w fun t20 w =>
 Lp (σ := Int) (fun s1 w n1 =>
  if s1 < (t20.n : Int) then
   RnP Try.prog Ptr (Instr.indexAt 46 (Sl.v t20) (.int .i64 s1)) fun t24 =>
   Rn Try.prog TRule.v (Instr.loadAt 91 (Ptr t24)) w fun t25 w =>
   New 91 (TRule.cells (⟨⟨#[]⟩, ⟨#[]⟩, ⟨#[]⟩, false⟩ : TRule)) w fun b9 w =>
   RnU Try.prog (Instr.storeAt 91 (Ptr (⟨b9, 0, none⟩ : Addr)) (TRule.v t25)) w fun w =>
   Dr w fun w3 w =>
    RnL Try.prog Sl.v (Instr.loadAt 56 (Ptr ((⟨b7, 0, none⟩ : Addr).add 2))) w3 fun t27 =>
    RnL Try.prog Value.string (Instr.loadAt 9 (Ptr ((⟨b9, 0, none⟩ : Addr).add 0))) w3 fun t29 =>
    RnL Try.prog Value.string (Instr.loadAt 9 (Ptr ((⟨b9, 0, none⟩ : Addr).add 1))) w3 fun t31 =>
    RnL Try.prog Value.string (Instr.loadAt 9 (Ptr ((⟨b9, 0, none⟩ : Addr).add 2))) w3 fun t34 =>
    RnL Try.prog Sl.v (Instr.lookup 97 (.map t1) (.string t34) false) w3 fun t35 =>
    Cal Try.prog Sl.v 19 #[(Sl.v t35)] w (ExtK w3 fun t36 w =>
     New 61 ((TEntry.cells (⟨t29, t31, t36⟩ : TEntry))) w fun b38 w =>
     Rn Try.prog Sl.v (Builtin.append_ #[56, 56] 56 #[(Sl.v t27), (Sl.v (⟨some ⟨b38, 0, none⟩, 1, 1⟩ : Sl))]) w fun t39 w =>
     RnU Try.prog (Instr.storeAt 56 (Ptr ((⟨b7, 0, none⟩ : Addr).add 2)) (Sl.v t39)) w fun w =>
     n1 (IntKind.i64.wrap (s1 + 1)) w
    )
  else
   Cal Try.prog Sl.v 54 #[(Sl.v t0), (.int .i64 4)] w fun t43 w =>
   Lp (σ := Int) (fun s4 w n4 =>
    if s4 < (t43.n : Int) then
     Jn (σ := Unit) (fun k6 =>
      RnP Try.prog Ptr (Instr.indexAt 22 (Sl.v t43) (.int .i64 s4)) fun t47 =>
      Rn Try.prog TResource.v (Instr.loadAt 48 (Ptr t47)) w fun t48 w =>
      New 48 (TResource.cells (⟨0, ⟨#[]⟩, Sl.nil, Sl.nil, ⟨#[]⟩, Sl.nil, ⟨#[]⟩, false⟩ : TResource)) w fun b11 w =>
      RnU Try.prog (Instr.storeAt 48 (Ptr (⟨b11, 0, none⟩ : Addr)) (TResource.v t48)) w fun w =>
      Rn Try.prog Value.string (Instr.loadAt 9 (Ptr ((⟨b11, 0, none⟩ : Addr).add 6))) w fun t50 w =>
      Rn Try.prog Value.string (Instr.loadAt 9 (Ptr ((⟨b5, 0, none⟩ : Addr).add 1))) w fun t52 w =>
      if t50 ≠ t52 then
       k6 () w
      else
       Rn Try.prog Sl.v (Instr.loadAt 46 (Ptr ((⟨b11, 0, none⟩ : Addr).add 5))) w fun t55 w =>
       Lp (σ := Int) (fun s8 w n8 =>
        if s8 < (t55.n : Int) then
         RnP Try.prog Ptr (Instr.indexAt 46 (Sl.v t55) (.int .i64 s8)) fun t59 =>
         Rn Try.prog TRule.v (Instr.loadAt 91 (Ptr t59)) w fun t60 w =>
         New 91 (TRule.cells (⟨⟨#[]⟩, ⟨#[]⟩, ⟨#[]⟩, false⟩ : TRule)) w fun b13 w =>
         RnU Try.prog (Instr.storeAt 91 (Ptr (⟨b13, 0, none⟩ : Addr)) (TRule.v t60)) w fun w =>
         Rn Try.prog Sl.v (Instr.loadAt 57 (Ptr ((⟨b7, 0, none⟩ : Addr).add 3))) w fun t62 w =>
         Rn Try.prog Value.string (Instr.loadAt 9 (Ptr ((⟨b13, 0, none⟩ : Addr).add 0))) w fun t64 w =>
         Rn Try.prog Value.string (Instr.loadAt 9 (Ptr ((⟨b13, 0, none⟩ : Addr).add 1))) w fun t66 w =>
         Rn Try.prog Value.bool (Instr.loadAt 4 (Ptr ((⟨b13, 0, none⟩ : Addr).add 3))) w fun t68 w =>
         New 89 ((TPermit.cells (⟨t64, t66, t68⟩ : TPermit))) w fun b70 w =>
         Rn Try.prog Sl.v (Builtin.append_ #[57, 57] 57 #[(Sl.v t62), (Sl.v (⟨some ⟨b70, 0, none⟩, 1, 1⟩ : Sl))]) w fun t71 w =>
         RnU Try.prog (Instr.storeAt 57 (Ptr ((⟨b7, 0, none⟩ : Addr).add 3)) (Sl.v t71)) w fun w =>
         n8 (IntKind.i64.wrap (s8 + 1)) w
        else
         k6 () w
       ) 0 w
     ) fun s6 w =>
      n4 (IntKind.i64.wrap (s4 + 1)) w
    else
     Rn Try.prog THost.v (Instr.loadAt 59 (Ptr (⟨b7, 0, none⟩ : Addr))) w fun t75 w =>
     RnU Try.prog (Instr.storeAt 59 (Ptr (⟨b6, 0, none⟩ : Addr)) (THost.v t75)) w fun w =>
     RnR Try.prog THost.v (loadVar 59 (⟨b6, 0, none⟩ : Addr)) w fun r0 =>
     R r0 w
   ) 0 w
 ) 0 w
theorem c76 {t0 : Sl} {t1 : (Option Nat)} {t2 : TResource} {R : (THost) → World → Prop} {w : World} (h : f76 t0 t1 t2 R w) :
  Cal Try.prog THost.v 76 #[(Sl.v t0), (.map t1), (TResource.v t2)] w R := by
 unfold f76 at h
 refine calls_ Try.func76 Try.ntmps76 rfl rfl <| seq_ <| region_ ?_
 refine st_new (f := (fun b => Ptr ⟨b, 0, none⟩)) (ex_boxN rfl rfl) h ?_; clear h; intro b5 w h
 refine st_new (f := (fun b => Ptr ⟨b, 0, none⟩)) (ex_allocN zero59 rfl) h ?_; clear h; intro b6 w h
 refine wl_nil <| then_n <| seq_ <| region_ <| st_val (ex_fa fa48_4 (p := (⟨b5, 0, none⟩ : Addr)) rfl) ?_
 refine st_rn (fun r => ex_load rfl r) h ?_; clear h; intro t15 w h
 refine st_val (ex_fa fa48_1 (p := (⟨b5, 0, none⟩ : Addr)) rfl) ?_
 refine st_rn (fun r => ex_load rfl r) h ?_; clear h; intro t17 w h
 refine st_val (ex_build (a' := [(0, (.string t15)), (1, (.string t17))]) (v := THost.v (⟨t15, t17, Sl.nil, Sl.nil⟩ : THost)) rfl (e_build Try.underlying59 zero59 rfl pl59 rfl _)) ?_
 refine st_new (f := (fun b => Ptr ⟨b, 0, none⟩)) (ex_allocN zero59 rfl) h ?_; clear h; intro b7 w h
 refine st_rnu (fun r => ex_store rfl rfl r) h ?_; clear h; intro w h
 refine wl_nil <| then_n <| seq_ <| seq_ <| region_ <| st_val (ex_fa fa48_5 (p := (⟨b5, 0, none⟩ : Addr)) rfl) ?_
 refine st_rn (fun r => ex_load rfl r) h ?_; clear h; intro t20 w h
 refine st_val (ex_len (s := t20) Try.underlying46 rfl) <| mv (.int .i64 0) rfl <| wl_nil <| then_n <| wp_block <| wp_lp (σ := Int) (fun s1 a => ∃ j, a = F 76 (upds j [(0, (Sl.v t0)), (1, (.map t1)), (5, (Ptr (⟨b5, 0, none⟩ : Addr))), (6, (Ptr (⟨b6, 0, none⟩ : Addr))), (7, (Ptr (⟨b7, 0, none⟩ : Addr))), (20, (Sl.v t20)), (21, (.int .i64 (t20.n : Int))), (22, (.int .i64 s1))])) h (mk_upds (ae rfl (ae rfl (ae rfl (ae rfl (ae rfl (ae rfl (ae rfl (ae rfl ae0))))))))) ?_
 clear h; rintro s1 _ w n1 ⟨j, rfl⟩ h
 refine seq_ <| region_ <| st_val (ex_lss (a := s1) (b := (t20.n : Int)) rfl rfl) <| wl_nil <| then_n <| seq_ ?_
 by_cases hc2 : s1 < (t20.n : Int)
 ·rw [if_pos hc2] at h; refine cond_1 (b := (decide (s1 < (t20.n : Int)))) rfl (decide_eq_true hc2) ?_
  refine wp_skip <| then_n <| seq_ <| wp_block <| seq_ <| region_ ?_
  refine st_rnp (fun r => ex_indexAddr rfl rfl r) h ?_; clear h; intro t24 h
  refine st_rn (fun r => ex_load rfl r) h ?_; clear h; intro t25 w h
  refine st_new (f := (fun b => Ptr ⟨b, 0, none⟩)) (ex_allocN zero91 rfl) h ?_; clear h; intro b9 w h
  refine st_rnu (fun r => ex_store rfl rfl r) h ?_; clear h; intro w h
  refine wl_nil <| then_n ?_
  refine dr_begin mixed [13, 15] (listed := #[false, false, false, false, false, false, false, false, false, false, false, false, false, false, false, false]) rfl (n := 16) rfl h ?_; clear h; intro w3 h
  have hE : Ext w3 w3 := Ext.refl _
  refine tP 0 rfl (fun _ => hE) (fun _ => ex_fa fa59_2 (p := (⟨b7, 0, none⟩ : Addr)) rfl) ?_
  obtain ⟨t27, ht27, h⟩ := h
  refine tK 1 rfl hE (fun _ hw => (fun r => ex_load rfl r) (ht27 _ hw)) <| tP 2 rfl (fun _ => hE) (fun _ => ex_fa fa91_0 (p := (⟨b9, 0, none⟩ : Addr)) rfl) ?_
  obtain ⟨t29, ht29, h⟩ := h
  refine tK 3 rfl hE (fun _ hw => (fun r => ex_load rfl r) (ht29 _ hw)) <| tP 4 rfl (fun _ => hE) (fun _ => ex_fa fa91_1 (p := (⟨b9, 0, none⟩ : Addr)) rfl) ?_
  obtain ⟨t31, ht31, h⟩ := h
  refine tK 5 rfl hE (fun _ hw => (fun r => ex_load rfl r) (ht31 _ hw)) <| tP 6 rfl (fun _ => hE) (fun _ => ex_move (v := (.map t1)) rfl) <| tP 7 rfl (fun _ => hE) (fun _ => ex_fa fa91_2 (p := (⟨b9, 0, none⟩ : Addr)) rfl) ?_
  obtain ⟨t34, ht34, h⟩ := h
  refine tK 8 rfl hE (fun _ hw => (fun r => ex_load rfl r) (ht34 _ hw)) ?_
  obtain ⟨t35, ht35, h⟩ := h
  refine tK 9 rfl hE (fun _ hw => (fun r => ex_lookup rfl rfl r) (ht35 _ hw)) <| dr_only (i := 10) (by kernel_rfl) rfl rfl ?_
  refine o_cal en19 rfl h ?_; clear h; intro t36 w h; obtain ⟨hx, h⟩ := h; clear hE; have hE := hx; clear hx; refine ⟨fun _ => hE, ?_⟩
  refine tP 11 rfl (fun _ => hE) (fun _ => ex_build (a' := [(0, (.string t29)), (1, (.string t31)), (2, (Sl.v t36))]) (v := TEntry.v (⟨t29, t31, t36⟩ : TEntry)) rfl (e_build Try.underlying61 zero61 rfl pl61 rfl _)) <| dr_only (i := 12) (by kernel_rfl) rfl rfl ?_
  refine o_new (f := (fun b => Sl.v ⟨some ⟨b, 0, none⟩, 1, 1⟩)) (ex_buildSlice (a' := [(0, (TEntry.v (⟨t29, t31, t36⟩ : TEntry)))]) rfl (e_buildSlice (cs := ((TEntry.cells (⟨t29, t31, t36⟩ : TEntry)))) Try.underlying56 info61 iz61 (by decide +kernel) (by decide +kernel) (by kernel_rfl) _)) h ?_; clear h; intro b38 w hx h; replace hE := hE.trans hx; clear hx; refine ⟨fun _ => hE, ?_⟩
  refine dr_only (i := 13) (by kernel_rfl) rfl rfl ?_
  refine o_rn (fun r => ex_builtin rfl (fun _ => rfl) r) h ?_; clear h; intro t39 w h; refine ⟨noG (by kernel_rfl), ?_⟩
  refine tP 14 rfl (noG (by kernel_rfl)) (fun _ => ex_fa fa59_2 (p := (⟨b7, 0, none⟩ : Addr)) rfl) <| dr_only (i := 15) (by kernel_rfl) rfl rfl ?_
  refine o_rnu (fun r => ex_store rfl rfl r) h ?_; clear h; intro w h; refine ⟨noG (by kernel_rfl), ?_⟩
  refine dr_end (by kernel_rfl) <| inb_n <| then_n <| region_ <| st_val (ex_add (a := s1) (b := 1) rfl rfl) <| mv (.int .i64 (IntKind.i64.wrap (s1 + 1))) rfl <| wl_nil ?_
  exact then_n ⟨(IntKind.i64.wrap (s1 + 1)), mk_upds (ae rfl (ae rfl (ae rfl (ae rfl (ae rfl (ae rfl (ae rfl (ae rfl ae0)))))))), h⟩
 ·rw [if_neg hc2] at h; refine cond_0 (b := (decide (s1 < (t20.n : Int)))) rfl (decide_eq_false hc2) ?_
  refine wp_exit <| then_e <| then_e <| inb_e <| then_n <| seq_ <| seq_ <| region_ <| mv (Sl.v t0) rfl ?_
  refine st_cal en54 rfl h ?_; clear h; intro t43 w h
  refine st_val (ex_len (s := t43) Try.underlying22 rfl) <| mv (.int .i64 0) rfl <| wl_nil <| then_n <| wp_block <| wp_lp (σ := Int) (fun s4 a => ∃ j, a = F 76 (upds j [(5, (Ptr (⟨b5, 0, none⟩ : Addr))), (6, (Ptr (⟨b6, 0, none⟩ : Addr))), (7, (Ptr (⟨b7, 0, none⟩ : Addr))), (43, (Sl.v t43)), (44, (.int .i64 (t43.n : Int))), (45, (.int .i64 s4))])) h (mk_upds (ae rfl (ae rfl (ae rfl (ae rfl (ae rfl (ae rfl ae0))))))) ?_
  clear h; rintro s4 _ w n4 ⟨j, rfl⟩ h
  refine seq_ <| region_ <| st_val (ex_lss (a := s4) (b := (t43.n : Int)) rfl rfl) <| wl_nil <| then_n <| seq_ ?_
  by_cases hc5 : s4 < (t43.n : Int)
  ·rw [if_pos hc5] at h; refine cond_1 (b := (decide (s4 < (t43.n : Int)))) rfl (decide_eq_true hc5) ?_
   refine wp_skip <| then_n ?_
   refine wp_jn (σ := Unit) (fun s6 l => ∃ j, l = upds j [(5, (Ptr (⟨b5, 0, none⟩ : Addr))), (6, (Ptr (⟨b6, 0, none⟩ : Addr))), (7, (Ptr (⟨b7, 0, none⟩ : Addr))), (43, (Sl.v t43)), (44, (.int .i64 (t43.n : Int))), (45, (.int .i64 s4))]) h ?_ ?_
   ·clear h; rintro s6 _ w ⟨j, rfl⟩ h
    refine region_ <| st_val (ex_add (a := s4) (b := 1) rfl rfl) <| mv (.int .i64 (IntKind.i64.wrap (s4 + 1))) rfl <| wl_nil ?_
    exact then_n ⟨(IntKind.i64.wrap (s4 + 1)), mk_upds (ae rfl (ae rfl (ae rfl (ae rfl (ae rfl (ae rfl ae0)))))), h⟩
   ·clear h; intro k6 h
    refine wp_block <| seq_ <| region_ ?_
    refine st_rnp (fun r => ex_indexAddr rfl rfl r) h ?_; clear h; intro t47 h
    refine st_rn (fun r => ex_load rfl r) h ?_; clear h; intro t48 w h
    refine st_new (f := (fun b => Ptr ⟨b, 0, none⟩)) (ex_allocN zero48 rfl) h ?_; clear h; intro b11 w h
    refine st_rnu (fun r => ex_store rfl rfl r) h ?_; clear h; intro w h
    refine wl_nil <| then_n <| seq_ <| seq_ <| region_ <| st_val (ex_fa fa48_6 (p := (⟨b11, 0, none⟩ : Addr)) rfl) ?_
    refine st_rn (fun r => ex_load rfl r) h ?_; clear h; intro t50 w h
    refine st_val (ex_fa fa48_1 (p := (⟨b5, 0, none⟩ : Addr)) rfl) ?_
    refine st_rn (fun r => ex_load rfl r) h ?_; clear h; intro t52 w h
    refine st_val (ex_neqS (a := t50) (b := t52) rfl rfl) <| wl_nil <| then_n ?_
    by_cases hc7 : t50 ≠ t52
    ·rw [if_pos hc7] at h; refine cond_1 (b := (decide (t50 ≠ t52))) rfl (decide_eq_true hc7) ?_
     refine wp_exit <| then_e <| inb_e ?_
     exact then_n ⟨(), _, rfl, mk_upds' (ae rfl (ae rfl (ae rfl (ae rfl (ae rfl (ae rfl ae0)))))), h⟩
    ·rw [if_neg hc7] at h; refine cond_0 (b := (decide (t50 ≠ t52))) rfl (decide_eq_false hc7) ?_
     refine wp_skip <| then_n <| seq_ <| region_ <| st_val (ex_fa fa48_5 (p := (⟨b11, 0, none⟩ : Addr)) rfl) ?_
     refine st_rn (fun r => ex_load rfl r) h ?_; clear h; intro t55 w h
     refine st_val (ex_len (s := t55) Try.underlying46 rfl) <| mv (.int .i64 0) rfl <| wl_nil <| then_n <| wp_block <| wp_lp (σ := Int) (fun s8 a => ∃ j, a = F 76 (upds j [(5, (Ptr (⟨b5, 0, none⟩ : Addr))), (6, (Ptr (⟨b6, 0, none⟩ : Addr))), (7, (Ptr (⟨b7, 0, none⟩ : Addr))), (43, (Sl.v t43)), (44, (.int .i64 (t43.n : Int))), (45, (.int .i64 s4)), (55, (Sl.v t55)), (56, (.int .i64 (t55.n : Int))), (57, (.int .i64 s8))])) h (mk_upds (ae rfl (ae rfl (ae rfl (ae rfl (ae rfl (ae rfl (ae rfl (ae rfl (ae rfl ae0)))))))))) ?_
     clear h; rintro s8 _ w n8 ⟨j, rfl⟩ h
     refine seq_ <| region_ <| st_val (ex_lss (a := s8) (b := (t55.n : Int)) rfl rfl) <| wl_nil <| then_n <| seq_ ?_
     by_cases hc9 : s8 < (t55.n : Int)
     ·rw [if_pos hc9] at h; refine cond_1 (b := (decide (s8 < (t55.n : Int)))) rfl (decide_eq_true hc9) ?_
      refine wp_skip <| then_n <| seq_ <| wp_block <| seq_ <| region_ ?_
      refine st_rnp (fun r => ex_indexAddr rfl rfl r) h ?_; clear h; intro t59 h
      refine st_rn (fun r => ex_load rfl r) h ?_; clear h; intro t60 w h
      refine st_new (f := (fun b => Ptr ⟨b, 0, none⟩)) (ex_allocN zero91 rfl) h ?_; clear h; intro b13 w h
      refine st_rnu (fun r => ex_store rfl rfl r) h ?_; clear h; intro w h
      refine wl_nil <| then_n <| region_ <| st_val (ex_fa fa59_3 (p := (⟨b7, 0, none⟩ : Addr)) rfl) ?_
      refine st_rn (fun r => ex_load rfl r) h ?_; clear h; intro t62 w h
      refine st_val (ex_fa fa91_0 (p := (⟨b13, 0, none⟩ : Addr)) rfl) ?_
      refine st_rn (fun r => ex_load rfl r) h ?_; clear h; intro t64 w h
      refine st_val (ex_fa fa91_1 (p := (⟨b13, 0, none⟩ : Addr)) rfl) ?_
      refine st_rn (fun r => ex_load rfl r) h ?_; clear h; intro t66 w h
      refine st_val (ex_fa fa91_3 (p := (⟨b13, 0, none⟩ : Addr)) rfl) ?_
      refine st_rn (fun r => ex_load rfl r) h ?_; clear h; intro t68 w h
      refine st_val (ex_build (a' := [(0, (.string t64)), (1, (.string t66)), (2, (.bool t68))]) (v := TPermit.v (⟨t64, t66, t68⟩ : TPermit)) rfl (e_build Try.underlying89 zero89 rfl pl89 rfl _)) ?_
      refine st_new (f := (fun b => Sl.v ⟨some ⟨b, 0, none⟩, 1, 1⟩)) (ex_buildSlice (a' := [(0, (TPermit.v (⟨t64, t66, t68⟩ : TPermit)))]) rfl (e_buildSlice (cs := ((TPermit.cells (⟨t64, t66, t68⟩ : TPermit)))) Try.underlying57 info89 iz89 (by decide +kernel) (by decide +kernel) (by kernel_rfl) _)) h ?_; clear h; intro b70 w h
      refine st_rn (fun r => ex_builtin rfl (fun _ => rfl) r) h ?_; clear h; intro t71 w h
      refine st_val (ex_fa fa59_3 (p := (⟨b7, 0, none⟩ : Addr)) rfl) ?_
      refine st_rnu (fun r => ex_store rfl rfl r) h ?_; clear h; intro w h
      refine wl_nil <| inb_n <| then_n <| region_ <| st_val (ex_add (a := s8) (b := 1) rfl rfl) <| mv (.int .i64 (IntKind.i64.wrap (s8 + 1))) rfl <| wl_nil ?_
      exact then_n ⟨(IntKind.i64.wrap (s8 + 1)), mk_upds (ae rfl (ae rfl (ae rfl (ae rfl (ae rfl (ae rfl (ae rfl (ae rfl (ae rfl ae0))))))))), h⟩
     ·rw [if_neg hc9] at h; refine cond_0 (b := (decide (s8 < (t55.n : Int)))) rfl (decide_eq_false hc9) ?_
      refine wp_exit <| then_e <| then_e <| inb_e <| inb_n ?_
      exact then_n ⟨(), _, rfl, mk_upds' (ae rfl (ae rfl (ae rfl (ae rfl (ae rfl (ae rfl ae0)))))), h⟩
  ·rw [if_neg hc5] at h; refine cond_0 (b := (decide (s4 < (t43.n : Int)))) rfl (decide_eq_false hc5) ?_
   refine wp_exit <| then_e <| then_e <| inb_e <| then_n <| seq_ <| region_ ?_
   refine st_rn (fun r => ex_load rfl r) h ?_; clear h; intro t75 w h
   refine st_rnu (fun r => ex_store rfl rfl r) h ?_; clear h; intro w h
   refine wl_nil <| then_n <| wp_ret ?_
   obtain ⟨r0, hr0, h⟩ := h
   refine ret_c rfl rfl hr0 ⟨r0, rfl, h⟩

def f77 (t0 : Sl) (t1 : Value) (R : (Unit) → World → Prop) (w : World) : Prop :=
 Cal Try.prog (fun _ : Unit => Value.tuple #[]) 113 #[(Sl.v t0), (.int .i64 (t0.n : Int)), t1] w fun t8 w =>
 R () w
theorem c77 {t0 : Sl} {t1 : Value} {R : (Unit) → World → Prop} {w : World} (h : f77 t0 t1 R w) :
  Cal Try.prog (fun _ : Unit => Value.tuple #[]) 77 #[(Sl.v t0), t1] w R := by
 unfold f77 at h
 refine calls_ Try.func77 Try.ntmps77 rfl rfl <| region_ <| mv (Sl.v t0) rfl <| mv (Sl.v t0) rfl <| st_val (ex_len (s := t0) Try.underlying51 rfl) <| mv t1 rfl ?_
 refine st_cal en113 rfl h ?_; clear h; intro t8 w h
 refine wl_nil ?_
 refine end_0 rfl ⟨(), rfl, h⟩

def f78 (t0 : THost) (t1 : THost) (R : (Int) → World → Prop) (w : World) : Prop :=
 New 59 (THost.cells t0) w fun b2 w =>
 New 59 (THost.cells t1) w fun b3 w =>
 Rn Try.prog Value.string (Instr.loadAt 9 (Ptr ((⟨b2, 0, none⟩ : Addr).add 0))) w fun t6 w =>
 Rn Try.prog Value.string (Instr.loadAt 9 (Ptr ((⟨b3, 0, none⟩ : Addr).add 0))) w fun t8 w =>
 Cal Try.prog (Value.int .i64) 40 #[(.string t6), (.string t8)] w fun t9 w =>
 R t9 w
theorem c78 {t0 : THost} {t1 : THost} {R : (Int) → World → Prop} {w : World} (h : f78 t0 t1 R w) :
  Cal Try.prog (Value.int .i64) 78 #[(THost.v t0), (THost.v t1)] w R := by
 unfold f78 at h
 refine calls_ Try.func78 Try.ntmps78 rfl rfl <| seq_ <| region_ ?_
 refine st_new (f := (fun b => Ptr ⟨b, 0, none⟩)) (ex_boxN rfl rfl) h ?_; clear h; intro b2 w h
 refine st_new (f := (fun b => Ptr ⟨b, 0, none⟩)) (ex_boxN rfl rfl) h ?_; clear h; intro b3 w h
 refine asg (.int .i64 0) rfl <| wl_nil <| then_n <| seq_ <| region_ <| st_val (ex_fa fa59_0 (p := (⟨b2, 0, none⟩ : Addr)) rfl) ?_
 refine st_rn (fun r => ex_load rfl r) h ?_; clear h; intro t6 w h
 refine st_val (ex_fa fa59_0 (p := (⟨b3, 0, none⟩ : Addr)) rfl) ?_
 refine st_rn (fun r => ex_load rfl r) h ?_; clear h; intro t8 w h
 refine st_cal en40 rfl h ?_; clear h; intro t9 w h
 refine asg (.int .i64 t9) rfl <| wl_nil <| then_n <| wp_ret ?_
 refine ret_1 rfl rfl ⟨t9, rfl, h⟩

def f79 (t0 : ByteArray) (t1 : ByteArray) (R : (Int) → World → Prop) (w : World) : Prop :=
 Cal Try.prog (fun x : Int × ByteArray => Value.tuple #[(.int .i64 x.1), (.string x.2)]) 114 #[(.string t0)] w fun t11 w =>
 Cal Try.prog (fun x : Int × ByteArray => Value.tuple #[(.int .i64 x.1), (.string x.2)]) 114 #[(.string t1)] w fun t16 w =>
 if t11.1 < t16.1 then
  R (-1) w
 else
  if t16.1 < t11.1 then
   R 1 w
  else
   Jn (σ := Bool) (fun k3 =>
    if t11.1 = 2 then
     k3 (decide ((t11.2.size : Int) ≠ (t16.2.size : Int))) w
    else
     k3 false w
   ) fun s3 w =>
    if s3 = true then
     if (t16.2.size : Int) < (t11.2.size : Int) then
      R (-1) w
     else
      R 1 w
    else
     Cal Try.prog (Value.int .i64) 115 #[(.string t11.2), (.string t16.2)] w fun t41 w =>
     R t41 w
def f80 (t0 : Sl) (t1 : Sl) (R : (Bool) → World → Prop) (w : World) : Prop :=
 if (t0.n : Int) ≠ (t1.n : Int) then
  R false w
 else
  Lp (σ := Int) (fun s2 w n2 =>
   if s2 < (t0.n : Int) then
    Dr w fun w4 w =>
     RnP Try.prog Ptr (Instr.indexAt 44 (Sl.v t0) (.int .i64 s2)) fun t19 =>
     RnL Try.prog Value.string (Instr.loadAt 9 (Ptr t19)) w4 fun t20 =>
     RnP Try.prog Ptr (Instr.indexAt 44 (Sl.v t1) (.int .i64 s2)) fun t23 =>
     RnL Try.prog Value.string (Instr.loadAt 9 (Ptr t23)) w4 fun t24 =>
     if t20 ≠ t24 then
      R false w
     else
      n2 (IntKind.i64.wrap (s2 + 1)) w
   else
    R true w
  ) 0 w
def f81 (t0 : THost) (t1 : THost) (R : (Bool) → World → Prop) (w : World) : Prop :=
 New 59 (THost.cells t0) w fun b2 w =>
 New 59 (THost.cells t1) w fun b3 w =>
 Jn (σ := Bool) (fun k1 =>
  Rn Try.prog Value.string (Instr.loadAt 9 (Ptr ((⟨b2, 0, none⟩ : Addr).add 0))) w fun t8 w =>
  Rn Try.prog Value.string (Instr.loadAt 9 (Ptr ((⟨b3, 0, none⟩ : Addr).add 0))) w fun t10 w =>
  if t8 ≠ t10 then
   k1 true w
  else
   Rn Try.prog Value.string (Instr.loadAt 9 (Ptr ((⟨b2, 0, none⟩ : Addr).add 1))) w fun t14 w =>
   Rn Try.prog Value.string (Instr.loadAt 9 (Ptr ((⟨b3, 0, none⟩ : Addr).add 1))) w fun t16 w =>
   if t14 ≠ t16 then
    k1 true w
   else
    Rn Try.prog Sl.v (Instr.loadAt 56 (Ptr ((⟨b2, 0, none⟩ : Addr).add 2))) w fun t21 w =>
    Rn Try.prog Sl.v (Instr.loadAt 56 (Ptr ((⟨b3, 0, none⟩ : Addr).add 2))) w fun t24 w =>
    if (t21.n : Int) ≠ (t24.n : Int) then
     k1 true w
    else
     Rn Try.prog Sl.v (Instr.loadAt 57 (Ptr ((⟨b2, 0, none⟩ : Addr).add 3))) w fun t30 w =>
     Rn Try.prog Sl.v (Instr.loadAt 57 (Ptr ((⟨b3, 0, none⟩ : Addr).add 3))) w fun t33 w =>
     k1 (decide ((t30.n : Int) ≠ (t33.n : Int))) w
 ) fun s1 w =>
  if s1 = true then
   R false w
  else
   Lp (σ := Int) (fun s6 w n6 =>
    Rn Try.prog Sl.v (Instr.loadAt 56 (Ptr ((⟨b2, 0, none⟩ : Addr).add 2))) w fun t39 w =>
    if s6 < (t39.n : Int) then
     Jn (σ := Bool) (fun k8 =>
      Dr w fun w9 w =>
       RnL Try.prog Sl.v (Instr.loadAt 56 (Ptr ((⟨b2, 0, none⟩ : Addr).add 2))) w9 fun t45 =>
       RnP Try.prog Ptr (Instr.indexAt 56 (Sl.v t45) (.int .i64 s6)) fun t47 =>
       RnL Try.prog Value.string (Instr.loadAt 9 (Ptr (t47.add 0))) w9 fun t49 =>
       RnL Try.prog Sl.v (Instr.loadAt 56 (Ptr ((⟨b3, 0, none⟩ : Addr).add 2))) w9 fun t51 =>
       RnP Try.prog Ptr (Instr.indexAt 56 (Sl.v t51) (.int .i64 s6)) fun t53 =>
       RnL Try.prog Value.string (Instr.loadAt 9 (Ptr (t53.add 0))) w9 fun t55 =>
       if t49 ≠ t55 then
        k8 true w
       else
        RnL Try.prog Sl.v (Instr.loadAt 56 (Ptr ((⟨b2, 0, none⟩ : Addr).add 2))) w9 fun t59 =>
        RnP Try.prog Ptr (Instr.indexAt 56 (Sl.v t59) (.int .i64 s6)) fun t61 =>
        RnL Try.prog Value.string (Instr.loadAt 9 (Ptr (t61.add 1))) w9 fun t63 =>
        RnL Try.prog Sl.v (Instr.loadAt 56 (Ptr ((⟨b3, 0, none⟩ : Addr).add 2))) w9 fun t65 =>
        RnP Try.prog Ptr (Instr.indexAt 56 (Sl.v t65) (.int .i64 s6)) fun t67 =>
        RnL Try.prog Value.string (Instr.loadAt 9 (Ptr (t67.add 1))) w9 fun t69 =>
        if t63 ≠ t69 then
         k8 true w
        else
         RnL Try.prog Sl.v (Instr.loadAt 56 (Ptr ((⟨b2, 0, none⟩ : Addr).add 2))) w9 fun t74 =>
         RnP Try.prog Ptr (Instr.indexAt 56 (Sl.v t74) (.int .i64 s6)) fun t76 =>
         RnL Try.prog Sl.v (Instr.loadAt 23 (Ptr (t76.add 2))) w9 fun t78 =>
         RnL Try.prog Sl.v (Instr.loadAt 56 (Ptr ((⟨b3, 0, none⟩ : Addr).add 2))) w9 fun t80 =>
         RnP Try.prog Ptr (Instr.indexAt 56 (Sl.v t80) (.int .i64 s6)) fun t82 =>
         RnL Try.prog Sl.v (Instr.loadAt 23 (Ptr (t82.add 2))) w9 fun t84 =>
         Cal Try.prog Value.bool 20 #[(Sl.v t78), (Sl.v t84)] w (ExtK w9 fun t85 w =>
          k8 (!t85) w
         )
     ) fun s8 w =>
      if s8 = true then
       R false w
      else
       n6 (IntKind.i64.wrap (s6 + 1)) w
    else
     Lp (σ := Int) (fun s13 w n13 =>
      Rn Try.prog Sl.v (Instr.loadAt 57 (Ptr ((⟨b2, 0, none⟩ : Addr).add 3))) w fun t90 w =>
      if s13 < (t90.n : Int) then
       Dr w fun w15 w =>
        RnL Try.prog Sl.v (Instr.loadAt 57 (Ptr ((⟨b2, 0, none⟩ : Addr).add 3))) w15 fun t96 =>
        RnP Try.prog Ptr (Instr.indexAt 57 (Sl.v t96) (.int .i64 s13)) fun t98 =>
        RnL Try.prog TPermit.v (Instr.loadAt 89 (Ptr t98)) w15 fun t99 =>
        RnL Try.prog Sl.v (Instr.loadAt 57 (Ptr ((⟨b3, 0, none⟩ : Addr).add 3))) w15 fun t101 =>
        RnP Try.prog Ptr (Instr.indexAt 57 (Sl.v t101) (.int .i64 s13)) fun t103 =>
        RnL Try.prog TPermit.v (Instr.loadAt 89 (Ptr t103)) w15 fun t104 =>
        RnP Try.prog Value.bool (do pure (Value.bool (!(← Op.equal 89 (TPermit.v t99) (TPermit.v t104))))) fun t105 =>
        if t105 = true then
         R false w
        else
         n13 (IntKind.i64.wrap (s13 + 1)) w
      else
       R true w
     ) 0 w
   ) 0 w
def f82 (t0 : Sl) (R : (Sl) → World → Prop) (w : World) : Prop :=
 if (t0.a.isNone) = true then
  R Sl.nil w
 else
  New 9 [] w fun b5 w =>
  Rn Try.prog Sl.v (Builtin.append_ #[44, 44] 44 #[(Sl.v (⟨some ⟨b5, 0, none⟩, 0, 0⟩ : Sl)), (Sl.v t0)]) w fun t7 w =>
  R t7 w
def f83 (t0 : Sl) (R : (Sl) → World → Prop) (w : World) : Prop :=
 if (t0.a.isNone) = true then
  R Sl.nil w
 else
  New 59 [] w fun b5 w =>
  Rn Try.prog Sl.v (Builtin.append_ #[51, 51] 51 #[(Sl.v (⟨some ⟨b5, 0, none⟩, 0, 0⟩ : Sl)), (Sl.v t0)]) w fun t7 w =>
  R t7 w
def f84 (t0 : Sl) (R : (Sl) → World → Prop) (w : World) : Prop :=
 if (t0.a.isNone) = true then
  R Sl.nil w
 else
  New 89 [] w fun b5 w =>
  Rn Try.prog Sl.v (Builtin.append_ #[57, 57] 57 #[(Sl.v (⟨some ⟨b5, 0, none⟩, 0, 0⟩ : Sl)), (Sl.v t0)]) w fun t7 w =>
  R t7 w
def f85 (t0 : Sl) (R : (Sl) → World → Prop) (w : World) : Prop :=
 if (t0.a.isNone) = true then
  R Sl.nil w
 else
  New 61 [] w fun b5 w =>
  Rn Try.prog Sl.v (Builtin.append_ #[56, 56] 56 #[(Sl.v (⟨some ⟨b5, 0, none⟩, 0, 0⟩ : Sl)), (Sl.v t0)]) w fun t7 w =>
  R t7 w
def f86 (t0 : ByteArray) (R : (Int × ByteArray) → World → Prop) (w : World) : Prop :=
 Jn (σ := Int × ByteArray) (fun k1 =>
  if t0 = (⟨#[42]⟩ : ByteArray) then
   R (2, (⟨#[]⟩ : ByteArray)) w
  else
   Cal Try.prog Value.bool 116 #[(.string t0), (.string (⟨#[42, 46]⟩ : ByteArray))] w fun t14 w =>
   if t14 = true then
    Dr w fun w4 w =>
     RnP Try.prog Value.string (Instr.sliceAt 9 (.string t0) (some (.int .i64 2)) none none) fun t16 =>
     k1 (1, t16) w
   else
    k1 (0, t0) w
 ) fun s1 w =>
  Cal Try.prog (fun x : ByteArray × Bool => Value.tuple #[(.string x.1), (.bool x.2)]) 117 #[(.string s1.2)] w fun t19 w =>
  if t19.2 = true then
   R (s1.1, t19.1) w
  else
   R (3, t0) w
theorem c86 {t0 : ByteArray} {R : (Int × ByteArray) → World → Prop} {w : World} (h : f86 t0 R w) :
  Cal Try.prog (fun x : Int × ByteArray => Value.tuple #[(.int .i64 x.1), (.string x.2)]) 86 #[(.string t0)] w R := by
 unfold f86 at h
 refine calls_ Try.func86 Try.ntmps86 rfl rfl <| seq_ <| region_ <| asg (.int .i64 0) rfl <| asg (.string (⟨#[]⟩ : ByteArray)) rfl <| wl_nil <| then_n <| seq_ <| region_ <| mv (.string t0) rfl ?_
 refine asg (.int .i64 0) rfl <| asg (.string t0) rfl <| wl_nil <| then_n <| seq_ <| wp_block ?_
 refine wp_jn (σ := Int × ByteArray) (fun s1 l => ∃ j, l = upds j [(0, (.string t0)), (4, (.int .i64 s1.1)), (5, (.string s1.2))]) h ?_ ?_
 ·clear h; rintro s1 _ w ⟨j, rfl⟩ h
  refine seq_ <| seq_ <| region_ <| mv (.string s1.2) rfl ?_
  refine st_cal en117 rfl h ?_; clear h; intro t19 w h
  refine mv (.tuple #[(.string t19.1), (.bool t19.2)]) rfl <| st_val (ex_extract (u := (.tuple #[(.string t19.1), (.bool t19.2)])) rfl (v := (.string t19.1)) rfl) <| st_val (ex_extract (u := (.tuple #[(.string t19.1), (.bool t19.2)])) rfl (v := (.bool t19.2)) rfl) <| asg (.string t19.1) rfl <| asg (.bool t19.2) rfl <| wl_nil <| then_n <| seq_ <| region_ <| mv (.bool t19.2) rfl ?_
  refine wl_nil <| then_n ?_
  by_cases hc5 : t19.2 = true
  ·rw [if_pos hc5] at h; refine cond_1 (b := t19.2) rfl hc5 ?_
   refine seq_ <| region_ <| mv (.int .i64 s1.1) rfl <| mv (.string t19.1) rfl <| asg (.int .i64 s1.1) rfl <| asg (.string t19.1) rfl <| wl_nil <| then_n <| wp_ret <| then_r ?_
   refine inb_r <| then_r ?_
   refine ret_2 rfl rfl rfl ⟨(s1.1, t19.1), rfl, h⟩
  ·rw [if_neg hc5] at h; refine cond_0 (b := t19.2) rfl (Bool.eq_false_iff.2 hc5) ?_
   refine wp_skip <| then_n <| wp_exit <| inb_e <| then_n <| seq_ <| region_ <| mv (.string t0) rfl <| asg (.int .i64 3) rfl <| asg (.string t0) rfl ?_
   refine wl_nil <| then_n <| wp_ret ?_
   refine ret_2 rfl rfl rfl ⟨(3, t0), rfl, h⟩
 ·clear h; intro k1 h
  refine wp_block <| seq_ <| wp_block <| seq_ <| wp_block <| seq_ <| seq_ <| seq_ <| region_ <| mv (.string t0) rfl ?_
  refine st_val (ex_eqlS (a := t0) (b := (⟨#[42]⟩ : ByteArray)) rfl rfl) <| asg (.bool (decide (t0 = (⟨#[42]⟩ : ByteArray)))) rfl <| wl_nil <| then_n ?_
  by_cases hc2 : t0 = (⟨#[42]⟩ : ByteArray)
  ·rw [if_pos hc2] at h; refine cond_1 (b := (decide (t0 = (⟨#[42]⟩ : ByteArray)))) rfl (decide_eq_true hc2) ?_
   refine wp_exit <| then_e <| then_e <| inb_e <| then_n <| seq_ <| seq_ <| region_ <| asg (.int .i64 2) rfl <| asg (.string (⟨#[]⟩ : ByteArray)) rfl ?_
   refine wl_nil <| then_n <| wp_ret <| then_r <| inb_r <| then_r <| inb_r <| then_r <| inb_r <| then_r ?_
   refine ret_2 rfl rfl rfl ⟨(2, (⟨#[]⟩ : ByteArray)), rfl, h⟩
  ·rw [if_neg hc2] at h; refine cond_0 (b := (decide (t0 = (⟨#[42]⟩ : ByteArray)))) rfl (decide_eq_false hc2) ?_
   refine wp_skip <| then_n <| seq_ <| region_ <| mv (.string t0) rfl ?_
   refine st_cal en116 rfl h ?_; clear h; intro t14 w h
   refine asg (.bool t14) rfl <| wl_nil <| then_n ?_
   by_cases hc3 : t14 = true
   ·rw [if_pos hc3] at h; refine cond_1 (b := t14) rfl hc3 ?_
    refine wp_exit <| then_e <| inb_o rfl <| then_e <| inb_e <| then_n ?_
    refine dr_begin mixed [] (listed := #[false, false, false, false]) rfl (n := 4) rfl h ?_; clear h; intro w4 h
    have hE : Ext w4 w4 := Ext.refl _
    refine tP 0 rfl (fun _ => hE) (fun _ => ex_move (v := (.string t0)) rfl) ?_
    obtain ⟨t16, ht16, h⟩ := h
    refine tP 1 rfl (fun _ => hE) (fun _ => (fun r => ex_slice rfl rfl rfl rfl r) (ht16 _)) <| tP 2 rfl (fun _ => hE) (fun _ => ex_assign (v := (.int .i64 1)) rfl) <| tP 3 rfl (fun _ => hE) (fun _ => ex_assign (v := (.string t16)) rfl) <| dr_end (by kernel_rfl) <| inb_n ?_
    exact then_n ⟨(1, t16), _, rfl, mk_upds' (ae rfl (ae rfl (ae rfl ae0))), h⟩
   ·rw [if_neg hc3] at h; refine cond_0 (b := t14) rfl (Bool.eq_false_iff.2 hc3) ?_
    refine wp_skip <| then_n <| wp_exit <| inb_o rfl <| then_e <| inb_o rfl <| then_e <| inb_e ?_
    exact then_n ⟨(0, t0), _, rfl, mk_upds' (ae rfl (ae rfl (ae rfl ae0))), h⟩

end Go.Proofs.Ytdoeegfcmbcbkaa.Tr


namespace Go.Proofs.Ytdoeegfcmbcbkaa.Tr
open Go Go.Eng
set_option linter.unusedVariables false
set_option maxRecDepth 100000
set_option maxHeartbeats 4000000
def f87 (t0 : Int) (t1 : Int) (R : (Int) → World → Prop) (w : World) : Prop :=
 Cal Try.prog Value.bool 118 #[(.int .i64 t0)] w fun t8 w =>
 Cal Try.prog Value.bool 118 #[(.int .i64 t1)] w fun t10 w =>
 if t8 = true then
  if t10 = true then
   R 0 w
  else
   R (-1) w
 else
  if t10 = true then
   R 1 w
  else
   if t0 < t1 then
    R (-1) w
   else
    if t1 < t0 then
     R 1 w
    else
     R 0 w
theorem c87 {t0 : Int} {t1 : Int} {R : (Int) → World → Prop} {w : World} (h : f87 t0 t1 R w) :
  Cal Try.prog (Value.int .i64) 87 #[(.int .i64 t0), (.int .i64 t1)] w R := by
 unfold f87 at h
 refine calls_ Try.func87 Try.ntmps87 rfl rfl <| seq_ <| region_ <| asg (.int .i64 0) rfl <| wl_nil <| then_n <| seq_ <| region_ <| mv (.int .i64 t0) rfl ?_
 refine st_cal en118 rfl h ?_; clear h; intro t8 w h
 refine asg (.bool t8) rfl <| wl_nil <| then_n <| seq_ <| region_ <| mv (.int .i64 t1) rfl ?_
 refine st_cal en118 rfl h ?_; clear h; intro t10 w h
 refine asg (.bool t10) rfl <| wl_nil <| then_n <| seq_ <| seq_ <| region_ <| mv (.bool t8) rfl <| wl_nil <| then_n ?_
 by_cases hc1 : t8 = true
 ·rw [if_pos hc1] at h; refine cond_1 (b := t8) rfl hc1 ?_
  refine seq_ <| seq_ <| region_ <| mv (.bool t10) rfl <| wl_nil <| then_n ?_
  by_cases hc2 : t10 = true
  ·rw [if_pos hc2] at h; refine cond_1 (b := t10) rfl hc2 ?_
   refine seq_ <| region_ <| asg (.int .i64 0) rfl <| wl_nil <| then_n <| wp_ret <| then_r <| then_r ?_
   refine ret_1 rfl rfl ⟨0, rfl, h⟩
  ·rw [if_neg hc2] at h; refine cond_0 (b := t10) rfl (Bool.eq_false_iff.2 hc2) ?_
   refine wp_skip <| then_n <| seq_ <| region_ <| asg (.int .i64 (-1)) rfl <| wl_nil <| then_n <| wp_ret <| then_r ?_
   refine ret_1 rfl rfl ⟨(-1), rfl, h⟩
 ·rw [if_neg hc1] at h; refine cond_0 (b := t8) rfl (Bool.eq_false_iff.2 hc1) ?_
  refine wp_skip <| then_n <| seq_ <| seq_ <| region_ <| mv (.bool t10) rfl <| wl_nil <| then_n ?_
  by_cases hc3 : t10 = true
  ·rw [if_pos hc3] at h; refine cond_1 (b := t10) rfl hc3 ?_
   refine seq_ <| region_ <| asg (.int .i64 1) rfl <| wl_nil <| then_n <| wp_ret <| then_r ?_
   refine ret_1 rfl rfl ⟨1, rfl, h⟩
  ·rw [if_neg hc3] at h; refine cond_0 (b := t10) rfl (Bool.eq_false_iff.2 hc3) ?_
   refine wp_skip <| then_n <| seq_ <| seq_ <| region_ <| mv (.int .i64 t0) rfl <| mv (.int .i64 t1) rfl <| st_val (ex_lss (a := t0) (b := t1) rfl rfl) <| wl_nil <| then_n ?_
   by_cases hc4 : t0 < t1
   ·rw [if_pos hc4] at h; refine cond_1 (b := (decide (t0 < t1))) rfl (decide_eq_true hc4) ?_
    refine seq_ <| region_ <| asg (.int .i64 (-1)) rfl <| wl_nil <| then_n <| wp_ret <| then_r ?_
    refine ret_1 rfl rfl ⟨(-1), rfl, h⟩
   ·rw [if_neg hc4] at h; refine cond_0 (b := (decide (t0 < t1))) rfl (decide_eq_false hc4) ?_
    refine wp_skip <| then_n <| seq_ <| seq_ <| region_ <| mv (.int .i64 t0) rfl <| mv (.int .i64 t1) rfl <| st_val (ex_gtr (a := t0) (b := t1) rfl rfl) <| wl_nil <| then_n ?_
    by_cases hc5 : t1 < t0
    ·rw [if_pos hc5] at h; refine cond_1 (b := (decide (t1 < t0))) rfl (decide_eq_true hc5) ?_
     refine seq_ <| region_ <| asg (.int .i64 1) rfl <| wl_nil <| then_n <| wp_ret <| then_r ?_
     refine ret_1 rfl rfl ⟨1, rfl, h⟩
    ·rw [if_neg hc5] at h; refine cond_0 (b := (decide (t1 < t0))) rfl (decide_eq_false hc5) ?_
     refine wp_skip <| then_n <| seq_ <| region_ <| asg (.int .i64 0) rfl <| wl_nil <| then_n <| wp_ret ?_
     refine ret_1 rfl rfl ⟨0, rfl, h⟩

def f88 (t0 : Sl) (R : (Int) → World → Prop) (w : World) : Prop :=
 Lp (σ := Int) (fun s1 w n1 =>
  if s1 < (t0.n : Int) then
   RnP Try.prog Ptr (Instr.indexAt 77 (Sl.v t0) (.int .i64 s1)) fun t10 =>
   Rn Try.prog (Value.int .i64) (Instr.loadAt 3 (Ptr t10)) w fun t11 w =>
   if t11 ≠ 0 then
    R t11 w
   else
    n1 (IntKind.i64.wrap (s1 + 1)) w
  else
   R 0 w
 ) 0 w
theorem c88 {t0 : Sl} {R : (Int) → World → Prop} {w : World} (h : f88 t0 R w) :
  Cal Try.prog (Value.int .i64) 88 #[(Sl.v t0)] w R := by
 unfold f88 at h
 refine calls_ Try.func88 Try.ntmps88 rfl rfl <| seq_ <| region_ <| asg (.int .i64 0) rfl <| wl_nil <| then_n <| seq_ <| region_ <| asg (.int .i64 0) rfl <| wl_nil ?_
 refine then_n <| seq_ <| seq_ <| region_ <| mv (Sl.v t0) rfl <| st_val (ex_len (s := t0) Try.underlying77 rfl) <| mv (.int .i64 0) rfl <| wl_nil <| then_n <| wp_block ?_
 refine wp_lp (σ := Int) (fun s1 a => ∃ j, a = F 18 (upds j [(3, (.int .i64 0)), (6, (Sl.v t0)), (7, (.int .i64 (t0.n : Int))), (8, (.int .i64 s1))])) h (mk_upds (ae rfl (ae rfl (ae rfl (ae rfl ae0))))) ?_
 clear h; rintro s1 _ w n1 ⟨j, rfl⟩ h
 refine seq_ <| region_ <| st_val (ex_lss (a := s1) (b := (t0.n : Int)) rfl rfl) <| wl_nil <| then_n <| seq_ ?_
 by_cases hc2 : s1 < (t0.n : Int)
 ·rw [if_pos hc2] at h; refine cond_1 (b := (decide (s1 < (t0.n : Int)))) rfl (decide_eq_true hc2) ?_
  refine wp_skip <| then_n <| seq_ <| wp_block <| seq_ <| region_ ?_
  refine st_rnp (fun r => ex_indexAddr rfl rfl r) h ?_; clear h; intro t10 h
  refine st_rn (fun r => ex_load rfl r) h ?_; clear h; intro t11 w h
  refine asg (.int .i64 t11) rfl <| wl_nil <| then_n <| seq_ <| region_ <| mv (.int .i64 t11) rfl <| mv (.int .i64 0) rfl <| st_val (ex_neq (a := t11) (b := 0) rfl rfl) <| wl_nil <| then_n ?_
  by_cases hc3 : t11 ≠ 0
  ·rw [if_pos hc3] at h; refine cond_1 (b := (decide (t11 ≠ 0))) rfl (decide_eq_true hc3) ?_
   refine seq_ <| region_ <| mv (.int .i64 t11) rfl <| asg (.int .i64 t11) rfl <| wl_nil <| then_n <| wp_ret <| inb_r <| then_r <| then_r ?_
   refine inb_r <| then_r ?_
   refine ret_1 rfl rfl ⟨t11, rfl, h⟩
  ·rw [if_neg hc3] at h; refine cond_0 (b := (decide (t11 ≠ 0))) rfl (decide_eq_false hc3) ?_
   refine wp_skip <| inb_n <| then_n <| region_ <| st_val (ex_add (a := s1) (b := 1) rfl rfl) <| mv (.int .i64 (IntKind.i64.wrap (s1 + 1))) rfl <| wl_nil ?_
   exact then_n ⟨(IntKind.i64.wrap (s1 + 1)), mk_upds (ae rfl (ae rfl (ae rfl (ae rfl ae0)))), h⟩
 ·rw [if_neg hc2] at h; refine cond_0 (b := (decide (s1 < (t0.n : Int)))) rfl (decide_eq_false hc2) ?_
  refine wp_exit <| then_e <| then_e <| inb_e <| then_n <| seq_ <| region_ <| mv (.int .i64 0) rfl <| asg (.int .i64 0) rfl <| wl_nil ?_
  refine then_n <| wp_ret ?_
  refine ret_1 rfl rfl ⟨0, rfl, h⟩

def f89 (t0 : ByteArray) (t1 : ByteArray) (R : (Int) → World → Prop) (w : World) : Prop :=
 Cal Try.prog Value.bool 119 #[(.string t0)] w fun t8 w =>
 Cal Try.prog Value.bool 119 #[(.string t1)] w fun t10 w =>
 if t8 = true then
  if t10 = true then
   R 0 w
  else
   R (-1) w
 else
  if t10 = true then
   R 1 w
  else
   if (sLt t0 t1) = true then
    R (-1) w
   else
    if (!(sLt t0 t1 || decide (t0 = t1))) = true then
     R 1 w
    else
     R 0 w
theorem c89 {t0 : ByteArray} {t1 : ByteArray} {R : (Int) → World → Prop} {w : World} (h : f89 t0 t1 R w) :
  Cal Try.prog (Value.int .i64) 89 #[(.string t0), (.string t1)] w R := by
 unfold f89 at h
 refine calls_ Try.func89 Try.ntmps89 rfl rfl <| seq_ <| region_ <| asg (.int .i64 0) rfl <| wl_nil <| then_n <| seq_ <| region_ <| mv (.string t0) rfl ?_
 refine st_cal en119 rfl h ?_; clear h; intro t8 w h
 refine asg (.bool t8) rfl <| wl_nil <| then_n <| seq_ <| region_ <| mv (.string t1) rfl ?_
 refine st_cal en119 rfl h ?_; clear h; intro t10 w h
 refine asg (.bool t10) rfl <| wl_nil <| then_n <| seq_ <| seq_ <| region_ <| mv (.bool t8) rfl <| wl_nil <| then_n ?_
 by_cases hc1 : t8 = true
 ·rw [if_pos hc1] at h; refine cond_1 (b := t8) rfl hc1 ?_
  refine seq_ <| seq_ <| region_ <| mv (.bool t10) rfl <| wl_nil <| then_n ?_
  by_cases hc2 : t10 = true
  ·rw [if_pos hc2] at h; refine cond_1 (b := t10) rfl hc2 ?_
   refine seq_ <| region_ <| asg (.int .i64 0) rfl <| wl_nil <| then_n <| wp_ret <| then_r <| then_r ?_
   refine ret_1 rfl rfl ⟨0, rfl, h⟩
  ·rw [if_neg hc2] at h; refine cond_0 (b := t10) rfl (Bool.eq_false_iff.2 hc2) ?_
   refine wp_skip <| then_n <| seq_ <| region_ <| asg (.int .i64 (-1)) rfl <| wl_nil <| then_n <| wp_ret <| then_r ?_
   refine ret_1 rfl rfl ⟨(-1), rfl, h⟩
 ·rw [if_neg hc1] at h; refine cond_0 (b := t8) rfl (Bool.eq_false_iff.2 hc1) ?_
  refine wp_skip <| then_n <| seq_ <| seq_ <| region_ <| mv (.bool t10) rfl <| wl_nil <| then_n ?_
  by_cases hc3 : t10 = true
  ·rw [if_pos hc3] at h; refine cond_1 (b := t10) rfl hc3 ?_
   refine seq_ <| region_ <| asg (.int .i64 1) rfl <| wl_nil <| then_n <| wp_ret <| then_r ?_
   refine ret_1 rfl rfl ⟨1, rfl, h⟩
  ·rw [if_neg hc3] at h; refine cond_0 (b := t10) rfl (Bool.eq_false_iff.2 hc3) ?_
   refine wp_skip <| then_n <| seq_ <| seq_ <| region_ <| mv (.string t0) rfl <| mv (.string t1) rfl <| st_val (ex_lssS (a := t0) (b := t1) rfl rfl) <| wl_nil <| then_n ?_
   by_cases hc4 : (sLt t0 t1) = true
   ·rw [if_pos hc4] at h; refine cond_1 (b := (sLt t0 t1)) rfl hc4 ?_
    refine seq_ <| region_ <| asg (.int .i64 (-1)) rfl <| wl_nil <| then_n <| wp_ret <| then_r ?_
    refine ret_1 rfl rfl ⟨(-1), rfl, h⟩
   ·rw [if_neg hc4] at h; refine cond_0 (b := (sLt t0 t1)) rfl (Bool.eq_false_iff.2 hc4) ?_
    refine wp_skip <| then_n <| seq_ <| seq_ <| region_ <| mv (.string t0) rfl <| mv (.string t1) rfl <| st_val (ex_gtrS (a := t0) (b := t1) rfl rfl) <| wl_nil <| then_n ?_
    by_cases hc5 : (!(sLt t0 t1 || decide (t0 = t1))) = true
    ·rw [if_pos hc5] at h; refine cond_1 (b := (!(sLt t0 t1 || decide (t0 = t1)))) rfl hc5 ?_
     refine seq_ <| region_ <| asg (.int .i64 1) rfl <| wl_nil <| then_n <| wp_ret <| then_r ?_
     refine ret_1 rfl rfl ⟨1, rfl, h⟩
    ·rw [if_neg hc5] at h; refine cond_0 (b := (!(sLt t0 t1 || decide (t0 = t1)))) rfl (Bool.eq_false_iff.2 hc5) ?_
     refine wp_skip <| then_n <| seq_ <| region_ <| asg (.int .i64 0) rfl <| wl_nil <| then_n <| wp_ret ?_
     refine ret_1 rfl rfl ⟨0, rfl, h⟩

def f90 (t0 : Sl) (t1 : Value) (R : (Int) → World → Prop) (w : World) : Prop :=
 Lp (σ := Int) (fun s1 w n1 =>
  if s1 < (t0.n : Int) then
   RnP Try.prog Ptr (Instr.indexAt 51 (Sl.v t0) (.int .i64 s1)) fun t14 =>
   Rn Try.prog THost.v (Instr.loadAt 59 (Ptr t14)) w fun t15 w =>
   CalV Try.prog Value.bool t1 #[(THost.v t15)] w fun t16 w =>
   if t16 = true then
    R s1 w
   else
    n1 (IntKind.i64.wrap (s1 + 1)) w
  else
   R (-1) w
 ) 0 w
theorem c90 {t0 : Sl} {t1 : Value} {R : (Int) → World → Prop} {w : World} (h : f90 t0 t1 R w) :
  Cal Try.prog (Value.int .i64) 90 #[(Sl.v t0), t1] w R := by
 unfold f90 at h
 refine calls_ Try.func90 Try.ntmps90 rfl rfl <| seq_ <| region_ <| asg (.int .i64 0) rfl <| wl_nil <| then_n <| seq_ <| seq_ <| region_ <| mv (Sl.v t0) rfl ?_
 refine st_val (ex_len (s := t0) Try.underlying51 rfl) <| mv (.int .i64 0) rfl <| wl_nil <| then_n <| wp_block <| wp_lp (σ := Int) (fun s1 a => ∃ j, a = F 19 (upds j [(0, (Sl.v t0)), (1, t1), (7, (.int .i64 (t0.n : Int))), (8, (.int .i64 s1))])) h (mk_upds (ae rfl (ae rfl (ae rfl (ae rfl ae0))))) ?_
 clear h; rintro s1 _ w n1 ⟨j, rfl⟩ h
 refine seq_ <| region_ <| st_val (ex_lss (a := s1) (b := (t0.n : Int)) rfl rfl) <| wl_nil <| then_n <| seq_ ?_
 by_cases hc2 : s1 < (t0.n : Int)
 ·rw [if_pos hc2] at h; refine cond_1 (b := (decide (s1 < (t0.n : Int)))) rfl (decide_eq_true hc2) ?_
  refine wp_skip <| then_n <| seq_ <| wp_block <| seq_ <| region_ <| mv (.int .i64 s1) rfl <| asg (.int .i64 s1) rfl <| wl_nil <| then_n ?_
  refine seq_ <| region_ <| mv t1 rfl <| mv (Sl.v t0) rfl <| mv (.int .i64 s1) rfl ?_
  refine st_rnp (fun r => ex_indexAddr rfl rfl r) h ?_; clear h; intro t14 h
  refine st_rn (fun r => ex_load rfl r) h ?_; clear h; intro t15 w h
  refine st_calv rfl rfl h ?_; clear h; intro t16 w h
  refine wl_nil <| then_n ?_
  by_cases hc3 : t16 = true
  ·rw [if_pos hc3] at h; refine cond_1 (b := t16) rfl hc3 ?_
   refine seq_ <| region_ <| mv (.int .i64 s1) rfl <| asg (.int .i64 s1) rfl <| wl_nil <| then_n <| wp_ret <| inb_r <| then_r <| then_r ?_
   refine inb_r <| then_r ?_
   refine ret_1 rfl rfl ⟨s1, rfl, h⟩
  ·rw [if_neg hc3] at h; refine cond_0 (b := t16) rfl (Bool.eq_false_iff.2 hc3) ?_
   refine wp_skip <| inb_n <| then_n <| region_ <| st_val (ex_add (a := s1) (b := 1) rfl rfl) <| mv (.int .i64 (IntKind.i64.wrap (s1 + 1))) rfl <| wl_nil ?_
   exact then_n ⟨(IntKind.i64.wrap (s1 + 1)), mk_upds (ae rfl (ae rfl (ae rfl (ae rfl ae0)))), h⟩
 ·rw [if_neg hc2] at h; refine cond_0 (b := (decide (s1 < (t0.n : Int)))) rfl (decide_eq_false hc2) ?_
  refine wp_exit <| then_e <| then_e <| inb_e <| then_n <| seq_ <| region_ <| asg (.int .i64 (-1)) rfl <| wl_nil <| then_n ?_
  refine wp_ret ?_
  refine ret_1 rfl rfl ⟨(-1), rfl, h⟩

def f91 (t0 : THost) (t1 : Addr) (R : (Bool) → World → Prop) (w : World) : Prop :=
 New 59 (THost.cells t0) w fun b2 w =>
 Rn Try.prog Value.string (Instr.loadAt 9 (Ptr ((⟨b2, 0, none⟩ : Addr).add 0))) w fun t5 w =>
 Rn Try.prog Value.string (Instr.loadAt 9 (Ptr t1)) w fun t6 w =>
 Cal Try.prog Value.bool 92 #[(.string t5), (.string t6)] w fun t7 w =>
 R t7 w
theorem c91 {t0 : THost} {t1 : Addr} {R : (Bool) → World → Prop} {w : World} (h : f91 t0 t1 R w) :
  Cal Try.prog Value.bool 91 #[(THost.v t0), (Ptr t1)] w R := by
 unfold f91 at h
 refine calls_ Try.func91 Try.ntmps91 rfl rfl <| seq_ <| region_ ?_
 refine st_new (f := (fun b => Ptr ⟨b, 0, none⟩)) (ex_boxN rfl rfl) h ?_; clear h; intro b2 w h
 refine asg (.bool false) rfl <| wl_nil <| then_n <| seq_ <| region_ <| st_val (ex_fa fa59_0 (p := (⟨b2, 0, none⟩ : Addr)) rfl) ?_
 refine st_rn (fun r => ex_load rfl r) h ?_; clear h; intro t5 w h
 refine st_rn (fun r => ex_load rfl r) h ?_; clear h; intro t6 w h
 refine st_cal en92 rfl h ?_; clear h; intro t7 w h
 refine asg (.bool t7) rfl <| wl_nil <| then_n <| wp_ret ?_
 refine ret_1 rfl rfl ⟨t7, rfl, h⟩

def f92 (t0 : ByteArray) (t1 : ByteArray) (R : (Bool) → World → Prop) (w : World) : Prop :=
 Cal Try.prog (fun x : ByteArray × Bool => Value.tuple #[(.string x.1), (.bool x.2)]) 117 #[(.string t1)] w fun t11 w =>
 if (!t11.2) = true then
  R false w
 else
  Cal Try.prog (fun x : Int × ByteArray => Value.tuple #[(.int .i64 x.1), (.string x.2)]) 86 #[(.string t0)] w fun t18 w =>
  if t18.1 = 0 then
   R (decide (t18.2 = t11.1)) w
  else
   if t18.1 = 1 then
    (((⟨#[46]⟩ : ByteArray).size + t18.2.size : Nat) : Int) ≤ IntKind.i64.max ∧ (
    Cal Try.prog Value.bool 120 #[(.string t11.1), (.string ((⟨#[46]⟩ : ByteArray) ++ t18.2))] w fun t32 w =>
    R t32 w
    )
   else
    if t18.1 = 2 then
     R true w
    else
     R false w
theorem c92 {t0 : ByteArray} {t1 : ByteArray} {R : (Bool) → World → Prop} {w : World} (h : f92 t0 t1 R w) :
  Cal Try.prog Value.bool 92 #[(.string t0), (.string t1)] w R := by
 unfold f92 at h
 refine calls_ Try.func92 Try.ntmps92 rfl rfl <| seq_ <| region_ <| asg (.bool false) rfl <| wl_nil <| then_n <| seq_ <| region_ <| mv (.string t1) rfl ?_
 refine st_cal en117 rfl h ?_; clear h; intro t11 w h
 refine mv (.tuple #[(.string t11.1), (.bool t11.2)]) rfl <| st_val (ex_extract (u := (.tuple #[(.string t11.1), (.bool t11.2)])) rfl (v := (.string t11.1)) rfl) <| st_val (ex_extract (u := (.tuple #[(.string t11.1), (.bool t11.2)])) rfl (v := (.bool t11.2)) rfl) <| asg (.string t11.1) rfl <| asg (.bool t11.2) rfl <| wl_nil <| then_n <| seq_ <| seq_ <| region_ ?_
 refine mv (.bool t11.2) rfl <| st_val (ex_not (b := t11.2) rfl) <| wl_nil <| then_n ?_
 by_cases hc1 : (!t11.2) = true
 ·rw [if_pos hc1] at h; refine cond_1 (b := (!t11.2)) rfl hc1 ?_
  refine seq_ <| region_ <| asg (.bool false) rfl <| wl_nil <| then_n <| wp_ret <| then_r ?_
  refine ret_1 rfl rfl ⟨false, rfl, h⟩
 ·rw [if_neg hc1] at h; refine cond_0 (b := (!t11.2)) rfl (Bool.eq_false_iff.2 hc1) ?_
  refine wp_skip <| then_n <| seq_ <| seq_ <| region_ <| mv (.string t0) rfl ?_
  refine st_cal en86 rfl h ?_; clear h; intro t18 w h
  refine mv (.tuple #[(.int .i64 t18.1), (.string t18.2)]) rfl <| st_val (ex_extract (u := (.tuple #[(.int .i64 t18.1), (.string t18.2)])) rfl (v := (.int .i64 t18.1)) rfl) <| st_val (ex_extract (u := (.tuple #[(.int .i64 t18.1), (.string t18.2)])) rfl (v := (.string t18.2)) rfl) <| asg (.int .i64 t18.1) rfl <| asg (.string t18.2) rfl <| wl_nil <| then_n <| seq_ <| region_ <| mv (.int .i64 t18.1) rfl ?_
  refine wl_nil <| then_n <| wp_block <| seq_ <| region_ <| st_val (ex_eql (a := t18.1) (b := 0) rfl rfl) <| asg (.bool (decide (t18.1 = 0))) rfl <| wl_nil <| then_n ?_
  by_cases hc2 : t18.1 = 0
  ·rw [if_pos hc2] at h; refine cond_1 (b := (decide (t18.1 = 0))) rfl (decide_eq_true hc2) ?_
   refine seq_ <| region_ <| mv (.string t18.2) rfl <| mv (.string t11.1) rfl <| st_val (ex_eqlS (a := t18.2) (b := t11.1) rfl rfl) <| asg (.bool (decide (t18.2 = t11.1))) rfl <| wl_nil <| then_n <| wp_ret <| inb_r ?_
   refine then_r ?_
   refine ret_1 rfl rfl ⟨(decide (t18.2 = t11.1)), rfl, h⟩
  ·rw [if_neg hc2] at h; refine cond_0 (b := (decide (t18.1 = 0))) rfl (decide_eq_false hc2) ?_
   refine seq_ <| region_ <| st_val (ex_eql (a := t18.1) (b := 1) rfl rfl) <| asg (.bool (decide (t18.1 = 1))) rfl <| wl_nil <| then_n ?_
   by_cases hc3 : t18.1 = 1
   ·rw [if_pos hc3] at h; refine cond_1 (b := (decide (t18.1 = 1))) rfl (decide_eq_true hc3) ?_
    refine seq_ <| region_ <| mv (.string t11.1) rfl <| mv (.string t18.2) rfl ?_
    obtain ⟨ha4, h⟩ := h
    refine st_val (ex_addS (a := (⟨#[46]⟩ : ByteArray)) (b := t18.2) rfl rfl ha4) ?_
    refine st_cal en120 rfl h ?_; clear h; intro t32 w h
    refine asg (.bool t32) rfl <| wl_nil <| then_n <| wp_ret <| inb_r <| then_r ?_
    refine ret_1 rfl rfl ⟨t32, rfl, h⟩
   ·rw [if_neg hc3] at h; refine cond_0 (b := (decide (t18.1 = 1))) rfl (decide_eq_false hc3) ?_
    refine seq_ <| region_ <| st_val (ex_eql (a := t18.1) (b := 2) rfl rfl) <| asg (.bool (decide (t18.1 = 2))) rfl <| wl_nil <| then_n ?_
    by_cases hc5 : t18.1 = 2
    ·rw [if_pos hc5] at h; refine cond_1 (b := (decide (t18.1 = 2))) rfl (decide_eq_true hc5) ?_
     refine seq_ <| region_ <| asg (.bool true) rfl <| wl_nil <| then_n <| wp_ret <| inb_r <| then_r ?_
     refine ret_1 rfl rfl ⟨true, rfl, h⟩
    ·rw [if_neg hc5] at h; refine cond_0 (b := (decide (t18.1 = 2))) rfl (decide_eq_false hc5) ?_
     refine wp_skip <| inb_n <| then_n <| seq_ <| region_ <| asg (.bool false) rfl <| wl_nil <| then_n <| wp_ret ?_
     refine ret_1 rfl rfl ⟨false, rfl, h⟩

def f93 (t0 : Sl) (R : (Int) → World → Prop) (w : World) : Prop :=
 Lp (σ := Int) (fun s1 w n1 =>
  if s1 < (t0.n : Int) then
   RnP Try.prog Ptr (Instr.indexAt 22 (Sl.v t0) (.int .i64 s1)) fun t10 =>
   Rn Try.prog TResource.v (Instr.loadAt 48 (Ptr t10)) w fun t11 w =>
   New 48 (TResource.cells (⟨0, ⟨#[]⟩, Sl.nil, Sl.nil, ⟨#[]⟩, Sl.nil, ⟨#[]⟩, false⟩ : TResource)) w fun b4 w =>
   RnU Try.prog (Instr.storeAt 48 (Ptr (⟨b4, 0, none⟩ : Addr)) (TResource.v t11)) w fun w =>
   Jn (σ := Bool) (fun k3 =>
    Dr w fun w4 w =>
     RnL Try.prog (Value.int .i64) (Instr.loadAt 3 (Ptr ((⟨b4, 0, none⟩ : Addr).add 0))) w4 fun t13 =>
     if t13 < 1 then
      k3 true w
     else
      RnL Try.prog (Value.int .i64) (Instr.loadAt 3 (Ptr ((⟨b4, 0, none⟩ : Addr).add 0))) w4 fun t17 =>
      if 4 < t17 then
       k3 true w
      else
       RnL Try.prog Value.bool (Instr.loadAt 4 (Ptr ((⟨b4, 0, none⟩ : Addr).add 7))) w4 fun t22 =>
       if t22 = true then
        k3 true w
       else
        if 0 < s1 then
         RnP Try.prog Ptr (Instr.indexAt 22 (Sl.v t0) (.int .i64 (IntKind.i64.wrap (s1 - 1)))) fun t31 =>
         RnL Try.prog TResource.v (Instr.loadAt 48 (Ptr t31)) w4 fun t32 =>
         RnL Try.prog TResource.v (Instr.loadAt 48 (Ptr (⟨b4, 0, none⟩ : Addr))) w4 fun t34 =>
         Cal Try.prog TKey.v 63 #[(TResource.v t32)] w (ExtK w4 fun t33 w =>
          Cal Try.prog TKey.v 63 #[(TResource.v t34)] w (ExtK w4 fun t35 w =>
           Cal Try.prog (Value.int .i64) 111 #[(TKey.v t33), (TKey.v t35)] w (ExtK w4 fun t36 w =>
            k3 (decide (0 ≤ t36)) w
           )
          )
         )
        else
         k3 false w
   ) fun s3 w =>
    if s3 = true then
     R s1 w
    else
     n1 (IntKind.i64.wrap (s1 + 1)) w
  else
   R (-1) w
 ) 0 w
theorem c93 {t0 : Sl} {R : (Int) → World → Prop} {w : World} (h : f93 t0 R w) :
  Cal Try.prog (Value.int .i64) 93 #[(Sl.v t0)] w R := by
 unfold f93 at h
 refine calls_ Try.func93 Try.ntmps93 rfl rfl <| seq_ <| region_ <| asg (.int .i64 0) rfl <| wl_nil <| then_n <| seq_ <| seq_ <| region_ <| mv (Sl.v t0) rfl ?_
 refine st_val (ex_len (s := t0) Try.underlying22 rfl) <| mv (.int .i64 0) rfl <| wl_nil <| then_n <| wp_block <| wp_lp (σ := Int) (fun s1 a => ∃ j, a = F 42 (upds j [(0, (Sl.v t0)), (5, (Sl.v t0)), (6, (.int .i64 (t0.n : Int))), (7, (.int .i64 s1))])) h (mk_upds (ae rfl (ae rfl (ae rfl (ae rfl ae0))))) ?_
 clear h; rintro s1 _ w n1 ⟨j, rfl⟩ h
 refine seq_ <| region_ <| st_val (ex_lss (a := s1) (b := (t0.n : Int)) rfl rfl) <| wl_nil <| then_n <| seq_ ?_
 by_cases hc2 : s1 < (t0.n : Int)
 ·rw [if_pos hc2] at h; refine cond_1 (b := (decide (s1 < (t0.n : Int)))) rfl (decide_eq_true hc2) ?_
  refine wp_skip <| then_n <| seq_ <| wp_block <| seq_ <| region_ <| mv (.int .i64 s1) rfl ?_
  refine st_rnp (fun r => ex_indexAddr rfl rfl r) h ?_; clear h; intro t10 h
  refine st_rn (fun r => ex_load rfl r) h ?_; clear h; intro t11 w h
  refine st_new (f := (fun b => Ptr ⟨b, 0, none⟩)) (ex_allocN zero48 rfl) h ?_; clear h; intro b4 w h
  refine asg (.int .i64 s1) rfl ?_
  refine st_rnu (fun r => ex_store rfl rfl r) h ?_; clear h; intro w h
  refine wl_nil <| then_n ?_
  refine wp_jn (σ := Bool) (fun s3 l => ∃ j, l = upds j [(0, (Sl.v t0)), (3, (.int .i64 s1)), (5, (Sl.v t0)), (6, (.int .i64 (t0.n : Int))), (7, (.int .i64 s1)), (39, (.bool s3))]) h ?_ ?_
  ·clear h; rintro s3 _ w ⟨j, rfl⟩ h
   by_cases hc9 : s3 = true
   ·rw [if_pos hc9] at h; refine cond_1 (b := s3) rfl hc9 ?_
    refine seq_ <| region_ <| mv (.int .i64 s1) rfl <| asg (.int .i64 s1) rfl <| wl_nil <| then_n <| wp_ret <| inb_r <| then_r <| then_r ?_
    refine inb_r <| then_r ?_
    refine ret_1 rfl rfl ⟨s1, rfl, h⟩
   ·rw [if_neg hc9] at h; refine cond_0 (b := s3) rfl (Bool.eq_false_iff.2 hc9) ?_
    refine wp_skip <| inb_n <| then_n <| region_ <| st_val (ex_add (a := s1) (b := 1) rfl rfl) <| mv (.int .i64 (IntKind.i64.wrap (s1 + 1))) rfl <| wl_nil ?_
    exact then_n ⟨(IntKind.i64.wrap (s1 + 1)), mk_upds (ae rfl (ae rfl (ae rfl (ae rfl ae0)))), h⟩
  ·clear h; intro k3 h
   refine dr_begin mixed [] (listed := #[false, false, false, false, false, false, false, false, false, false, false, false, false, false, false, false, false, false, false, false, false, false, false, false, false, false, false, false]) rfl (n := 28) rfl h ?_; clear h; intro w4 h
   have hE : Ext w4 w4 := Ext.refl _
   refine tP 0 rfl (fun _ => hE) (fun _ => ex_fa fa48_0 (p := (⟨b4, 0, none⟩ : Addr)) rfl) ?_
   obtain ⟨t13, ht13, h⟩ := h
   refine tK 1 rfl hE (fun _ hw => (fun r => ex_load rfl r) (ht13 _ hw)) <| tP 2 rfl (fun _ => hE) (fun _ => ex_lss (a := t13) (b := 1) rfl rfl) <| tP 3 rfl (fun _ => hE) (fun _ => ex_move (v := (.bool (decide (t13 < 1)))) rfl) ?_
   by_cases hc5 : t13 < 1
   ·rw [if_pos hc5] at h
    refine tF 4 15 rfl (decide_eq_true hc5) rfl rfl (fun _ => hE) <| tF 5 15 rfl (decide_eq_true hc5) rfl rfl (fun _ => hE) <| tF 6 15 rfl (decide_eq_true hc5) rfl rfl (fun _ => hE) <| tP 7 rfl (fun _ => hE) (fun _ => ex_pick1 (b := (decide (t13 < 1))) rfl (decide_eq_true hc5) (v := (.bool true)) rfl) <| tP 8 rfl (fun _ => hE) (fun _ => ex_move (v := (.bool true)) rfl) <| tF 9 20 rfl (rfl : true = !false) rfl rfl (fun _ => hE) <| tF 10 20 rfl (rfl : true = !false) rfl rfl (fun _ => hE) <| tP 11 rfl (fun _ => hE) (fun _ => ex_pick1 (b := true) rfl (rfl : true = true) (v := (.bool true)) rfl) <| tP 12 rfl (fun _ => hE) (fun _ => ex_move (v := (.bool true)) rfl) <| tF 13 24 rfl (rfl : true = !false) rfl rfl (fun _ => hE) ?_
    refine tF 14 24 rfl (rfl : true = !false) rfl rfl (fun _ => hE) <| tF 15 24 rfl (rfl : true = !false) rfl rfl (fun _ => hE) <| tU 16 27 rfl rfl rfl (fun _ => hE) <| tU 17 27 rfl rfl rfl (fun _ => hE) <| tU 18 27 rfl rfl rfl (fun _ => hE) <| tU 19 27 rfl rfl rfl (fun _ => hE) <| tU 20 27 rfl rfl rfl (fun _ => hE) <| tU 21 27 rfl rfl rfl (fun _ => hE) <| tU 22 27 rfl rfl rfl (fun _ => hE) <| tU 23 27 rfl rfl rfl (fun _ => hE) ?_
    refine tU 24 27 rfl rfl rfl (fun _ => hE) <| tU 25 27 rfl rfl rfl (fun _ => hE) <| tF 26 24 rfl (rfl : true = !false) rfl rfl (fun _ => hE) <| tP 27 rfl (fun _ => hE) (fun _ => ex_pick1 (b := true) rfl (rfl : true = true) (v := (.bool true)) rfl) <| dr_end (by kernel_rfl) ?_
    exact then_n ⟨true, _, rfl, mk_upds' (ae rfl (ae rfl (ae rfl (ae rfl (ae rfl (ae rfl ae0)))))), h⟩
   ·rw [if_neg hc5] at h
    refine tPo 4 15 rfl (decide_eq_false hc5) rfl rfl (fun _ => hE) (fun _ => ex_fa fa48_0 (p := (⟨b4, 0, none⟩ : Addr)) rfl) ?_
    obtain ⟨t17, ht17, h⟩ := h
    refine tKo 5 15 rfl (decide_eq_false hc5) rfl rfl hE (fun _ hw => (fun r => ex_load rfl r) (ht17 _ hw)) <| tPo 6 15 rfl (decide_eq_false hc5) rfl rfl (fun _ => hE) (fun _ => ex_gtr (a := t17) (b := 4) rfl rfl) <| tP 7 rfl (fun _ => hE) (fun _ => ex_pick0 (b := (decide (t13 < 1))) rfl (decide_eq_false hc5) (v := (.bool (decide (4 < t17)))) rfl) <| tP 8 rfl (fun _ => hE) (fun _ => ex_move (v := (.bool (decide (4 < t17)))) rfl) ?_
    by_cases hc6 : 4 < t17
    ·rw [if_pos hc6] at h
     refine tF 9 20 rfl (decide_eq_true hc6) rfl rfl (fun _ => hE) <| tF 10 20 rfl (decide_eq_true hc6) rfl rfl (fun _ => hE) <| tP 11 rfl (fun _ => hE) (fun _ => ex_pick1 (b := (decide (4 < t17))) rfl (decide_eq_true hc6) (v := (.bool true)) rfl) <| tP 12 rfl (fun _ => hE) (fun _ => ex_move (v := (.bool true)) rfl) <| tF 13 24 rfl (rfl : true = !false) rfl rfl (fun _ => hE) <| tF 14 24 rfl (rfl : true = !false) rfl rfl (fun _ => hE) <| tF 15 24 rfl (rfl : true = !false) rfl rfl (fun _ => hE) <| tU 16 27 rfl rfl rfl (fun _ => hE) <| tU 17 27 rfl rfl rfl (fun _ => hE) <| tU 18 27 rfl rfl rfl (fun _ => hE) ?_
     refine tU 19 27 rfl rfl rfl (fun _ => hE) <| tU 20 27 rfl rfl rfl (fun _ => hE) <| tU 21 27 rfl rfl rfl (fun _ => hE) <| tU 22 27 rfl rfl rfl (fun _ => hE) <| tU 23 27 rfl rfl rfl (fun _ => hE) <| tU 24 27 rfl rfl rfl (fun _ => hE) <| tU 25 27 rfl rfl rfl (fun _ => hE) <| tF 26 24 rfl (rfl : true = !false) rfl rfl (fun _ => hE) <| tP 27 rfl (fun _ => hE) (fun _ => ex_pick1 (b := true) rfl (rfl : true = true) (v := (.bool true)) rfl) <| dr_end (by kernel_rfl) ?_
     exact then_n ⟨true, _, rfl, mk_upds' (ae rfl (ae rfl (ae rfl (ae rfl (ae rfl (ae rfl ae0)))))), h⟩
    ·rw [if_neg hc6] at h
     refine tPo 9 20 rfl (decide_eq_false hc6) rfl rfl (fun _ => hE) (fun _ => ex_fa fa48_7 (p := (⟨b4, 0, none⟩ : Addr)) rfl) ?_
     obtain ⟨t22, ht22, h⟩ := h
     refine tKo 10 20 rfl (decide_eq_false hc6) rfl rfl hE (fun _ hw => (fun r => ex_load rfl r) (ht22 _ hw)) <| tP 11 rfl (fun _ => hE) (fun _ => ex_pick0 (b := (decide (4 < t17))) rfl (decide_eq_false hc6) (v := (.bool t22)) rfl) <| tP 12 rfl (fun _ => hE) (fun _ => ex_move (v := (.bool t22)) rfl) ?_
     by_cases hc7 : t22 = true
     ·rw [if_pos hc7] at h
      refine tF 13 24 rfl hc7 rfl rfl (fun _ => hE) <| tF 14 24 rfl hc7 rfl rfl (fun _ => hE) <| tF 15 24 rfl hc7 rfl rfl (fun _ => hE) <| tU 16 27 rfl rfl rfl (fun _ => hE) <| tU 17 27 rfl rfl rfl (fun _ => hE) <| tU 18 27 rfl rfl rfl (fun _ => hE) <| tU 19 27 rfl rfl rfl (fun _ => hE) <| tU 20 27 rfl rfl rfl (fun _ => hE) <| tU 21 27 rfl rfl rfl (fun _ => hE) <| tU 22 27 rfl rfl rfl (fun _ => hE) ?_
      refine tU 23 27 rfl rfl rfl (fun _ => hE) <| tU 24 27 rfl rfl rfl (fun _ => hE) <| tU 25 27 rfl rfl rfl (fun _ => hE) <| tF 26 24 rfl hc7 rfl rfl (fun _ => hE) <| tP 27 rfl (fun _ => hE) (fun _ => ex_pick1 (b := t22) rfl hc7 (v := (.bool true)) rfl) <| dr_end (by kernel_rfl) ?_
      exact then_n ⟨true, _, rfl, mk_upds' (ae rfl (ae rfl (ae rfl (ae rfl (ae rfl (ae rfl ae0)))))), h⟩
     ·rw [if_neg hc7] at h
      refine tPo 13 24 rfl (Bool.eq_false_iff.2 hc7) rfl rfl (fun _ => hE) (fun _ => ex_move (v := (.int .i64 s1)) rfl) <| tPo 14 24 rfl (Bool.eq_false_iff.2 hc7) rfl rfl (fun _ => hE) (fun _ => ex_gtr (a := s1) (b := 0) rfl rfl) <| tPo 15 24 rfl (Bool.eq_false_iff.2 hc7) rfl rfl (fun _ => hE) (fun _ => ex_move (v := (.bool (decide (0 < s1)))) rfl) ?_
      by_cases hc8 : 0 < s1
      ·rw [if_pos hc8] at h
       refine tPo 16 27 rfl (decide_eq_true hc8) rfl rfl (fun _ => hE) (fun _ => ex_move (v := (Sl.v t0)) rfl) <| tPo 17 27 rfl (decide_eq_true hc8) rfl rfl (fun _ => hE) (fun _ => ex_move (v := (.int .i64 s1)) rfl) <| tPo 18 27 rfl (decide_eq_true hc8) rfl rfl (fun _ => hE) (fun _ => ex_sub (a := s1) (b := 1) rfl rfl) ?_
       obtain ⟨t31, ht31, h⟩ := h
       refine tPo 19 27 rfl (decide_eq_true hc8) rfl rfl (fun _ => hE) (fun _ => (fun r => ex_indexAddr rfl rfl r) (ht31 _)) ?_
       obtain ⟨t32, ht32, h⟩ := h
       refine tKo 20 27 rfl (decide_eq_true hc8) rfl rfl hE (fun _ hw => (fun r => ex_load rfl r) (ht32 _ hw)) ?_
       obtain ⟨t34, ht34, h⟩ := h
       refine tKo 22 27 rfl (decide_eq_true hc8) rfl rfl hE (fun _ hw => (fun r => ex_load rfl r) (ht34 _ hw)) <| dr_only_on (i := 21) (t := 27) (c := (decide (0 < s1))) (by kernel_rfl) rfl rfl rfl (decide_eq_true hc8) ?_
       refine o_cal en63 rfl h ?_; clear h; intro t33 w h; obtain ⟨hx, h⟩ := h; clear hE; have hE := hx; clear hx; refine ⟨fun _ => hE, ?_⟩
       refine dr_only_on (i := 23) (t := 27) (c := (decide (0 < s1))) (by kernel_rfl) rfl rfl rfl (decide_eq_true hc8) ?_
       refine o_cal en63 rfl h ?_; clear h; intro t35 w h; obtain ⟨hx, h⟩ := h; clear hE; have hE := hx; clear hx; refine ⟨fun _ => hE, ?_⟩
       refine dr_only_on (i := 24) (t := 27) (c := (decide (0 < s1))) (by kernel_rfl) rfl rfl rfl (decide_eq_true hc8) ?_
       refine o_cal en111 rfl h ?_; clear h; intro t36 w h; obtain ⟨hx, h⟩ := h; clear hE; have hE := hx; clear hx; refine ⟨fun _ => hE, ?_⟩
       refine tPo 25 27 rfl (decide_eq_true hc8) rfl rfl (fun _ => hE) (fun _ => ex_geq (a := t36) (b := 0) rfl rfl) <| tPo 26 24 rfl (Bool.eq_false_iff.2 hc7) rfl rfl (fun _ => hE) (fun _ => ex_pick1 (b := (decide (0 < s1))) rfl (decide_eq_true hc8) (v := (.bool (decide (0 ≤ t36)))) rfl) <| tP 27 rfl (fun _ => hE) (fun _ => ex_pick0 (b := t22) rfl (Bool.eq_false_iff.2 hc7) (v := (.bool (decide (0 ≤ t36)))) rfl) <| dr_end (by kernel_rfl) ?_
       exact then_n ⟨(decide (0 ≤ t36)), _, rfl, mk_upds' (ae rfl (ae rfl (ae rfl (ae rfl (ae rfl (ae rfl ae0)))))), h⟩
      ·rw [if_neg hc8] at h
       refine tF 16 27 rfl (decide_eq_false hc8) rfl rfl (fun _ => hE) <| tF 17 27 rfl (decide_eq_false hc8) rfl rfl (fun _ => hE) <| tF 18 27 rfl (decide_eq_false hc8) rfl rfl (fun _ => hE) <| tF 19 27 rfl (decide_eq_false hc8) rfl rfl (fun _ => hE) <| tF 20 27 rfl (decide_eq_false hc8) rfl rfl (fun _ => hE) <| tF 21 27 rfl (decide_eq_false hc8) rfl rfl (fun _ => hE) <| tF 22 27 rfl (decide_eq_false hc8) rfl rfl (fun _ => hE) <| tF 23 27 rfl (decide_eq_false hc8) rfl rfl (fun _ => hE) <| tF 24 27 rfl (decide_eq_false hc8) rfl rfl (fun _ => hE) <| tF 25 27 rfl (decide_eq_false hc8) rfl rfl (fun _ => hE) ?_
       refine tPo 26 24 rfl (Bool.eq_false_iff.2 hc7) rfl rfl (fun _ => hE) (fun _ => ex_pick0 (b := (decide (0 < s1))) rfl (decide_eq_false hc8) (v := (.bool false)) rfl) <| tP 27 rfl (fun _ => hE) (fun _ => ex_pick0 (b := t22) rfl (Bool.eq_false_iff.2 hc7) (v := (.bool false)) rfl) <| dr_end (by kernel_rfl) ?_
       exact then_n ⟨false, _, rfl, mk_upds' (ae rfl (ae rfl (ae rfl (ae rfl (ae rfl (ae rfl ae0)))))), h⟩
 ·rw [if_neg hc2] at h; refine cond_0 (b := (decide (s1 < (t0.n : Int)))) rfl (decide_eq_false hc2) ?_
  refine wp_exit <| then_e <| then_e <| inb_e <| then_n <| seq_ <| region_ <| asg (.int .i64 (-1)) rfl <| wl_nil <| then_n ?_
  refine wp_ret ?_
  refine ret_1 rfl rfl ⟨(-1), rfl, h⟩

def f94 (t0 : TResource) (t1 : (Option Nat)) (R : (Int) → World → Prop) (w : World) : Prop :=
 New 48 (TResource.cells t0) w fun b2 w =>
 Jn (σ := Unit) (fun k1 =>
  Rn Try.prog (Value.int .i64) (Instr.loadAt 3 (Ptr ((⟨b2, 0, none⟩ : Addr).add 0))) w fun t10 w =>
  if t10 = 2 then
   Rn Try.prog Sl.v (Instr.loadAt 45 (Ptr ((⟨b2, 0, none⟩ : Addr).add 3))) w fun t14 w =>
   Lp (σ := Int) (fun s3 w n3 =>
    if s3 < (t14.n : Int) then
     RnP Try.prog Ptr (Instr.indexAt 45 (Sl.v t14) (.int .i64 s3)) fun t19 =>
     Rn Try.prog TTarget.v (Instr.loadAt 84 (Ptr t19)) w fun t20 w =>
     New 84 (TTarget.cells (⟨⟨#[]⟩, ⟨#[]⟩, 0⟩ : TTarget)) w fun b6 w =>
     RnU Try.prog (Instr.storeAt 84 (Ptr (⟨b6, 0, none⟩ : Addr)) (TTarget.v t20)) w fun w =>
     Jn (σ := Bool) (fun k5 =>
      Rn Try.prog Value.string (Instr.loadAt 9 (Ptr ((⟨b6, 0, none⟩ : Addr).add 0))) w fun t22 w =>
      if t22 ≠ (⟨#[]⟩ : ByteArray) then
       Rn Try.prog Value.string (Instr.loadAt 9 (Ptr ((⟨b6, 0, none⟩ : Addr).add 0))) w fun t27 w =>
       Rn Try.prog Value.bool (Instr.lookup 115 (.map t1) (TKey.v (⟨1, t27⟩ : TKey)) false) w fun t29 w =>
       if (!t29) = true then
        k5 true w
       else
        Rn Try.prog Value.string (Instr.loadAt 9 (Ptr ((⟨b6, 0, none⟩ : Addr).add 0))) w fun t34 w =>
        if t34 = (⟨#[]⟩ : ByteArray) then
         Rn Try.prog Value.string (Instr.loadAt 9 (Ptr ((⟨b6, 0, none⟩ : Addr).add 1))) w fun t39 w =>
         Rn Try.prog Value.bool (Instr.lookup 115 (.map t1) (TKey.v (⟨2, t39⟩ : TKey)) false) w fun t41 w =>
         k5 (!t41) w
        else
         k5 false w
      else
       Rn Try.prog Value.string (Instr.loadAt 9 (Ptr ((⟨b6, 0, none⟩ : Addr).add 0))) w fun t34_1 w =>
       if t34_1 = (⟨#[]⟩ : ByteArray) then
        Rn Try.prog Value.string (Instr.loadAt 9 (Ptr ((⟨b6, 0, none⟩ : Addr).add 1))) w fun t39_1 w =>
        Rn Try.prog Value.bool (Instr.lookup 115 (.map t1) (TKey.v (⟨2, t39_1⟩ : TKey)) false) w fun t41_1 w =>
        k5 (!t41_1) w
       else
        k5 false w
     ) fun s5 w =>
      if s5 = true then
       R (IntKind.i64.wrap (s3 + 1)) w
      else
       n3 (IntKind.i64.wrap (s3 + 1)) w
    else
     k1 () w
   ) 0 w
  else
   if t10 = 3 then
    Rn Try.prog Sl.v (Instr.loadAt 46 (Ptr ((⟨b2, 0, none⟩ : Addr).add 5))) w fun t51 w =>
    Lp (σ := Int) (fun s12 w n12 =>
     if s12 < (t51.n : Int) then
      RnP Try.prog Ptr (Instr.indexAt 46 (Sl.v t51) (.int .i64 s12)) fun t56 =>
      Rn Try.prog TRule.v (Instr.loadAt 91 (Ptr t56)) w fun t57 w =>
      New 91 (TRule.cells (⟨⟨#[]⟩, ⟨#[]⟩, ⟨#[]⟩, false⟩ : TRule)) w fun b8 w =>
      RnU Try.prog (Instr.storeAt 91 (Ptr (⟨b8, 0, none⟩ : Addr)) (TRule.v t57)) w fun w =>
      Rn Try.prog Value.string (Instr.loadAt 9 (Ptr ((⟨b8, 0, none⟩ : Addr).add 2))) w fun t60 w =>
      Rn Try.prog Value.bool (Instr.lookup 115 (.map t1) (TKey.v (⟨2, t60⟩ : TKey)) false) w fun t62 w =>
      if (!t62) = true then
       R (IntKind.i64.wrap (s12 + 1)) w
      else
       n12 (IntKind.i64.wrap (s12 + 1)) w
     else
      k1 () w
    ) 0 w
   else
    if t10 = 4 then
     Rn Try.prog Value.string (Instr.loadAt 9 (Ptr ((⟨b2, 0, none⟩ : Addr).add 6))) w fun t71 w =>
     Rn Try.prog Value.bool (Instr.lookup 115 (.map t1) (TKey.v (⟨3, t71⟩ : TKey)) false) w fun t73 w =>
     if (!t73) = true then
      R 0 w
     else
      k1 () w
    else
     k1 () w
 ) fun s1 w =>
  R (-1) w
theorem c94 {t0 : TResource} {t1 : (Option Nat)} {R : (Int) → World → Prop} {w : World} (h : f94 t0 t1 R w) :
  Cal Try.prog (Value.int .i64) 94 #[(TResource.v t0), (.map t1)] w R := by
 unfold f94 at h
 refine calls_ Try.func94 Try.ntmps94 rfl rfl <| seq_ <| region_ ?_
 refine st_new (f := (fun b => Ptr ⟨b, 0, none⟩)) (ex_boxN rfl rfl) h ?_; clear h; intro b2 w h
 refine asg (.int .i64 0) rfl <| wl_nil <| then_n ?_
 refine wp_jn (σ := Unit) (fun s1 l => ∃ j, l = upds j []) h ?_ ?_
 ·clear h; rintro s1 _ w ⟨j, rfl⟩ h
  refine seq_ <| region_ <| asg (.int .i64 (-1)) rfl <| wl_nil <| then_n <| wp_ret ?_
  refine ret_1 rfl rfl ⟨(-1), rfl, h⟩
 ·clear h; intro k1 h
  refine seq_ <| region_ <| st_val (ex_fa fa48_0 (p := (⟨b2, 0, none⟩ : Addr)) rfl) ?_
  refine st_rn (fun r => ex_load rfl r) h ?_; clear h; intro t10 w h
  refine wl_nil <| then_n <| wp_block <| seq_ <| region_ <| st_val (ex_eql (a := t10) (b := 2) rfl rfl) <| asg (.bool (decide (t10 = 2))) rfl <| wl_nil <| then_n ?_
  by_cases hc2 : t10 = 2
  ·rw [if_pos hc2] at h; refine cond_1 (b := (decide (t10 = 2))) rfl (decide_eq_true hc2) ?_
   refine seq_ <| region_ <| st_val (ex_fa fa48_3 (p := (⟨b2, 0, none⟩ : Addr)) rfl) ?_
   refine st_rn (fun r => ex_load rfl r) h ?_; clear h; intro t14 w h
   refine st_val (ex_len (s := t14) Try.underlying45 rfl) <| mv (.int .i64 0) rfl <| wl_nil <| then_n <| wp_block <| wp_lp (σ := Int) (fun s3 a => ∃ j, a = F 75 (upds j [(1, (.map t1)), (14, (Sl.v t14)), (15, (.int .i64 (t14.n : Int))), (16, (.int .i64 s3))])) h (mk_upds (ae rfl (ae rfl (ae rfl (ae rfl ae0))))) ?_
   clear h; rintro s3 _ w n3 ⟨j, rfl⟩ h
   refine seq_ <| region_ <| st_val (ex_lss (a := s3) (b := (t14.n : Int)) rfl rfl) <| wl_nil <| then_n <| seq_ ?_
   by_cases hc4 : s3 < (t14.n : Int)
   ·rw [if_pos hc4] at h; refine cond_1 (b := (decide (s3 < (t14.n : Int)))) rfl (decide_eq_true hc4) ?_
    refine wp_skip <| then_n <| seq_ <| wp_block <| seq_ <| region_ <| mv (.int .i64 s3) rfl ?_
    refine st_rnp (fun r => ex_indexAddr rfl rfl r) h ?_; clear h; intro t19 h
    refine st_rn (fun r => ex_load rfl r) h ?_; clear h; intro t20 w h
    refine st_new (f := (fun b => Ptr ⟨b, 0, none⟩)) (ex_allocN zero84 rfl) h ?_; clear h; intro b6 w h
    refine asg (.int .i64 s3) rfl ?_
    refine st_rnu (fun r => ex_store rfl rfl r) h ?_; clear h; intro w h
    refine wl_nil <| then_n ?_
    refine wp_jn (σ := Bool) (fun s5 l => ∃ j, l = upds j [(1, (.map t1)), (5, (.int .i64 s3)), (14, (Sl.v t14)), (15, (.int .i64 (t14.n : Int))), (16, (.int .i64 s3)), (44, (.bool s5))]) h ?_ ?_
    ·clear h; rintro s5 _ w ⟨j, rfl⟩ h
     by_cases hc10 : s5 = true
     ·rw [if_pos hc10] at h; refine cond_1 (b := s5) rfl hc10 ?_
      refine seq_ <| region_ <| mv (.int .i64 s3) rfl <| st_val (ex_add (a := s3) (b := 1) rfl rfl) <| asg (.int .i64 (IntKind.i64.wrap (s3 + 1))) rfl <| wl_nil <| then_n <| wp_ret <| inb_r <| then_r ?_
      refine then_r <| inb_r <| inb_r <| then_r ?_
      refine ret_1 rfl rfl ⟨(IntKind.i64.wrap (s3 + 1)), rfl, h⟩
     ·rw [if_neg hc10] at h; refine cond_0 (b := s5) rfl (Bool.eq_false_iff.2 hc10) ?_
      refine wp_skip <| inb_n <| then_n <| region_ <| st_val (ex_add (a := s3) (b := 1) rfl rfl) <| mv (.int .i64 (IntKind.i64.wrap (s3 + 1))) rfl <| wl_nil ?_
      exact then_n ⟨(IntKind.i64.wrap (s3 + 1)), mk_upds (ae rfl (ae rfl (ae rfl (ae rfl ae0)))), h⟩
    ·clear h; intro k5 h
     refine region_ <| st_val (ex_fa fa84_0 (p := (⟨b6, 0, none⟩ : Addr)) rfl) ?_
     refine st_rn (fun r => ex_load rfl r) h ?_; clear h; intro t22 w h
     refine st_val (ex_neqS (a := t22) (b := (⟨#[]⟩ : ByteArray)) rfl rfl) <| mv (.bool (decide (t22 ≠ (⟨#[]⟩ : ByteArray)))) rfl ?_
     by_cases hc6 : t22 ≠ (⟨#[]⟩ : ByteArray)
     ·rw [if_pos hc6] at h
      refine sOn 24 (decide_eq_true hc6) rfl rfl <| mv (.map t1) rfl <| sOn 24 (decide_eq_true hc6) rfl rfl <| st_val (ex_fa fa84_0 (p := (⟨b6, 0, none⟩ : Addr)) rfl) <| sOn 24 (decide_eq_true hc6) rfl rfl ?_
      refine st_rn (fun r => ex_load rfl r) h ?_; clear h; intro t27 w h
      refine sOn 24 (decide_eq_true hc6) rfl rfl <| st_val (ex_build (a' := [(0, (.int .i64 1)), (1, (.string t27))]) (v := TKey.v (⟨1, t27⟩ : TKey)) rfl (e_build Try.underlying113 zero113 rfl pl113 rfl _)) <| sOn 24 (decide_eq_true hc6) rfl rfl ?_
      refine st_rn (fun r => ex_lookup rfl rfl r) h ?_; clear h; intro t29 w h
      refine sOn 24 (decide_eq_true hc6) rfl rfl <| st_val (ex_not (b := t29) rfl) <| st_val (ex_pick1 (b := (decide (t22 ≠ (⟨#[]⟩ : ByteArray)))) rfl (decide_eq_true hc6) (v := (.bool (!t29))) rfl) <| mv (.bool (!t29)) rfl ?_
      by_cases hc7 : (!t29) = true
      ·rw [if_pos hc7] at h
       refine sOff 32 hc7 rfl rfl <| sOff 32 hc7 rfl rfl <| sOff 32 hc7 rfl rfl <| sOff 32 hc7 rfl rfl <| st_offu (t := 36) rfl rfl <| st_offu (t := 36) rfl rfl <| st_offu (t := 36) rfl rfl <| st_offu (t := 36) rfl rfl <| st_offu (t := 36) rfl rfl <| st_offu (t := 36) rfl rfl ?_
       refine sOff 32 hc7 rfl rfl <| st_val (ex_pick1 (b := (!t29)) rfl hc7 (v := (.bool true)) rfl) <| wl_nil ?_
       exact then_n ⟨true, _, rfl, mk_upds' (ae rfl (ae rfl (ae rfl (ae rfl (ae rfl (ae rfl ae0)))))), h⟩
      ·rw [if_neg hc7] at h
       refine sOn 32 (Bool.eq_false_iff.2 hc7) rfl rfl <| st_val (ex_fa fa84_0 (p := (⟨b6, 0, none⟩ : Addr)) rfl) <| sOn 32 (Bool.eq_false_iff.2 hc7) rfl rfl ?_
       refine st_rn (fun r => ex_load rfl r) h ?_; clear h; intro t34 w h
       refine sOn 32 (Bool.eq_false_iff.2 hc7) rfl rfl <| st_val (ex_eqlS (a := t34) (b := (⟨#[]⟩ : ByteArray)) rfl rfl) <| sOn 32 (Bool.eq_false_iff.2 hc7) rfl rfl <| mv (.bool (decide (t34 = (⟨#[]⟩ : ByteArray)))) rfl ?_
       by_cases hc8 : t34 = (⟨#[]⟩ : ByteArray)
       ·rw [if_pos hc8] at h
        refine sOn 36 (decide_eq_true hc8) rfl rfl <| mv (.map t1) rfl <| sOn 36 (decide_eq_true hc8) rfl rfl <| st_val (ex_fa fa84_1 (p := (⟨b6, 0, none⟩ : Addr)) rfl) <| sOn 36 (decide_eq_true hc8) rfl rfl ?_
        refine st_rn (fun r => ex_load rfl r) h ?_; clear h; intro t39 w h
        refine sOn 36 (decide_eq_true hc8) rfl rfl <| st_val (ex_build (a' := [(0, (.int .i64 2)), (1, (.string t39))]) (v := TKey.v (⟨2, t39⟩ : TKey)) rfl (e_build Try.underlying113 zero113 rfl pl113 rfl _)) <| sOn 36 (decide_eq_true hc8) rfl rfl ?_
        refine st_rn (fun r => ex_lookup rfl rfl r) h ?_; clear h; intro t41 w h
        refine sOn 36 (decide_eq_true hc8) rfl rfl <| st_val (ex_not (b := t41) rfl) <| sOn 32 (Bool.eq_false_iff.2 hc7) rfl rfl <| st_val (ex_pick1 (b := (decide (t34 = (⟨#[]⟩ : ByteArray)))) rfl (decide_eq_true hc8) (v := (.bool (!t41))) rfl) <| st_val (ex_pick0 (b := (!t29)) rfl (Bool.eq_false_iff.2 hc7) (v := (.bool (!t41))) rfl) <| wl_nil ?_
        exact then_n ⟨(!t41), _, rfl, mk_upds' (ae rfl (ae rfl (ae rfl (ae rfl (ae rfl (ae rfl ae0)))))), h⟩
       ·rw [if_neg hc8] at h
        refine sOff 36 (decide_eq_false hc8) rfl rfl <| sOff 36 (decide_eq_false hc8) rfl rfl <| sOff 36 (decide_eq_false hc8) rfl rfl <| sOff 36 (decide_eq_false hc8) rfl rfl <| sOff 36 (decide_eq_false hc8) rfl rfl <| sOff 36 (decide_eq_false hc8) rfl rfl <| sOn 32 (Bool.eq_false_iff.2 hc7) rfl rfl <| st_val (ex_pick0 (b := (decide (t34 = (⟨#[]⟩ : ByteArray)))) rfl (decide_eq_false hc8) (v := (.bool false)) rfl) <| st_val (ex_pick0 (b := (!t29)) rfl (Bool.eq_false_iff.2 hc7) (v := (.bool false)) rfl) <| wl_nil ?_
        exact then_n ⟨false, _, rfl, mk_upds' (ae rfl (ae rfl (ae rfl (ae rfl (ae rfl (ae rfl ae0)))))), h⟩
     ·rw [if_neg hc6] at h
      refine sOff 24 (decide_eq_false hc6) rfl rfl <| sOff 24 (decide_eq_false hc6) rfl rfl <| sOff 24 (decide_eq_false hc6) rfl rfl <| sOff 24 (decide_eq_false hc6) rfl rfl <| sOff 24 (decide_eq_false hc6) rfl rfl <| sOff 24 (decide_eq_false hc6) rfl rfl <| st_val (ex_pick0 (b := (decide (t22 ≠ (⟨#[]⟩ : ByteArray)))) rfl (decide_eq_false hc6) (v := (.bool false)) rfl) <| mv (.bool false) rfl <| sOn 32 (rfl : false = false) rfl rfl <| st_val (ex_fa fa84_0 (p := (⟨b6, 0, none⟩ : Addr)) rfl) ?_
      refine sOn 32 (rfl : false = false) rfl rfl ?_
      refine st_rn (fun r => ex_load rfl r) h ?_; clear h; intro t34_1 w h
      refine sOn 32 (rfl : false = false) rfl rfl <| st_val (ex_eqlS (a := t34_1) (b := (⟨#[]⟩ : ByteArray)) rfl rfl) <| sOn 32 (rfl : false = false) rfl rfl <| mv (.bool (decide (t34_1 = (⟨#[]⟩ : ByteArray)))) rfl ?_
      by_cases hc9 : t34_1 = (⟨#[]⟩ : ByteArray)
      ·rw [if_pos hc9] at h
       refine sOn 36 (decide_eq_true hc9) rfl rfl <| mv (.map t1) rfl <| sOn 36 (decide_eq_true hc9) rfl rfl <| st_val (ex_fa fa84_1 (p := (⟨b6, 0, none⟩ : Addr)) rfl) <| sOn 36 (decide_eq_true hc9) rfl rfl ?_
       refine st_rn (fun r => ex_load rfl r) h ?_; clear h; intro t39_1 w h
       refine sOn 36 (decide_eq_true hc9) rfl rfl <| st_val (ex_build (a' := [(0, (.int .i64 2)), (1, (.string t39_1))]) (v := TKey.v (⟨2, t39_1⟩ : TKey)) rfl (e_build Try.underlying113 zero113 rfl pl113 rfl _)) <| sOn 36 (decide_eq_true hc9) rfl rfl ?_
       refine st_rn (fun r => ex_lookup rfl rfl r) h ?_; clear h; intro t41_1 w h
       refine sOn 36 (decide_eq_true hc9) rfl rfl <| st_val (ex_not (b := t41_1) rfl) <| sOn 32 (rfl : false = false) rfl rfl <| st_val (ex_pick1 (b := (decide (t34_1 = (⟨#[]⟩ : ByteArray)))) rfl (decide_eq_true hc9) (v := (.bool (!t41_1))) rfl) <| st_val (ex_pick0 (b := false) rfl (rfl : false = false) (v := (.bool (!t41_1))) rfl) <| wl_nil ?_
       exact then_n ⟨(!t41_1), _, rfl, mk_upds' (ae rfl (ae rfl (ae rfl (ae rfl (ae rfl (ae rfl ae0)))))), h⟩
      ·rw [if_neg hc9] at h
       refine sOff 36 (decide_eq_false hc9) rfl rfl <| sOff 36 (decide_eq_false hc9) rfl rfl <| sOff 36 (decide_eq_false hc9) rfl rfl <| sOff 36 (decide_eq_false hc9) rfl rfl <| sOff 36 (decide_eq_false hc9) rfl rfl <| sOff 36 (decide_eq_false hc9) rfl rfl <| sOn 32 (rfl : false = false) rfl rfl <| st_val (ex_pick0 (b := (decide (t34_1 = (⟨#[]⟩ : ByteArray)))) rfl (decide_eq_false hc9) (v := (.bool false)) rfl) <| st_val (ex_pick0 (b := false) rfl (rfl : false = false) (v := (.bool false)) rfl) <| wl_nil ?_
       exact then_n ⟨false, _, rfl, mk_upds' (ae rfl (ae rfl (ae rfl (ae rfl (ae rfl (ae rfl ae0)))))), h⟩
   ·rw [if_neg hc4] at h; refine cond_0 (b := (decide (s3 < (t14.n : Int)))) rfl (decide_eq_false hc4) ?_
    refine wp_exit <| then_e <| then_e <| inb_e <| inb_n ?_
    exact then_n ⟨(), _, rfl, mk_upds' ae0, h⟩
  ·rw [if_neg hc2] at h; refine cond_0 (b := (decide (t10 = 2))) rfl (decide_eq_false hc2) ?_
   refine seq_ <| region_ <| st_val (ex_eql (a := t10) (b := 3) rfl rfl) <| asg (.bool (decide (t10 = 3))) rfl <| wl_nil <| then_n ?_
   by_cases hc11 : t10 = 3
   ·rw [if_pos hc11] at h; refine cond_1 (b := (decide (t10 = 3))) rfl (decide_eq_true hc11) ?_
    refine seq_ <| region_ <| st_val (ex_fa fa48_5 (p := (⟨b2, 0, none⟩ : Addr)) rfl) ?_
    refine st_rn (fun r => ex_load rfl r) h ?_; clear h; intro t51 w h
    refine st_val (ex_len (s := t51) Try.underlying46 rfl) <| mv (.int .i64 0) rfl <| wl_nil <| then_n <| wp_block <| wp_lp (σ := Int) (fun s12 a => ∃ j, a = F 75 (upds j [(1, (.map t1)), (51, (Sl.v t51)), (52, (.int .i64 (t51.n : Int))), (53, (.int .i64 s12))])) h (mk_upds (ae rfl (ae rfl (ae rfl (ae rfl ae0))))) ?_
    clear h; rintro s12 _ w n12 ⟨j, rfl⟩ h
    refine seq_ <| region_ <| st_val (ex_lss (a := s12) (b := (t51.n : Int)) rfl rfl) <| wl_nil <| then_n <| seq_ ?_
    by_cases hc13 : s12 < (t51.n : Int)
    ·rw [if_pos hc13] at h; refine cond_1 (b := (decide (s12 < (t51.n : Int)))) rfl (decide_eq_true hc13) ?_
     refine wp_skip <| then_n <| seq_ <| wp_block <| seq_ <| region_ <| mv (.int .i64 s12) rfl ?_
     refine st_rnp (fun r => ex_indexAddr rfl rfl r) h ?_; clear h; intro t56 h
     refine st_rn (fun r => ex_load rfl r) h ?_; clear h; intro t57 w h
     refine st_new (f := (fun b => Ptr ⟨b, 0, none⟩)) (ex_allocN zero91 rfl) h ?_; clear h; intro b8 w h
     refine asg (.int .i64 s12) rfl ?_
     refine st_rnu (fun r => ex_store rfl rfl r) h ?_; clear h; intro w h
     refine wl_nil <| then_n <| seq_ <| region_ <| mv (.map t1) rfl <| st_val (ex_fa fa91_2 (p := (⟨b8, 0, none⟩ : Addr)) rfl) ?_
     refine st_rn (fun r => ex_load rfl r) h ?_; clear h; intro t60 w h
     refine st_val (ex_build (a' := [(0, (.int .i64 2)), (1, (.string t60))]) (v := TKey.v (⟨2, t60⟩ : TKey)) rfl (e_build Try.underlying113 zero113 rfl pl113 rfl _)) ?_
     refine st_rn (fun r => ex_lookup rfl rfl r) h ?_; clear h; intro t62 w h
     refine st_val (ex_not (b := t62) rfl) <| wl_nil <| then_n ?_
     by_cases hc14 : (!t62) = true
     ·rw [if_pos hc14] at h; refine cond_1 (b := (!t62)) rfl hc14 ?_
      refine seq_ <| region_ <| mv (.int .i64 s12) rfl <| st_val (ex_add (a := s12) (b := 1) rfl rfl) <| asg (.int .i64 (IntKind.i64.wrap (s12 + 1))) rfl <| wl_nil <| then_n <| wp_ret <| inb_r <| then_r ?_
      refine then_r <| inb_r <| inb_r <| then_r ?_
      refine ret_1 rfl rfl ⟨(IntKind.i64.wrap (s12 + 1)), rfl, h⟩
     ·rw [if_neg hc14] at h; refine cond_0 (b := (!t62)) rfl (Bool.eq_false_iff.2 hc14) ?_
      refine wp_skip <| inb_n <| then_n <| region_ <| st_val (ex_add (a := s12) (b := 1) rfl rfl) <| mv (.int .i64 (IntKind.i64.wrap (s12 + 1))) rfl <| wl_nil ?_
      exact then_n ⟨(IntKind.i64.wrap (s12 + 1)), mk_upds (ae rfl (ae rfl (ae rfl (ae rfl ae0)))), h⟩
    ·rw [if_neg hc13] at h; refine cond_0 (b := (decide (s12 < (t51.n : Int)))) rfl (decide_eq_false hc13) ?_
     refine wp_exit <| then_e <| then_e <| inb_e <| inb_n ?_
     exact then_n ⟨(), _, rfl, mk_upds' ae0, h⟩
   ·rw [if_neg hc11] at h; refine cond_0 (b := (decide (t10 = 3))) rfl (decide_eq_false hc11) ?_
    refine seq_ <| region_ <| st_val (ex_eql (a := t10) (b := 4) rfl rfl) <| asg (.bool (decide (t10 = 4))) rfl <| wl_nil <| then_n ?_
    by_cases hc15 : t10 = 4
    ·rw [if_pos hc15] at h; refine cond_1 (b := (decide (t10 = 4))) rfl (decide_eq_true hc15) ?_
     refine seq_ <| region_ <| mv (.map t1) rfl <| st_val (ex_fa fa48_6 (p := (⟨b2, 0, none⟩ : Addr)) rfl) ?_
     refine st_rn (fun r => ex_load rfl r) h ?_; clear h; intro t71 w h
     refine st_val (ex_build (a' := [(0, (.int .i64 3)), (1, (.string t71))]) (v := TKey.v (⟨3, t71⟩ : TKey)) rfl (e_build Try.underlying113 zero113 rfl pl113 rfl _)) ?_
     refine st_rn (fun r => ex_lookup rfl rfl r) h ?_; clear h; intro t73 w h
     refine st_val (ex_not (b := t73) rfl) <| wl_nil <| then_n ?_
     by_cases hc16 : (!t73) = true
     ·rw [if_pos hc16] at h; refine cond_1 (b := (!t73)) rfl hc16 ?_
      refine seq_ <| region_ <| asg (.int .i64 0) rfl <| wl_nil <| then_n <| wp_ret <| inb_r <| then_r ?_
      refine ret_1 rfl rfl ⟨0, rfl, h⟩
     ·rw [if_neg hc16] at h; refine cond_0 (b := (!t73)) rfl (Bool.eq_false_iff.2 hc16) ?_
      refine wp_skip <| inb_n ?_
      exact then_n ⟨(), _, rfl, mk_upds' ae0, h⟩
    ·rw [if_neg hc15] at h; refine cond_0 (b := (decide (t10 = 4))) rfl (decide_eq_false hc15) ?_
     refine wp_skip <| inb_n ?_
     exact then_n ⟨(), _, rfl, mk_upds' ae0, h⟩

def f95 (t0 : TResource) (R : (Bool) → World → Prop) (w : World) : Prop :=
 New 48 (TResource.cells t0) w fun b1 w =>
 Rn Try.prog Sl.v (Instr.loadAt 45 (Ptr ((⟨b1, 0, none⟩ : Addr).add 3))) w fun t7 w =>
 Lp (σ := Nat × Int) (fun s1 w n1 =>
  if s1.2 < (t7.n : Int) then
   RnP Try.prog Ptr (Instr.indexAt 45 (Sl.v t7) (.int .i64 s1.2)) fun t11 =>
   Rn Try.prog TTarget.v (Instr.loadAt 84 (Ptr t11)) w fun t12 w =>
   New 84 (TTarget.cells (⟨⟨#[]⟩, ⟨#[]⟩, 0⟩ : TTarget)) w fun b5 w =>
   RnU Try.prog (Instr.storeAt 84 (Ptr (⟨b5, 0, none⟩ : Addr)) (TTarget.v t12)) w fun w =>
   Jn (σ := Bool) (fun k3 =>
    Rn Try.prog (Value.float .f64) (Instr.loadAt 30 (Ptr ((⟨b5, 0, none⟩ : Addr).add 2))) w fun t14 w =>
    if (fGe t14 0) = true then
     Rn Try.prog (Value.float .f64) (Instr.loadAt 30 (Ptr ((⟨b5, 0, none⟩ : Addr).add 2))) w fun t18 w =>
     k3 (!(fLe t18 4636737291354636288)) w
    else
     k3 (!false) w
   ) fun s3 w =>
    if s3 = true then
     R true w
    else
     Rn Try.prog (Value.float .f64) (Instr.loadAt 30 (Ptr ((⟨b5, 0, none⟩ : Addr).add 2))) w fun t24 w =>
     Rn Try.prog (Value.float .f64) (Op.floatArith .add .f64 s1.1 t24) w fun t25 w =>
     n1 (t25, (IntKind.i64.wrap (s1.2 + 1))) w
  else
   Jn (σ := Bool) (fun k6 =>
    if (fGe s1.1 4636737291287527424) = true then
     k6 (!(fLe s1.1 4636737291421745152)) w
    else
     k6 (!false) w
   ) fun s6 w =>
    R s6 w
 ) (0, 0) w
theorem c95 {t0 : TResource} {R : (Bool) → World → Prop} {w : World} (h : f95 t0 R w) :
  Cal Try.prog Value.bool 95 #[(TResource.v t0)] w R := by
 unfold f95 at h
 refine calls_ Try.func95 Try.ntmps95 rfl rfl <| seq_ <| region_ ?_
 refine st_new (f := (fun b => Ptr ⟨b, 0, none⟩)) (ex_boxN rfl rfl) h ?_; clear h; intro b1 w h
 refine asg (.bool false) rfl <| wl_nil <| then_n <| seq_ <| region_ <| asg (.float .f64 0) rfl <| wl_nil <| then_n <| seq_ <| seq_ ?_
 refine region_ <| st_val (ex_fa fa48_3 (p := (⟨b1, 0, none⟩ : Addr)) rfl) ?_
 refine st_rn (fun r => ex_load rfl r) h ?_; clear h; intro t7 w h
 refine st_val (ex_len (s := t7) Try.underlying45 rfl) <| mv (.int .i64 0) rfl <| wl_nil <| then_n <| wp_block <| wp_lp (σ := Nat × Int) (fun s1 a => ∃ j, a = F 34 (upds j [(3, (.float .f64 s1.1)), (7, (Sl.v t7)), (8, (.int .i64 (t7.n : Int))), (9, (.int .i64 s1.2))])) h (mk_upds (ae rfl (ae rfl (ae rfl (ae rfl ae0))))) ?_
 clear h; rintro s1 _ w n1 ⟨j, rfl⟩ h
 refine seq_ <| region_ <| st_val (ex_lss (a := s1.2) (b := (t7.n : Int)) rfl rfl) <| wl_nil <| then_n <| seq_ ?_
 by_cases hc2 : s1.2 < (t7.n : Int)
 ·rw [if_pos hc2] at h; refine cond_1 (b := (decide (s1.2 < (t7.n : Int)))) rfl (decide_eq_true hc2) ?_
  refine wp_skip <| then_n <| seq_ <| wp_block <| seq_ <| region_ ?_
  refine st_rnp (fun r => ex_indexAddr rfl rfl r) h ?_; clear h; intro t11 h
  refine st_rn (fun r => ex_load rfl r) h ?_; clear h; intro t12 w h
  refine st_new (f := (fun b => Ptr ⟨b, 0, none⟩)) (ex_allocN zero84 rfl) h ?_; clear h; intro b5 w h
  refine st_rnu (fun r => ex_store rfl rfl r) h ?_; clear h; intro w h
  refine wl_nil <| then_n <| seq_ ?_
  refine wp_jn (σ := Bool) (fun s3 l => ∃ j, l = upds j [(3, (.float .f64 s1.1)), (5, (Ptr (⟨b5, 0, none⟩ : Addr))), (7, (Sl.v t7)), (8, (.int .i64 (t7.n : Int))), (9, (.int .i64 s1.2)), (21, (.bool s3))]) h ?_ ?_
  ·clear h; rintro s3 _ w ⟨j, rfl⟩ h
   by_cases hc5 : s3 = true
   ·rw [if_pos hc5] at h; refine cond_1 (b := s3) rfl hc5 ?_
    refine seq_ <| region_ <| asg (.bool true) rfl <| wl_nil <| then_n <| wp_ret <| then_r <| inb_r <| then_r <| then_r ?_
    refine inb_r <| then_r ?_
    refine ret_1 rfl rfl ⟨true, rfl, h⟩
   ·rw [if_neg hc5] at h; refine cond_0 (b := s3) rfl (Bool.eq_false_iff.2 hc5) ?_
    refine wp_skip <| then_n <| region_ <| mv (.float .f64 s1.1) rfl <| st_val (ex_fa fa84_2 (p := (⟨b5, 0, none⟩ : Addr)) rfl) ?_
    refine st_rn (fun r => ex_load rfl r) h ?_; clear h; intro t24 w h
    refine st_rn (fun r => ex_addF (a := s1.1) (b := t24) rfl rfl r) h ?_; clear h; intro t25 w h
    refine asg (.float .f64 t25) rfl <| wl_nil <| inb_n <| then_n <| region_ <| st_val (ex_add (a := s1.2) (b := 1) rfl rfl) <| mv (.int .i64 (IntKind.i64.wrap (s1.2 + 1))) rfl <| wl_nil ?_
    exact then_n ⟨(t25, (IntKind.i64.wrap (s1.2 + 1))), mk_upds (ae rfl (ae rfl (ae rfl (ae rfl ae0)))), h⟩
  ·clear h; intro k3 h
   refine region_ <| st_val (ex_fa fa84_2 (p := (⟨b5, 0, none⟩ : Addr)) rfl) ?_
   refine st_rn (fun r => ex_load rfl r) h ?_; clear h; intro t14 w h
   refine st_val (ex_geqF (a := t14) (b := 0) rfl rfl) <| mv (.bool (fGe t14 0)) rfl ?_
   by_cases hc4 : (fGe t14 0) = true
   ·rw [if_pos hc4] at h
    refine sOn 16 hc4 rfl rfl <| st_val (ex_fa fa84_2 (p := (⟨b5, 0, none⟩ : Addr)) rfl) <| sOn 16 hc4 rfl rfl ?_
    refine st_rn (fun r => ex_load rfl r) h ?_; clear h; intro t18 w h
    refine sOn 16 hc4 rfl rfl <| st_val (ex_leqF (a := t18) (b := 4636737291354636288) rfl rfl) <| st_val (ex_pick1 (b := (fGe t14 0)) rfl hc4 (v := (.bool (fLe t18 4636737291354636288))) rfl) <| st_val (ex_not (b := (fLe t18 4636737291354636288)) rfl) <| wl_nil ?_
    exact then_n ⟨(!(fLe t18 4636737291354636288)), _, rfl, mk_upds' (ae rfl (ae rfl (ae rfl (ae rfl (ae rfl (ae rfl ae0)))))), h⟩
   ·rw [if_neg hc4] at h
    refine sOff 16 (Bool.eq_false_iff.2 hc4) rfl rfl <| sOff 16 (Bool.eq_false_iff.2 hc4) rfl rfl <| sOff 16 (Bool.eq_false_iff.2 hc4) rfl rfl <| st_val (ex_pick0 (b := (fGe t14 0)) rfl (Bool.eq_false_iff.2 hc4) (v := (.bool false)) rfl) <| st_val (ex_not (b := false) rfl) <| wl_nil ?_
    exact then_n ⟨(!false), _, rfl, mk_upds' (ae rfl (ae rfl (ae rfl (ae rfl (ae rfl (ae rfl ae0)))))), h⟩
 ·rw [if_neg hc2] at h; refine cond_0 (b := (decide (s1.2 < (t7.n : Int)))) rfl (decide_eq_false hc2) ?_
  refine wp_exit <| then_e <| then_e <| inb_e <| then_n ?_
  refine wp_jn (σ := Bool) (fun s6 l => ∃ j, l = upds j [(2, (.bool s6))]) h ?_ ?_
  ·clear h; rintro s6 _ w ⟨j, rfl⟩ h
   refine wp_ret ?_
   refine ret_1 rfl rfl ⟨s6, rfl, h⟩
  ·clear h; intro k6 h
   refine region_ <| mv (.float .f64 s1.1) rfl <| st_val (ex_geqF (a := s1.1) (b := 4636737291287527424) rfl rfl) <| mv (.bool (fGe s1.1 4636737291287527424)) rfl ?_
   by_cases hc7 : (fGe s1.1 4636737291287527424) = true
   ·rw [if_pos hc7] at h
    refine sOn 29 hc7 rfl rfl <| mv (.float .f64 s1.1) rfl <| sOn 29 hc7 rfl rfl <| st_val (ex_leqF (a := s1.1) (b := 4636737291421745152) rfl rfl) <| st_val (ex_pick1 (b := (fGe s1.1 4636737291287527424)) rfl hc7 (v := (.bool (fLe s1.1 4636737291421745152))) rfl) <| st_val (ex_not (b := (fLe s1.1 4636737291421745152)) rfl) <| asg (.bool (!(fLe s1.1 4636737291421745152))) rfl <| wl_nil ?_
    exact then_n ⟨(!(fLe s1.1 4636737291421745152)), _, rfl, mk_upds' (ae rfl ae0), h⟩
   ·rw [if_neg hc7] at h
    refine sOff 29 (Bool.eq_false_iff.2 hc7) rfl rfl <| sOff 29 (Bool.eq_false_iff.2 hc7) rfl rfl <| st_val (ex_pick0 (b := (fGe s1.1 4636737291287527424)) rfl (Bool.eq_false_iff.2 hc7) (v := (.bool false)) rfl) <| st_val (ex_not (b := false) rfl) <| asg (.bool (!false)) rfl <| wl_nil ?_
    exact then_n ⟨(!false), _, rfl, mk_upds' (ae rfl ae0), h⟩

def f96 (t0 : (Option Addr)) (t1 : ByteArray) (R : (Int) → World → Prop) (w : World) : Prop :=
 NotNil t0 fun t12 =>
 Rn Try.prog Value.map (Instr.loadAt 146 (Ptr (t12.add 1))) w fun t14 w =>
 Rn Try.prog (fun x : Int × Bool => Value.tuple #[(.int .i64 x.1), (.bool x.2)]) (Instr.lookup 146 (.map t14) (.string t1) true) w fun t16 w =>
 if t16.2 = true then
  if t16.1 < 0 then
   R 9 w
  else
   R t16.1 w
 else
  NotNil t0 fun t24 =>
  Rn Try.prog Value.map (Instr.loadAt 146 (Ptr (t24.add 1))) w fun t26 w =>
  RnU Try.prog (Instr.mapUpdate 146 (.map t26) (.string t1) (.int .i64 (-1))) w fun w =>
  NotNil t0 fun t29 =>
  Rn Try.prog Value.map (Instr.loadAt 145 (Ptr (t29.add 0))) w fun t31 w =>
  Rn Try.prog TResource.v (Instr.lookup 145 (.map t31) (.string t1) false) w fun t33 w =>
  RnP Try.prog Sl.v (Instr.field 48 (TResource.v t33) 3) fun t34 =>
  Lp (σ := Int × Int) (fun s3 w n3 =>
   if s3.2 < (t34.n : Int) then
    Jn (σ := Int) (fun k5 =>
     RnP Try.prog Ptr (Instr.indexAt 45 (Sl.v t34) (.int .i64 s3.2)) fun t38 =>
     Rn Try.prog TTarget.v (Instr.loadAt 84 (Ptr t38)) w fun t39 w =>
     New 84 (TTarget.cells (⟨⟨#[]⟩, ⟨#[]⟩, 0⟩ : TTarget)) w fun b9 w =>
     RnU Try.prog (Instr.storeAt 84 (Ptr (⟨b9, 0, none⟩ : Addr)) (TTarget.v t39)) w fun w =>
     Rn Try.prog Value.string (Instr.loadAt 9 (Ptr ((⟨b9, 0, none⟩ : Addr).add 0))) w fun t41 w =>
     if t41 = (⟨#[]⟩ : ByteArray) then
      Rn Try.prog Value.string (Instr.loadAt 9 (Ptr ((⟨b9, 0, none⟩ : Addr).add 1))) w fun t46 w =>
      Cal Try.prog (Value.int .i64) 96 #[(.pointer t0), (.string t46)] w fun t47 w =>
      k5 (max s3.1 t47) w
     else
      k5 s3.1 w
    ) fun s5 w =>
     n3 (s5, (IntKind.i64.wrap (s3.2 + 1))) w
   else
    NotNil t0 fun t54 =>
    Rn Try.prog Value.map (Instr.loadAt 146 (Ptr (t54.add 1))) w fun t56 w =>
    RnU Try.prog (Instr.mapUpdate 146 (.map t56) (.string t1) (.int .i64 (min (IntKind.i64.wrap (s3.1 + 1)) 9))) w fun w =>
    R (min (IntKind.i64.wrap (s3.1 + 1)) 9) w
  ) (0, 0) w
theorem c96 {t0 : (Option Addr)} {t1 : ByteArray} {R : (Int) → World → Prop} {w : World} (h : f96 t0 t1 R w) :
  Cal Try.prog (Value.int .i64) 96 #[(.pointer t0), (.string t1)] w R := by
 unfold f96 at h
 refine calls_ Try.func96 Try.ntmps96 rfl rfl <| seq_ <| region_ <| asg (.int .i64 0) rfl <| wl_nil <| then_n <| seq_ <| seq_ <| region_ <| mv (.pointer t0) rfl ?_
 obtain ⟨t12, ht12, h⟩ := h
 refine st_val (ex_nilCheckP (p := t0) rfl ht12) <| st_val (ex_fa fa148_1 (p := t12) rfl) ?_
 refine st_rn (fun r => ex_load rfl r) h ?_; clear h; intro t14 w h
 refine mv (.string t1) rfl ?_
 refine st_rn (fun r => ex_lookup rfl rfl r) h ?_; clear h; intro t16 w h
 refine mv (.tuple #[(.int .i64 t16.1), (.bool t16.2)]) rfl <| st_val (ex_extract (u := (.tuple #[(.int .i64 t16.1), (.bool t16.2)])) rfl (v := (.int .i64 t16.1)) rfl) <| st_val (ex_extract (u := (.tuple #[(.int .i64 t16.1), (.bool t16.2)])) rfl (v := (.bool t16.2)) rfl) <| asg (.int .i64 t16.1) rfl <| asg (.bool t16.2) rfl <| wl_nil <| then_n <| seq_ <| region_ <| mv (.bool t16.2) rfl ?_
 refine wl_nil <| then_n ?_
 by_cases hc1 : t16.2 = true
 ·rw [if_pos hc1] at h; refine cond_1 (b := t16.2) rfl hc1 ?_
  refine seq_ <| seq_ <| region_ <| mv (.int .i64 t16.1) rfl <| st_val (ex_lss (a := t16.1) (b := 0) rfl rfl) <| wl_nil <| then_n ?_
  by_cases hc2 : t16.1 < 0
  ·rw [if_pos hc2] at h; refine cond_1 (b := (decide (t16.1 < 0))) rfl (decide_eq_true hc2) ?_
   refine seq_ <| region_ <| asg (.int .i64 9) rfl <| wl_nil <| then_n <| wp_ret <| then_r <| then_r ?_
   refine ret_1 rfl rfl ⟨9, rfl, h⟩
  ·rw [if_neg hc2] at h; refine cond_0 (b := (decide (t16.1 < 0))) rfl (decide_eq_false hc2) ?_
   refine wp_skip <| then_n <| seq_ <| region_ <| mv (.int .i64 t16.1) rfl <| asg (.int .i64 t16.1) rfl <| wl_nil <| then_n <| wp_ret <| then_r ?_
   refine ret_1 rfl rfl ⟨t16.1, rfl, h⟩
 ·rw [if_neg hc1] at h; refine cond_0 (b := t16.2) rfl (Bool.eq_false_iff.2 hc1) ?_
  refine wp_skip <| then_n <| seq_ <| region_ <| mv (.pointer t0) rfl ?_
  obtain ⟨t24, ht24, h⟩ := h
  refine st_val (ex_nilCheckP (p := t0) rfl ht24) <| st_val (ex_fa fa148_1 (p := t24) rfl) ?_
  refine st_rn (fun r => ex_load rfl r) h ?_; clear h; intro t26 w h
  refine mv (.string t1) rfl ?_
  refine st_rnu (fun r => ex_mapUpdate rfl rfl rfl r) h ?_; clear h; intro w h
  refine wl_nil <| then_n <| seq_ <| region_ <| asg (.int .i64 0) rfl <| wl_nil <| then_n <| seq_ <| seq_ <| region_ ?_
  refine mv (.pointer t0) rfl ?_
  obtain ⟨t29, ht29, h⟩ := h
  refine st_val (ex_nilCheckP (p := t0) rfl ht29) <| st_val (ex_fa fa148_0 (p := t29) rfl) ?_
  refine st_rn (fun r => ex_load rfl r) h ?_; clear h; intro t31 w h
  refine mv (.string t1) rfl ?_
  refine st_rn (fun r => ex_lookup rfl rfl r) h ?_; clear h; intro t33 w h
  refine st_rnp (fun r => ex_field rfl r) h ?_; clear h; intro t34 h
  refine st_val (ex_len (s := t34) Try.underlying45 rfl) <| mv (.int .i64 0) rfl <| wl_nil <| then_n <| wp_block <| wp_lp (σ := Int × Int) (fun s3 a => ∃ j, a = F 60 (upds j [(0, (.pointer t0)), (1, (.string t1)), (7, (.int .i64 s3.1)), (34, (Sl.v t34)), (35, (.int .i64 (t34.n : Int))), (36, (.int .i64 s3.2))])) h (mk_upds (ae rfl (ae rfl (ae rfl (ae rfl (ae rfl (ae rfl ae0))))))) ?_
  clear h; rintro s3 _ w n3 ⟨j, rfl⟩ h
  refine seq_ <| region_ <| st_val (ex_lss (a := s3.2) (b := (t34.n : Int)) rfl rfl) <| wl_nil <| then_n <| seq_ ?_
  by_cases hc4 : s3.2 < (t34.n : Int)
  ·rw [if_pos hc4] at h; refine cond_1 (b := (decide (s3.2 < (t34.n : Int)))) rfl (decide_eq_true hc4) ?_
   refine wp_skip <| then_n ?_
   refine wp_jn (σ := Int) (fun s5 l => ∃ j, l = upds j [(0, (.pointer t0)), (1, (.string t1)), (7, (.int .i64 s5)), (34, (Sl.v t34)), (35, (.int .i64 (t34.n : Int))), (36, (.int .i64 s3.2))]) h ?_ ?_
   ·clear h; rintro s5 _ w ⟨j, rfl⟩ h
    refine region_ <| st_val (ex_add (a := s3.2) (b := 1) rfl rfl) <| mv (.int .i64 (IntKind.i64.wrap (s3.2 + 1))) rfl <| wl_nil ?_
    exact then_n ⟨(s5, (IntKind.i64.wrap (s3.2 + 1))), mk_upds (ae rfl (ae rfl (ae rfl (ae rfl (ae rfl (ae rfl ae0)))))), h⟩
   ·clear h; intro k5 h
    refine wp_block <| seq_ <| region_ ?_
    refine st_rnp (fun r => ex_indexAddr rfl rfl r) h ?_; clear h; intro t38 h
    refine st_rn (fun r => ex_load rfl r) h ?_; clear h; intro t39 w h
    refine st_new (f := (fun b => Ptr ⟨b, 0, none⟩)) (ex_allocN zero84 rfl) h ?_; clear h; intro b9 w h
    refine st_rnu (fun r => ex_store rfl rfl r) h ?_; clear h; intro w h
    refine wl_nil <| then_n <| seq_ <| region_ <| st_val (ex_fa fa84_0 (p := (⟨b9, 0, none⟩ : Addr)) rfl) ?_
    refine st_rn (fun r => ex_load rfl r) h ?_; clear h; intro t41 w h
    refine st_val (ex_eqlS (a := t41) (b := (⟨#[]⟩ : ByteArray)) rfl rfl) <| wl_nil <| then_n ?_
    by_cases hc6 : t41 = (⟨#[]⟩ : ByteArray)
    ·rw [if_pos hc6] at h; refine cond_1 (b := (decide (t41 = (⟨#[]⟩ : ByteArray)))) rfl (decide_eq_true hc6) ?_
     refine region_ <| mv (.int .i64 s3.1) rfl <| mv (.pointer t0) rfl <| st_val (ex_fa fa84_1 (p := (⟨b9, 0, none⟩ : Addr)) rfl) ?_
     refine st_rn (fun r => ex_load rfl r) h ?_; clear h; intro t46 w h
     refine st_cal en96 rfl h ?_; clear h; intro t47 w h
     refine st_val (ex_max (a := s3.1) (b := t47) rfl rfl) <| asg (.int .i64 (max s3.1 t47)) rfl <| wl_nil <| inb_n ?_
     exact then_n ⟨(max s3.1 t47), _, rfl, mk_upds' (ae rfl (ae rfl (ae rfl (ae rfl (ae rfl (ae rfl ae0)))))), h⟩
    ·rw [if_neg hc6] at h; refine cond_0 (b := (decide (t41 = (⟨#[]⟩ : ByteArray)))) rfl (decide_eq_false hc6) ?_
     refine wp_skip <| inb_n ?_
     exact then_n ⟨s3.1, _, rfl, mk_upds' (ae rfl (ae rfl (ae rfl (ae rfl (ae rfl (ae rfl ae0)))))), h⟩
  ·rw [if_neg hc4] at h; refine cond_0 (b := (decide (s3.2 < (t34.n : Int)))) rfl (decide_eq_false hc4) ?_
   refine wp_exit <| then_e <| then_e <| inb_e <| then_n <| seq_ <| region_ <| mv (.int .i64 s3.1) rfl <| st_val (ex_add (a := s3.1) (b := 1) rfl rfl) <| st_val (ex_min (a := (IntKind.i64.wrap (s3.1 + 1))) (b := 9) rfl rfl) ?_
   refine asg (.int .i64 (min (IntKind.i64.wrap (s3.1 + 1)) 9)) rfl <| wl_nil <| then_n <| seq_ <| region_ <| mv (.pointer t0) rfl ?_
   obtain ⟨t54, ht54, h⟩ := h
   refine st_val (ex_nilCheckP (p := t0) rfl ht54) <| st_val (ex_fa fa148_1 (p := t54) rfl) ?_
   refine st_rn (fun r => ex_load rfl r) h ?_; clear h; intro t56 w h
   refine mv (.string t1) rfl <| mv (.int .i64 (min (IntKind.i64.wrap (s3.1 + 1)) 9)) rfl ?_
   refine st_rnu (fun r => ex_mapUpdate rfl rfl rfl r) h ?_; clear h; intro w h
   refine wl_nil <| then_n <| seq_ <| region_ <| mv (.int .i64 (min (IntKind.i64.wrap (s3.1 + 1)) 9)) rfl <| asg (.int .i64 (min (IntKind.i64.wrap (s3.1 + 1)) 9)) rfl <| wl_nil <| then_n <| wp_ret ?_
   refine ret_1 rfl rfl ⟨(min (IntKind.i64.wrap (s3.1 + 1)) 9), rfl, h⟩

def f97 (t0 : Sl) (R : (Sl) → World → Prop) (w : World) : Prop :=
 Lp (σ := Sl × Int) (fun s1 w n1 =>
  if s1.2 < (t0.n : Int) then
   Jn (σ := Sl) (fun k3 =>
    RnP Try.prog Ptr (Instr.indexAt 22 (Sl.v t0) (.int .i64 s1.2)) fun t13 =>
    Rn Try.prog TResource.v (Instr.loadAt 48 (Ptr t13)) w fun t14 w =>
    New 48 (TResource.cells (⟨0, ⟨#[]⟩, Sl.nil, Sl.nil, ⟨#[]⟩, Sl.nil, ⟨#[]⟩, false⟩ : TResource)) w fun b4 w =>
    RnU Try.prog (Instr.storeAt 48 (Ptr (⟨b4, 0, none⟩ : Addr)) (TResource.v t14)) w fun w =>
    Jn (σ := Bool) (fun k4 =>
     Rn Try.prog (Value.int .i64) (Instr.loadAt 3 (Ptr ((⟨b4, 0, none⟩ : Addr).add 0))) w fun t16 w =>
     if t16 ≠ 3 then
      Rn Try.prog (Value.int .i64) (Instr.loadAt 3 (Ptr ((⟨b4, 0, none⟩ : Addr).add 0))) w fun t20 w =>
      k4 (decide (t20 ≠ 4)) w
     else
      k4 false w
    ) fun s4 w =>
     if s4 = true then
      k3 s1.1 w
     else
      Rn Try.prog Sl.v (Instr.loadAt 46 (Ptr ((⟨b4, 0, none⟩ : Addr).add 5))) w fun t24 w =>
      Lp (σ := Sl × Int) (fun s7 w n7 =>
       if s7.2 < (t24.n : Int) then
        Jn (σ := Sl) (fun k9 =>
         RnP Try.prog Ptr (Instr.indexAt 46 (Sl.v t24) (.int .i64 s7.2)) fun t29 =>
         Rn Try.prog TRule.v (Instr.loadAt 91 (Ptr t29)) w fun t30 w =>
         New 91 (TRule.cells (⟨⟨#[]⟩, ⟨#[]⟩, ⟨#[]⟩, false⟩ : TRule)) w fun b6 w =>
         RnU Try.prog (Instr.storeAt 91 (Ptr (⟨b6, 0, none⟩ : Addr)) (TRule.v t30)) w fun w =>
         Rn Try.prog Sl.v (Instr.loadAt 46 (Ptr ((⟨b4, 0, none⟩ : Addr).add 5))) w fun t32 w =>
         RnP Try.prog Sl.v (Instr.sliceAt 46 (Sl.v t32) none (some (.int .i64 s7.2)) none) fun t34 =>
         Cal Try.prog (Value.int .i64) 121 #[(Sl.v t34), (Value.func (.func 122) #[] #[(Ptr (⟨b6, 0, none⟩ : Addr))])] w fun t36 w =>
         if 0 ≤ t36 then
          New 177 ((TWarning.cells (⟨s1.2, s7.2, t36⟩ : TWarning))) w fun b44 w =>
          Rn Try.prog Sl.v (Builtin.append_ #[78, 78] 78 #[(Sl.v s7.1), (Sl.v (⟨some ⟨b44, 0, none⟩, 1, 1⟩ : Sl))]) w fun t45 w =>
          k9 t45 w
         else
          k9 s7.1 w
        ) fun s9 w =>
         n7 (s9, (IntKind.i64.wrap (s7.2 + 1))) w
       else
        k3 s7.1 w
      ) (s1.1, 0) w
   ) fun s3 w =>
    n1 (s3, (IntKind.i64.wrap (s1.2 + 1))) w
  else
   R s1.1 w
 ) (Sl.nil, 0) w
theorem c97 {t0 : Sl} {R : (Sl) → World → Prop} {w : World} (h : f97 t0 R w) :
  Cal Try.prog Sl.v 97 #[(Sl.v t0)] w R := by
 unfold f97 at h
 refine calls_ Try.func97 Try.ntmps97 rfl rfl <| seq_ <| region_ <| asg (Sl.v Sl.nil) rfl <| wl_nil <| then_n <| seq_ <| seq_ <| region_ <| mv (Sl.v t0) rfl ?_
 refine st_val (ex_len (s := t0) Try.underlying22 rfl) <| mv (.int .i64 0) rfl <| wl_nil <| then_n <| wp_block <| wp_lp (σ := Sl × Int) (fun s1 a => ∃ j, a = F 49 (upds j [(2, (Sl.v s1.1)), (8, (Sl.v t0)), (9, (.int .i64 (t0.n : Int))), (10, (.int .i64 s1.2))])) h (mk_upds (ae rfl (ae rfl (ae rfl (ae rfl ae0))))) ?_
 clear h; rintro s1 _ w n1 ⟨j, rfl⟩ h
 refine seq_ <| region_ <| st_val (ex_lss (a := s1.2) (b := (t0.n : Int)) rfl rfl) <| wl_nil <| then_n <| seq_ ?_
 by_cases hc2 : s1.2 < (t0.n : Int)
 ·rw [if_pos hc2] at h; refine cond_1 (b := (decide (s1.2 < (t0.n : Int)))) rfl (decide_eq_true hc2) ?_
  refine wp_skip <| then_n ?_
  refine wp_jn (σ := Sl) (fun s3 l => ∃ j, l = upds j [(2, (Sl.v s3)), (8, (Sl.v t0)), (9, (.int .i64 (t0.n : Int))), (10, (.int .i64 s1.2))]) h ?_ ?_
  ·clear h; rintro s3 _ w ⟨j, rfl⟩ h
   refine region_ <| st_val (ex_add (a := s1.2) (b := 1) rfl rfl) <| mv (.int .i64 (IntKind.i64.wrap (s1.2 + 1))) rfl <| wl_nil ?_
   exact then_n ⟨(s3, (IntKind.i64.wrap (s1.2 + 1))), mk_upds (ae rfl (ae rfl (ae rfl (ae rfl ae0)))), h⟩
  ·clear h; intro k3 h
   refine wp_block <| seq_ <| region_ <| mv (.int .i64 s1.2) rfl ?_
   refine st_rnp (fun r => ex_indexAddr rfl rfl r) h ?_; clear h; intro t13 h
   refine st_rn (fun r => ex_load rfl r) h ?_; clear h; intro t14 w h
   refine st_new (f := (fun b => Ptr ⟨b, 0, none⟩)) (ex_allocN zero48 rfl) h ?_; clear h; intro b4 w h
   refine asg (.int .i64 s1.2) rfl ?_
   refine st_rnu (fun r => ex_store rfl rfl r) h ?_; clear h; intro w h
   refine wl_nil <| then_n <| seq_ ?_
   refine wp_jn (σ := Bool) (fun s4 l => ∃ j, l = upds j [(2, (Sl.v s1.1)), (3, (.int .i64 s1.2)), (4, (Ptr (⟨b4, 0, none⟩ : Addr))), (8, (Sl.v t0)), (9, (.int .i64 (t0.n : Int))), (10, (.int .i64 s1.2)), (22, (.bool s4))]) h ?_ ?_
   ·clear h; rintro s4 _ w ⟨j, rfl⟩ h
    by_cases hc6 : s4 = true
    ·rw [if_pos hc6] at h; refine cond_1 (b := s4) rfl hc6 ?_
     refine wp_exit <| then_e <| inb_e ?_
     exact then_n ⟨s1.1, _, rfl, mk_upds' (ae rfl (ae rfl (ae rfl (ae rfl ae0)))), h⟩
    ·rw [if_neg hc6] at h; refine cond_0 (b := s4) rfl (Bool.eq_false_iff.2 hc6) ?_
     refine wp_skip <| then_n <| seq_ <| region_ <| st_val (ex_fa fa48_5 (p := (⟨b4, 0, none⟩ : Addr)) rfl) ?_
     refine st_rn (fun r => ex_load rfl r) h ?_; clear h; intro t24 w h
     refine st_val (ex_len (s := t24) Try.underlying46 rfl) <| mv (.int .i64 0) rfl <| wl_nil <| then_n <| wp_block <| wp_lp (σ := Sl × Int) (fun s7 a => ∃ j, a = F 49 (upds j [(2, (Sl.v s7.1)), (3, (.int .i64 s1.2)), (4, (Ptr (⟨b4, 0, none⟩ : Addr))), (8, (Sl.v t0)), (9, (.int .i64 (t0.n : Int))), (10, (.int .i64 s1.2)), (24, (Sl.v t24)), (25, (.int .i64 (t24.n : Int))), (26, (.int .i64 s7.2))])) h (mk_upds (ae rfl (ae rfl (ae rfl (ae rfl (ae rfl (ae rfl (ae rfl (ae rfl (ae rfl ae0)))))))))) ?_
     clear h; rintro s7 _ w n7 ⟨j, rfl⟩ h
     refine seq_ <| region_ <| st_val (ex_lss (a := s7.2) (b := (t24.n : Int)) rfl rfl) <| wl_nil <| then_n <| seq_ ?_
     by_cases hc8 : s7.2 < (t24.n : Int)
     ·rw [if_pos hc8] at h; refine cond_1 (b := (decide (s7.2 < (t24.n : Int)))) rfl (decide_eq_true hc8) ?_
      refine wp_skip <| then_n ?_
      refine wp_jn (σ := Sl) (fun s9 l => ∃ j, l = upds j [(2, (Sl.v s9)), (3, (.int .i64 s1.2)), (4, (Ptr (⟨b4, 0, none⟩ : Addr))), (8, (Sl.v t0)), (9, (.int .i64 (t0.n : Int))), (10, (.int .i64 s1.2)), (24, (Sl.v t24)), (25, (.int .i64 (t24.n : Int))), (26, (.int .i64 s7.2))]) h ?_ ?_
      ·clear h; rintro s9 _ w ⟨j, rfl⟩ h
       refine region_ <| st_val (ex_add (a := s7.2) (b := 1) rfl rfl) <| mv (.int .i64 (IntKind.i64.wrap (s7.2 + 1))) rfl <| wl_nil ?_
       exact then_n ⟨(s9, (IntKind.i64.wrap (s7.2 + 1))), mk_upds (ae rfl (ae rfl (ae rfl (ae rfl (ae rfl (ae rfl (ae rfl (ae rfl (ae rfl ae0))))))))), h⟩
      ·clear h; intro k9 h
       refine wp_block <| seq_ <| region_ <| mv (.int .i64 s7.2) rfl ?_
       refine st_rnp (fun r => ex_indexAddr rfl rfl r) h ?_; clear h; intro t29 h
       refine st_rn (fun r => ex_load rfl r) h ?_; clear h; intro t30 w h
       refine st_new (f := (fun b => Ptr ⟨b, 0, none⟩)) (ex_allocN zero91 rfl) h ?_; clear h; intro b6 w h
       refine asg (.int .i64 s7.2) rfl ?_
       refine st_rnu (fun r => ex_store rfl rfl r) h ?_; clear h; intro w h
       refine wl_nil <| then_n <| seq_ <| region_ <| st_val (ex_fa fa48_5 (p := (⟨b4, 0, none⟩ : Addr)) rfl) ?_
       refine st_rn (fun r => ex_load rfl r) h ?_; clear h; intro t32 w h
       refine mv (.int .i64 s7.2) rfl ?_
       refine st_rnp (fun r => ex_slice rfl rfl rfl rfl r) h ?_; clear h; intro t34 h
       refine st_val (ex_makeFunc rfl rfl) ?_
       refine st_cal en121 rfl h ?_; clear h; intro t36 w h
       refine asg (.int .i64 t36) rfl <| wl_nil <| then_n <| seq_ <| region_ <| mv (.int .i64 t36) rfl <| st_val (ex_geq (a := t36) (b := 0) rfl rfl) <| wl_nil <| then_n ?_
       by_cases hc10 : 0 ≤ t36
       ·rw [if_pos hc10] at h; refine cond_1 (b := (decide (0 ≤ t36))) rfl (decide_eq_true hc10) ?_
        refine region_ <| mv (Sl.v s7.1) rfl <| mv (.int .i64 s1.2) rfl <| mv (.int .i64 s7.2) rfl <| mv (.int .i64 t36) rfl <| st_val (ex_build (a' := [(0, (.int .i64 s1.2)), (1, (.int .i64 s7.2)), (2, (.int .i64 t36))]) (v := TWarning.v (⟨s1.2, s7.2, t36⟩ : TWarning)) rfl (e_build Try.underlying177 zero177 rfl pl177 rfl _)) ?_
        refine st_new (f := (fun b => Sl.v ⟨some ⟨b, 0, none⟩, 1, 1⟩)) (ex_buildSlice (a' := [(0, (TWarning.v (⟨s1.2, s7.2, t36⟩ : TWarning)))]) rfl (e_buildSlice (cs := ((TWarning.cells (⟨s1.2, s7.2, t36⟩ : TWarning)))) Try.underlying78 info177 iz177 (by decide +kernel) (by decide +kernel) (by kernel_rfl) _)) h ?_; clear h; intro b44 w h
        refine st_rn (fun r => ex_builtin rfl (fun _ => rfl) r) h ?_; clear h; intro t45 w h
        refine asg (Sl.v t45) rfl <| wl_nil <| inb_n ?_
        exact then_n ⟨t45, _, rfl, mk_upds' (ae rfl (ae rfl (ae rfl (ae rfl (ae rfl (ae rfl (ae rfl (ae rfl (ae rfl ae0))))))))), h⟩
       ·rw [if_neg hc10] at h; refine cond_0 (b := (decide (0 ≤ t36))) rfl (decide_eq_false hc10) ?_
        refine wp_skip <| inb_n ?_
        exact then_n ⟨s7.1, _, rfl, mk_upds' (ae rfl (ae rfl (ae rfl (ae rfl (ae rfl (ae rfl (ae rfl (ae rfl (ae rfl ae0))))))))), h⟩
     ·rw [if_neg hc8] at h; refine cond_0 (b := (decide (s7.2 < (t24.n : Int)))) rfl (decide_eq_false hc8) ?_
      refine wp_exit <| then_e <| then_e <| inb_e <| inb_n ?_
      exact then_n ⟨s7.1, _, rfl, mk_upds' (ae rfl (ae rfl (ae rfl (ae rfl ae0)))), h⟩
   ·clear h; intro k4 h
    refine region_ <| st_val (ex_fa fa48_0 (p := (⟨b4, 0, none⟩ : Addr)) rfl) ?_
    refine st_rn (fun r => ex_load rfl r) h ?_; clear h; intro t16 w h
    refine st_val (ex_neq (a := t16) (b := 3) rfl rfl) <| mv (.bool (decide (t16 ≠ 3))) rfl ?_
    by_cases hc5 : t16 ≠ 3
    ·rw [if_pos hc5] at h
     refine sOn 18 (decide_eq_true hc5) rfl rfl <| st_val (ex_fa fa48_0 (p := (⟨b4, 0, none⟩ : Addr)) rfl) <| sOn 18 (decide_eq_true hc5) rfl rfl ?_
     refine st_rn (fun r => ex_load rfl r) h ?_; clear h; intro t20 w h
     refine sOn 18 (decide_eq_true hc5) rfl rfl <| st_val (ex_neq (a := t20) (b := 4) rfl rfl) <| st_val (ex_pick1 (b := (decide (t16 ≠ 3))) rfl (decide_eq_true hc5) (v := (.bool (decide (t20 ≠ 4)))) rfl) <| wl_nil ?_
     exact then_n ⟨(decide (t20 ≠ 4)), _, rfl, mk_upds' (ae rfl (ae rfl (ae rfl (ae rfl (ae rfl (ae rfl (ae rfl ae0))))))), h⟩
    ·rw [if_neg hc5] at h
     refine sOff 18 (decide_eq_false hc5) rfl rfl <| sOff 18 (decide_eq_false hc5) rfl rfl <| sOff 18 (decide_eq_false hc5) rfl rfl <| st_val (ex_pick0 (b := (decide (t16 ≠ 3))) rfl (decide_eq_false hc5) (v := (.bool false)) rfl) <| wl_nil ?_
     exact then_n ⟨false, _, rfl, mk_upds' (ae rfl (ae rfl (ae rfl (ae rfl (ae rfl (ae rfl (ae rfl ae0))))))), h⟩
 ·rw [if_neg hc2] at h; refine cond_0 (b := (decide (s1.2 < (t0.n : Int)))) rfl (decide_eq_false hc2) ?_
  refine wp_exit <| then_e <| then_e <| inb_e <| then_n <| seq_ <| region_ <| mv (Sl.v s1.1) rfl <| asg (Sl.v s1.1) rfl <| wl_nil ?_
  refine then_n <| wp_ret ?_
  refine ret_1 rfl rfl ⟨s1.1, rfl, h⟩

def f98 (t0 : Sl) (t1 : Value) (R : (Int) → World → Prop) (w : World) : Prop :=
 Lp (σ := Int) (fun s1 w n1 =>
  if s1 < (t0.n : Int) then
   RnP Try.prog Ptr (Instr.indexAt 22 (Sl.v t0) (.int .i64 s1)) fun t14 =>
   Rn Try.prog TResource.v (Instr.loadAt 48 (Ptr t14)) w fun t15 w =>
   CalV Try.prog Value.bool t1 #[(TResource.v t15)] w fun t16 w =>
   if t16 = true then
    R s1 w
   else
    n1 (IntKind.i64.wrap (s1 + 1)) w
  else
   R (-1) w
 ) 0 w
def f99 (t0 : ByteArray) (t1 : Addr) (t2 : Addr) (t3 : Addr) (R : (Sl) → World → Prop) (w : World) : Prop :=
 Rn Try.prog Value.map (Instr.loadAt 97 (Ptr t1)) w fun t15 w =>
 Rn Try.prog (fun x : Sl × Bool => Value.tuple #[(Sl.v x.1), (.bool x.2)]) (Instr.lookup 97 (.map t15) (.string t0) true) w fun t17 w =>
 if t17.2 = true then
  R t17.1 w
 else
  Rn Try.prog Value.map (Instr.loadAt 153 (Ptr t2)) w fun t22 w =>
  Rn Try.prog Sl.v (Instr.lookup 153 (.map t22) (.string t0) false) w fun t24 w =>
  Lp (σ := Sl × Int) (fun s2 w n2 =>
   if s2.2 < (t24.n : Int) then
    Jn (σ := Sl) (fun k4 =>
     RnP Try.prog Ptr (Instr.indexAt 45 (Sl.v t24) (.int .i64 s2.2)) fun t28 =>
     Rn Try.prog TTarget.v (Instr.loadAt 84 (Ptr t28)) w fun t29 w =>
     New 84 (TTarget.cells (⟨⟨#[]⟩, ⟨#[]⟩, 0⟩ : TTarget)) w fun b10 w =>
     RnU Try.prog (Instr.storeAt 84 (Ptr (⟨b10, 0, none⟩ : Addr)) (TTarget.v t29)) w fun w =>
     Rn Try.prog (Value.float .f64) (Instr.loadAt 30 (Ptr ((⟨b10, 0, none⟩ : Addr).add 2))) w fun t31 w =>
     Rn Try.prog (Value.float .f64) (Op.floatArith .quo .f64 t31 4636737291354636288) w fun t32 w =>
     Rn Try.prog Value.string (Instr.loadAt 9 (Ptr ((⟨b10, 0, none⟩ : Addr).add 0))) w fun t34 w =>
     if t34 ≠ (⟨#[]⟩ : ByteArray) then
      Rn Try.prog Value.string (Instr.loadAt 9 (Ptr ((⟨b10, 0, none⟩ : Addr).add 0))) w fun t38 w =>
      Cal Try.prog Sl.v 100 #[(Sl.v s2.1), (.string t38), (.float .f64 t32)] w fun t40 w =>
      k4 t40 w
     else
      Rn Try.prog (fun x : Value => x) (Instr.loadAt 154 (Ptr t3)) w fun t41 w =>
      Rn Try.prog Value.string (Instr.loadAt 9 (Ptr ((⟨b10, 0, none⟩ : Addr).add 1))) w fun t43 w =>
      CalV Try.prog Sl.v t41 #[(.string t43)] w fun t44 w =>
      Lp (σ := Sl × Int) (fun s6 w n6 =>
       if s6.2 < (t44.n : Int) then
        RnP Try.prog Ptr (Instr.indexAt 23 (Sl.v t44) (.int .i64 s6.2)) fun t48 =>
        Rn Try.prog TShare.v (Instr.loadAt 32 (Ptr t48)) w fun t49 w =>
        New 32 (TShare.cells (⟨⟨#[]⟩, 0⟩ : TShare)) w fun b13 w =>
        RnU Try.prog (Instr.storeAt 32 (Ptr (⟨b13, 0, none⟩ : Addr)) (TShare.v t49)) w fun w =>
        Rn Try.prog Value.string (Instr.loadAt 9 (Ptr ((⟨b13, 0, none⟩ : Addr).add 0))) w fun t52 w =>
        Rn Try.prog (Value.float .f64) (Instr.loadAt 30 (Ptr ((⟨b13, 0, none⟩ : Addr).add 1))) w fun t55 w =>
        Rn Try.prog (Value.float .f64) (Op.floatArith .mul .f64 t32 t55) w fun t56 w =>
        Cal Try.prog Sl.v 100 #[(Sl.v s6.1), (.string t52), (.float .f64 t56)] w fun t57 w =>
        n6 (t57, (IntKind.i64.wrap (s6.2 + 1))) w
       else
        k4 s6.1 w
      ) (s2.1, 0) w
    ) fun s4 w =>
     n2 (s4, (IntKind.i64.wrap (s2.2 + 1))) w
   else
    Rn Try.prog Value.map (Instr.loadAt 97 (Ptr t1)) w fun t60 w =>
    RnU Try.prog (Instr.mapUpdate 97 (.map t60) (.string t0) (Sl.v s2.1)) w fun w =>
    R s2.1 w
  ) (Sl.nil, 0) w
theorem c99 {t0 : ByteArray} {t1 : Addr} {t2 : Addr} {t3 : Addr} {R : (Sl) → World → Prop} {w : World} (h : f99 t0 t1 t2 t3 R w) :
  Cal Try.prog Sl.v 99 #[(.string t0), (Ptr t1), (Ptr t2), (Ptr t3)] w R := by
 unfold f99 at h
 refine calls_ Try.func99 Try.ntmps99 rfl rfl <| seq_ <| region_ <| asg (Sl.v Sl.nil) rfl <| wl_nil <| then_n <| seq_ <| seq_ <| region_ ?_
 refine st_rn (fun r => ex_load rfl r) h ?_; clear h; intro t15 w h
 refine mv (.string t0) rfl ?_
 refine st_rn (fun r => ex_lookup rfl rfl r) h ?_; clear h; intro t17 w h
 refine mv (.tuple #[(Sl.v t17.1), (.bool t17.2)]) rfl <| st_val (ex_extract (u := (.tuple #[(Sl.v t17.1), (.bool t17.2)])) rfl (v := (Sl.v t17.1)) rfl) <| st_val (ex_extract (u := (.tuple #[(Sl.v t17.1), (.bool t17.2)])) rfl (v := (.bool t17.2)) rfl) <| asg (Sl.v t17.1) rfl <| asg (.bool t17.2) rfl <| wl_nil <| then_n <| seq_ <| region_ <| mv (.bool t17.2) rfl ?_
 refine wl_nil <| then_n ?_
 by_cases hc1 : t17.2 = true
 ·rw [if_pos hc1] at h; refine cond_1 (b := t17.2) rfl hc1 ?_
  refine seq_ <| region_ <| mv (Sl.v t17.1) rfl <| asg (Sl.v t17.1) rfl <| wl_nil <| then_n <| wp_ret <| then_r ?_
  refine ret_1 rfl rfl ⟨t17.1, rfl, h⟩
 ·rw [if_neg hc1] at h; refine cond_0 (b := t17.2) rfl (Bool.eq_false_iff.2 hc1) ?_
  refine wp_skip <| then_n <| seq_ <| region_ <| asg (Sl.v Sl.nil) rfl <| wl_nil <| then_n <| seq_ <| seq_ <| region_ ?_
  refine st_rn (fun r => ex_load rfl r) h ?_; clear h; intro t22 w h
  refine mv (.string t0) rfl ?_
  refine st_rn (fun r => ex_lookup rfl rfl r) h ?_; clear h; intro t24 w h
  refine st_val (ex_len (s := t24) Try.underlying45 rfl) <| mv (.int .i64 0) rfl <| wl_nil <| then_n <| wp_block <| wp_lp (σ := Sl × Int) (fun s2 a => ∃ j, a = F 64 (upds j [(0, (.string t0)), (1, (Ptr t1)), (3, (Ptr t3)), (8, (Sl.v s2.1)), (24, (Sl.v t24)), (25, (.int .i64 (t24.n : Int))), (26, (.int .i64 s2.2))])) h (mk_upds (ae rfl (ae rfl (ae rfl (ae rfl (ae rfl (ae rfl (ae rfl ae0)))))))) ?_
  clear h; rintro s2 _ w n2 ⟨j, rfl⟩ h
  refine seq_ <| region_ <| st_val (ex_lss (a := s2.2) (b := (t24.n : Int)) rfl rfl) <| wl_nil <| then_n <| seq_ ?_
  by_cases hc3 : s2.2 < (t24.n : Int)
  ·rw [if_pos hc3] at h; refine cond_1 (b := (decide (s2.2 < (t24.n : Int)))) rfl (decide_eq_true hc3) ?_
   refine wp_skip <| then_n ?_
   refine wp_jn (σ := Sl) (fun s4 l => ∃ j, l = upds j [(0, (.string t0)), (1, (Ptr t1)), (3, (Ptr t3)), (8, (Sl.v s4)), (24, (Sl.v t24)), (25, (.int .i64 (t24.n : Int))), (26, (.int .i64 s2.2))]) h ?_ ?_
   ·clear h; rintro s4 _ w ⟨j, rfl⟩ h
    refine region_ <| st_val (ex_add (a := s2.2) (b := 1) rfl rfl) <| mv (.int .i64 (IntKind.i64.wrap (s2.2 + 1))) rfl <| wl_nil ?_
    exact then_n ⟨(s4, (IntKind.i64.wrap (s2.2 + 1))), mk_upds (ae rfl (ae rfl (ae rfl (ae rfl (ae rfl (ae rfl (ae rfl ae0))))))), h⟩
   ·clear h; intro k4 h
    refine wp_block <| seq_ <| region_ ?_
    refine st_rnp (fun r => ex_indexAddr rfl rfl r) h ?_; clear h; intro t28 h
    refine st_rn (fun r => ex_load rfl r) h ?_; clear h; intro t29 w h
    refine st_new (f := (fun b => Ptr ⟨b, 0, none⟩)) (ex_allocN zero84 rfl) h ?_; clear h; intro b10 w h
    refine st_rnu (fun r => ex_store rfl rfl r) h ?_; clear h; intro w h
    refine wl_nil <| then_n <| seq_ <| region_ <| st_val (ex_fa fa84_2 (p := (⟨b10, 0, none⟩ : Addr)) rfl) ?_
    refine st_rn (fun r => ex_load rfl r) h ?_; clear h; intro t31 w h
    refine st_rn (fun r => ex_quoF (a := t31) (b := 4636737291354636288) rfl rfl r) h ?_; clear h; intro t32 w h
    refine asg (.float .f64 t32) rfl <| wl_nil <| then_n <| seq_ <| seq_ <| region_ <| st_val (ex_fa fa84_0 (p := (⟨b10, 0, none⟩ : Addr)) rfl) ?_
    refine st_rn (fun r => ex_load rfl r) h ?_; clear h; intro t34 w h
    refine st_val (ex_neqS (a := t34) (b := (⟨#[]⟩ : ByteArray)) rfl rfl) <| wl_nil <| then_n ?_
    by_cases hc5 : t34 ≠ (⟨#[]⟩ : ByteArray)
    ·rw [if_pos hc5] at h; refine cond_1 (b := (decide (t34 ≠ (⟨#[]⟩ : ByteArray)))) rfl (decide_eq_true hc5) ?_
     refine seq_ <| region_ <| mv (Sl.v s2.1) rfl <| st_val (ex_fa fa84_0 (p := (⟨b10, 0, none⟩ : Addr)) rfl) ?_
     refine st_rn (fun r => ex_load rfl r) h ?_; clear h; intro t38 w h
     refine mv (.float .f64 t32) rfl ?_
     refine st_cal en100 rfl h ?_; clear h; intro t40 w h
     refine asg (Sl.v t40) rfl <| wl_nil <| then_n <| wp_exit <| then_e <| inb_e ?_
     exact then_n ⟨t40, _, rfl, mk_upds' (ae rfl (ae rfl (ae rfl (ae rfl (ae rfl (ae rfl (ae rfl ae0))))))), h⟩
    ·rw [if_neg hc5] at h; refine cond_0 (b := (decide (t34 ≠ (⟨#[]⟩ : ByteArray)))) rfl (decide_eq_false hc5) ?_
     refine wp_skip <| then_n <| seq_ <| region_ ?_
     refine st_rn (fun r => ex_load rfl r) h ?_; clear h; intro t41 w h
     refine st_val (ex_fa fa84_1 (p := (⟨b10, 0, none⟩ : Addr)) rfl) ?_
     refine st_rn (fun r => ex_load rfl r) h ?_; clear h; intro t43 w h
     refine st_calv rfl rfl h ?_; clear h; intro t44 w h
     refine st_val (ex_len (s := t44) Try.underlying23 rfl) <| mv (.int .i64 0) rfl <| wl_nil <| then_n <| wp_block <| wp_lp (σ := Sl × Int) (fun s6 a => ∃ j, a = F 64 (upds j [(0, (.string t0)), (1, (Ptr t1)), (3, (Ptr t3)), (8, (Sl.v s6.1)), (11, (.float .f64 t32)), (24, (Sl.v t24)), (25, (.int .i64 (t24.n : Int))), (26, (.int .i64 s2.2)), (44, (Sl.v t44)), (45, (.int .i64 (t44.n : Int))), (46, (.int .i64 s6.2))])) h (mk_upds (ae rfl (ae rfl (ae rfl (ae rfl (ae rfl (ae rfl (ae rfl (ae rfl (ae rfl (ae rfl (ae rfl ae0)))))))))))) ?_
     clear h; rintro s6 _ w n6 ⟨j, rfl⟩ h
     refine seq_ <| region_ <| st_val (ex_lss (a := s6.2) (b := (t44.n : Int)) rfl rfl) <| wl_nil <| then_n <| seq_ ?_
     by_cases hc7 : s6.2 < (t44.n : Int)
     ·rw [if_pos hc7] at h; refine cond_1 (b := (decide (s6.2 < (t44.n : Int)))) rfl (decide_eq_true hc7) ?_
      refine wp_skip <| then_n <| seq_ <| wp_block <| seq_ <| region_ ?_
      refine st_rnp (fun r => ex_indexAddr rfl rfl r) h ?_; clear h; intro t48 h
      refine st_rn (fun r => ex_load rfl r) h ?_; clear h; intro t49 w h
      refine st_new (f := (fun b => Ptr ⟨b, 0, none⟩)) (ex_allocN zero32 rfl) h ?_; clear h; intro b13 w h
      refine st_rnu (fun r => ex_store rfl rfl r) h ?_; clear h; intro w h
      refine wl_nil <| then_n <| region_ <| mv (Sl.v s6.1) rfl <| st_val (ex_fa fa32_0 (p := (⟨b13, 0, none⟩ : Addr)) rfl) ?_
      refine st_rn (fun r => ex_load rfl r) h ?_; clear h; intro t52 w h
      refine mv (.float .f64 t32) rfl <| st_val (ex_fa fa32_1 (p := (⟨b13, 0, none⟩ : Addr)) rfl) ?_
      refine st_rn (fun r => ex_load rfl r) h ?_; clear h; intro t55 w h
      refine st_rn (fun r => ex_mulF (a := t32) (b := t55) rfl rfl r) h ?_; clear h; intro t56 w h
      refine st_cal en100 rfl h ?_; clear h; intro t57 w h
      refine asg (Sl.v t57) rfl <| wl_nil <| inb_n <| then_n <| region_ <| st_val (ex_add (a := s6.2) (b := 1) rfl rfl) <| mv (.int .i64 (IntKind.i64.wrap (s6.2 + 1))) rfl <| wl_nil ?_
      exact then_n ⟨(t57, (IntKind.i64.wrap (s6.2 + 1))), mk_upds (ae rfl (ae rfl (ae rfl (ae rfl (ae rfl (ae rfl (ae rfl (ae rfl (ae rfl (ae rfl (ae rfl ae0))))))))))), h⟩
     ·rw [if_neg hc7] at h; refine cond_0 (b := (decide (s6.2 < (t44.n : Int)))) rfl (decide_eq_false hc7) ?_
      refine wp_exit <| then_e <| then_e <| inb_e <| inb_n ?_
      exact then_n ⟨s6.1, _, rfl, mk_upds' (ae rfl (ae rfl (ae rfl (ae rfl (ae rfl (ae rfl (ae rfl ae0))))))), h⟩
  ·rw [if_neg hc3] at h; refine cond_0 (b := (decide (s2.2 < (t24.n : Int)))) rfl (decide_eq_false hc3) ?_
   refine wp_exit <| then_e <| then_e <| inb_e <| then_n <| seq_ <| region_ ?_
   refine st_rn (fun r => ex_load rfl r) h ?_; clear h; intro t60 w h
   refine mv (.string t0) rfl <| mv (Sl.v s2.1) rfl ?_
   refine st_rnu (fun r => ex_mapUpdate rfl rfl rfl r) h ?_; clear h; intro w h
   refine wl_nil <| then_n <| seq_ <| region_ <| mv (Sl.v s2.1) rfl <| asg (Sl.v s2.1) rfl <| wl_nil <| then_n <| wp_ret ?_
   refine ret_1 rfl rfl ⟨s2.1, rfl, h⟩

def f100 (t0 : Sl) (t1 : ByteArray) (t2 : Nat) (R : (Sl) → World → Prop) (w : World) : Prop :=
 New 9 [(.string t1)] w fun b4 w =>
 Cal Try.prog (Value.int .i64) 124 #[(Sl.v t0), (Value.func (.func 125) #[] #[(Ptr (⟨b4, 0, none⟩ : Addr))])] w fun t10 w =>
 Jn (σ := Sl × Int) (fun k1 =>
  if t10 < 0 then
   Rn Try.prog Value.string (Instr.loadAt 9 (Ptr (⟨b4, 0, none⟩ : Addr))) w fun t16 w =>
   New 32 ((TShare.cells (⟨t16, 0⟩ : TShare))) w fun b18 w =>
   Rn Try.prog Sl.v (Builtin.append_ #[23, 23] 23 #[(Sl.v t0), (Sl.v (⟨some ⟨b18, 0, none⟩, 1, 1⟩ : Sl))]) w fun t19 w =>
   k1 (t19, (t0.n : Int)) w
  else
   k1 (t0, t10) w
 ) fun s1 w =>
  RnP Try.prog Ptr (Instr.indexAt 23 (Sl.v s1.1) (.int .i64 s1.2)) fun t22 =>
  Rn Try.prog (Value.float .f64) (Instr.loadAt 30 (Ptr (t22.add 1))) w fun t24 w =>
  Rn Try.prog (Value.float .f64) (Op.floatArith .add .f64 t24 t2) w fun t26 w =>
  RnP Try.prog Ptr (Instr.indexAt 23 (Sl.v s1.1) (.int .i64 s1.2)) fun t27 =>
  RnU Try.prog (Instr.storeAt 30 (Ptr (t27.add 1)) (.float .f64 t26)) w fun w =>
  R s1.1 w
theorem c100 {t0 : Sl} {t1 : ByteArray} {t2 : Nat} {R : (Sl) → World → Prop} {w : World} (h : f100 t0 t1 t2 R w) :
  Cal Try.prog Sl.v 100 #[(Sl.v t0), (.string t1), (.float .f64 t2)] w R := by
 unfold f100 at h
 refine calls_ Try.func100 Try.ntmps100 rfl rfl <| seq_ <| region_ ?_
 refine st_new (f := (fun b => Ptr ⟨b, 0, none⟩)) (ex_boxN rfl rfl) h ?_; clear h; intro b4 w h
 refine asg (Sl.v Sl.nil) rfl <| wl_nil <| then_n <| seq_ <| region_ <| mv (Sl.v t0) rfl <| st_val (ex_makeFunc rfl rfl) ?_
 refine st_cal en124 rfl h ?_; clear h; intro t10 w h
 refine asg (.int .i64 t10) rfl <| wl_nil <| then_n ?_
 refine wp_jn (σ := Sl × Int) (fun s1 l => ∃ j, l = upds j [(0, (Sl.v s1.1)), (2, (.float .f64 t2)), (7, (.int .i64 s1.2))]) h ?_ ?_
 ·clear h; rintro s1 _ w ⟨j, rfl⟩ h
  refine seq_ <| region_ <| mv (Sl.v s1.1) rfl <| mv (.int .i64 s1.2) rfl ?_
  refine st_rnp (fun r => ex_indexAddr rfl rfl r) h ?_; clear h; intro t22 h
  refine st_val (ex_fa fa32_1 (p := t22) rfl) ?_
  refine st_rn (fun r => ex_load rfl r) h ?_; clear h; intro t24 w h
  refine mv (.float .f64 t2) rfl ?_
  refine st_rn (fun r => ex_addF (a := t24) (b := t2) rfl rfl r) h ?_; clear h; intro t26 w h
  refine st_rnp (fun r => ex_indexAddr rfl rfl r) h ?_; clear h; intro t27 h
  refine st_val (ex_fa fa32_1 (p := t27) rfl) ?_
  refine st_rnu (fun r => ex_store rfl rfl r) h ?_; clear h; intro w h
  refine wl_nil <| then_n <| seq_ <| region_ <| mv (Sl.v s1.1) rfl <| asg (Sl.v s1.1) rfl <| wl_nil <| then_n <| wp_ret ?_
  refine ret_1 rfl rfl ⟨s1.1, rfl, h⟩
 ·clear h; intro k1 h
  refine seq_ <| region_ <| mv (.int .i64 t10) rfl <| st_val (ex_lss (a := t10) (b := 0) rfl rfl) <| wl_nil <| then_n ?_
  by_cases hc2 : t10 < 0
  ·rw [if_pos hc2] at h; refine cond_1 (b := (decide (t10 < 0))) rfl (decide_eq_true hc2) ?_
   refine seq_ <| region_ <| mv (Sl.v t0) rfl <| st_val (ex_len (s := t0) Try.underlying23 rfl) <| asg (.int .i64 (t0.n : Int)) rfl <| wl_nil <| then_n <| region_ <| mv (Sl.v t0) rfl ?_
   refine st_rn (fun r => ex_load rfl r) h ?_; clear h; intro t16 w h
   refine st_val (ex_build (a' := [(0, (.string t16))]) (v := TShare.v (⟨t16, 0⟩ : TShare)) rfl (e_build Try.underlying32 zero32 rfl pl32 rfl _)) ?_
   refine st_new (f := (fun b => Sl.v ⟨some ⟨b, 0, none⟩, 1, 1⟩)) (ex_buildSlice (a' := [(0, (TShare.v (⟨t16, 0⟩ : TShare)))]) rfl (e_buildSlice (cs := ((TShare.cells (⟨t16, 0⟩ : TShare)))) Try.underlying23 info32 iz32 (by decide +kernel) (by decide +kernel) (by kernel_rfl) _)) h ?_; clear h; intro b18 w h
   refine st_rn (fun r => ex_builtin rfl (fun _ => rfl) r) h ?_; clear h; intro t19 w h
   refine asg (Sl.v t19) rfl <| wl_nil ?_
   exact then_n ⟨(t19, (t0.n : Int)), _, rfl, mk_upds' (ae rfl (ae rfl (ae rfl ae0))), h⟩
  ·rw [if_neg hc2] at h; refine cond_0 (b := (decide (t10 < 0))) rfl (decide_eq_false hc2) ?_
   refine wp_skip ?_
   exact then_n ⟨(t0, t10), _, rfl, mk_upds' (ae rfl (ae rfl (ae rfl ae0))), h⟩

def f101 (t0 : Sl) (t1 : TResource) (R : (Int) → World → Prop) (w : World) : Prop :=
 New 48 (TResource.cells t1) w fun b3 w =>
 Jn (σ := Unit) (fun k1 =>
  Rn Try.prog (Value.int .i64) (Instr.loadAt 3 (Ptr ((⟨b3, 0, none⟩ : Addr).add 0))) w fun t9 w =>
  if t9 = 2 then
   Lp (σ := Int) (fun s3 w n3 =>
    Rn Try.prog Sl.v (Instr.loadAt 45 (Ptr ((⟨b3, 0, none⟩ : Addr).add 3))) w fun t13 w =>
    if s3 < (t13.n : Int) then
     Rn Try.prog Sl.v (Instr.loadAt 45 (Ptr ((⟨b3, 0, none⟩ : Addr).add 3))) w fun t19 w =>
     RnP Try.prog Ptr (Instr.indexAt 45 (Sl.v t19) (.int .i64 s3)) fun t21 =>
     Rn Try.prog TTarget.v (Instr.loadAt 84 (Ptr t21)) w fun t22 w =>
     New 84 (TTarget.cells (⟨⟨#[]⟩, ⟨#[]⟩, 0⟩ : TTarget)) w fun b6 w =>
     RnU Try.prog (Instr.storeAt 84 (Ptr (⟨b6, 0, none⟩ : Addr)) (TTarget.v t22)) w fun w =>
     Jn (σ := Bool) (fun k5 =>
      Rn Try.prog Value.string (Instr.loadAt 9 (Ptr ((⟨b6, 0, none⟩ : Addr).add 0))) w fun t24 w =>
      if t24 ≠ (⟨#[]⟩ : ByteArray) then
       Rn Try.prog Value.string (Instr.loadAt 9 (Ptr ((⟨b6, 0, none⟩ : Addr).add 0))) w fun t29 w =>
       Cal Try.prog (Value.int .i64) 66 #[(Sl.v t0), (.int .i64 1), (.string t29)] w fun t30 w =>
       if t30 < 0 then
        k5 true w
       else
        Rn Try.prog Value.string (Instr.loadAt 9 (Ptr ((⟨b6, 0, none⟩ : Addr).add 0))) w fun t35 w =>
        if t35 = (⟨#[]⟩ : ByteArray) then
         Rn Try.prog Value.string (Instr.loadAt 9 (Ptr ((⟨b6, 0, none⟩ : Addr).add 1))) w fun t40 w =>
         Cal Try.prog (Value.int .i64) 66 #[(Sl.v t0), (.int .i64 2), (.string t40)] w fun t41 w =>
         k5 (decide (t41 < 0)) w
        else
         k5 false w
      else
       Rn Try.prog Value.string (Instr.loadAt 9 (Ptr ((⟨b6, 0, none⟩ : Addr).add 0))) w fun t35_1 w =>
       if t35_1 = (⟨#[]⟩ : ByteArray) then
        Rn Try.prog Value.string (Instr.loadAt 9 (Ptr ((⟨b6, 0, none⟩ : Addr).add 1))) w fun t40_1 w =>
        Cal Try.prog (Value.int .i64) 66 #[(Sl.v t0), (.int .i64 2), (.string t40_1)] w fun t41_1 w =>
        k5 (decide (t41_1 < 0)) w
       else
        k5 false w
     ) fun s5 w =>
      if s5 = true then
       R (IntKind.i64.wrap (s3 + 1)) w
      else
       n3 (IntKind.i64.wrap (s3 + 1)) w
    else
     k1 () w
   ) 0 w
  else
   k1 () w
 ) fun s1 w =>
  Jn (σ := Unit) (fun k11 =>
   Rn Try.prog (Value.int .i64) (Instr.loadAt 3 (Ptr ((⟨b3, 0, none⟩ : Addr).add 0))) w fun t48 w =>
   if t48 = 3 then
    Lp (σ := Int) (fun s13 w n13 =>
     Rn Try.prog Sl.v (Instr.loadAt 46 (Ptr ((⟨b3, 0, none⟩ : Addr).add 5))) w fun t52 w =>
     if s13 < (t52.n : Int) then
      Rn Try.prog Sl.v (Instr.loadAt 46 (Ptr ((⟨b3, 0, none⟩ : Addr).add 5))) w fun t59 w =>
      RnP Try.prog Ptr (Instr.indexAt 46 (Sl.v t59) (.int .i64 s13)) fun t61 =>
      Rn Try.prog Value.string (Instr.loadAt 9 (Ptr (t61.add 2))) w fun t63 w =>
      Cal Try.prog (Value.int .i64) 66 #[(Sl.v t0), (.int .i64 2), (.string t63)] w fun t64 w =>
      if t64 < 0 then
       R (IntKind.i64.wrap (s13 + 1)) w
      else
       n13 (IntKind.i64.wrap (s13 + 1)) w
     else
      k11 () w
    ) 0 w
   else
    k11 () w
  ) fun s11 w =>
   Jn (σ := Bool) (fun k16 =>
    Rn Try.prog (Value.int .i64) (Instr.loadAt 3 (Ptr ((⟨b3, 0, none⟩ : Addr).add 0))) w fun t69 w =>
    if t69 = 4 then
     Rn Try.prog Value.string (Instr.loadAt 9 (Ptr ((⟨b3, 0, none⟩ : Addr).add 6))) w fun t74 w =>
     Cal Try.prog (Value.int .i64) 66 #[(Sl.v t0), (.int .i64 3), (.string t74)] w fun t75 w =>
     k16 (decide (t75 < 0)) w
    else
     k16 false w
   ) fun s16 w =>
    if s16 = true then
     R 0 w
    else
     R (-1) w
end Go.Proofs.Ytdoeegfcmbcbkaa.Tr


namespace Go.Proofs.Ytdoeegfcmbcbkaa.Tr
open Go Go.Eng
set_option linter.unusedVariables false
set_option maxRecDepth 100000
set_option maxHeartbeats 4000000
def f102 (t0 : Sl) (R : (Sl) → World → Prop) (w : World) : Prop :=
 Rn Try.prog Sl.v (Instr.makeSlice 77 (.int .i64 (t0.n : Int)) (.int .i64 (t0.n : Int))) w fun t13 w =>
 Lp (σ := Sl × Int) (fun s1 w n1 =>
  if s1.2 < 8 then
   Rn Try.prog Sl.v (Instr.makeSlice 77 (.int .i64 (t0.n : Int)) (.int .i64 (t0.n : Int))) w fun t20 w =>
   Lp (σ := Int) (fun s3 w n3 =>
    if s3 < (t0.n : Int) then
     Jn (σ := Unit) (fun k5 =>
      RnP Try.prog Ptr (Instr.indexAt 22 (Sl.v t0) (.int .i64 s3)) fun t29 =>
      Rn Try.prog (Value.int .i64) (Instr.loadAt 3 (Ptr (t29.add 0))) w fun t31 w =>
      if t31 ≠ 2 then
       k5 () w
      else
       Lp (σ := Int × Int) (fun s7 w n7 =>
        Jn (σ := Bool) (fun k8 =>
         RnP Try.prog Ptr (Instr.indexAt 22 (Sl.v t0) (.int .i64 s3)) fun t36 =>
         Rn Try.prog Sl.v (Instr.loadAt 45 (Ptr (t36.add 3))) w fun t38 w =>
         if s7.2 < (t38.n : Int) then
          k8 (decide (0 < s7.1)) w
         else
          k8 false w
        ) fun s8 w =>
         if s8 = true then
          Jn (σ := Int) (fun k11 =>
           RnP Try.prog Ptr (Instr.indexAt 22 (Sl.v t0) (.int .i64 s3)) fun t49 =>
           Rn Try.prog Sl.v (Instr.loadAt 45 (Ptr (t49.add 3))) w fun t51 w =>
           RnP Try.prog Ptr (Instr.indexAt 45 (Sl.v t51) (.int .i64 s7.2)) fun t53 =>
           Rn Try.prog TTarget.v (Instr.loadAt 84 (Ptr t53)) w fun t54 w =>
           New 84 (TTarget.cells (⟨⟨#[]⟩, ⟨#[]⟩, 0⟩ : TTarget)) w fun b9 w =>
           RnU Try.prog (Instr.storeAt 84 (Ptr (⟨b9, 0, none⟩ : Addr)) (TTarget.v t54)) w fun w =>
           Rn Try.prog Value.string (Instr.loadAt 9 (Ptr ((⟨b9, 0, none⟩ : Addr).add 0))) w fun t56 w =>
           if t56 ≠ (⟨#[]⟩ : ByteArray) then
            k11 s7.1 w
           else
            Rn Try.prog Value.string (Instr.loadAt 9 (Ptr ((⟨b9, 0, none⟩ : Addr).add 1))) w fun t60 w =>
            Cal Try.prog (Value.int .i64) 66 #[(Sl.v t0), (.int .i64 2), (.string t60)] w fun t61 w =>
            Jn (σ := Bool) (fun k13 =>
             if t61 < 0 then
              k13 true w
             else
              RnP Try.prog Ptr (Instr.indexAt 77 (Sl.v s1.1) (.int .i64 t61)) fun t67 =>
              Rn Try.prog (Value.int .i64) (Instr.loadAt 3 (Ptr t67)) w fun t68 w =>
              k13 (decide (t68 = 0)) w
            ) fun s13 w =>
             if s13 = true then
              k11 0 w
             else
              RnP Try.prog Ptr (Instr.indexAt 77 (Sl.v s1.1) (.int .i64 t61)) fun t73 =>
              Rn Try.prog (Value.int .i64) (Instr.loadAt 3 (Ptr t73)) w fun t74 w =>
              if s7.1 < (IntKind.i64.wrap (t74 + 1)) then
               RnP Try.prog Ptr (Instr.indexAt 77 (Sl.v s1.1) (.int .i64 t61)) fun t80 =>
               Rn Try.prog (Value.int .i64) (Instr.loadAt 3 (Ptr t80)) w fun t81 w =>
               k11 (IntKind.i64.wrap (t81 + 1)) w
              else
               k11 s7.1 w
          ) fun s11 w =>
           n7 (s11, (IntKind.i64.wrap (s7.2 + 1))) w
         else
          RnP Try.prog Ptr (Instr.indexAt 77 (Sl.v t20) (.int .i64 s3)) fun t86 =>
          RnU Try.prog (Instr.storeAt 3 (Ptr t86) (.int .i64 s7.1)) w fun w =>
          k5 () w
       ) (1, 0) w
     ) fun s5 w =>
      n3 (IntKind.i64.wrap (s3 + 1)) w
    else
     n1 (t20, (IntKind.i64.wrap (s1.2 + 1))) w
   ) 0 w
  else
   R s1.1 w
 ) (t13, 0) w
def f103 (t0 : ByteArray) (t1 : ByteArray) (R : (Bool) → World → Prop) (w : World) : Prop :=
 Jn (σ := Bool) (fun k1 =>
  Cal Try.prog Value.bool 126 #[(.string t0)] w fun t10 w =>
  if (!t10) = true then
   k1 true w
  else
   Cal Try.prog Value.bool 126 #[(.string t1)] w fun t14 w =>
   k1 (!t14) w
 ) fun s1 w =>
  if s1 = true then
   R false w
  else
   Cal Try.prog (fun x : ByteArray × Bool => Value.tuple #[(.string x.1), (.bool x.2)]) 127 #[(.string t0)] w fun t19 w =>
   Cal Try.prog (fun x : ByteArray × Bool => Value.tuple #[(.string x.1), (.bool x.2)]) 127 #[(.string t1)] w fun t24 w =>
   Jn (σ := Bool) (fun k4 =>
    if t0 = t1 then
     k4 true w
    else
     if t19.2 = true then
      Cal Try.prog Value.bool 128 #[(.string t24.1), (.string t19.1)] w fun t35 w =>
      k4 t35 w
     else
      k4 false w
   ) fun s4 w =>
    R s4 w
def f104 (t0 : (Option Addr)) (t1 : TResource) (R : (Sl × Bool) → World → Prop) (w : World) : Prop :=
 New 48 (TResource.cells t1) w fun b3 w =>
 Lp (σ := Sl × Int) (fun s1 w n1 =>
  Rn Try.prog Sl.v (Instr.loadAt 45 (Ptr ((⟨b3, 0, none⟩ : Addr).add 3))) w fun t14 w =>
  if s1.2 < (t14.n : Int) then
   Jn (σ := Sl) (fun k3 =>
    Rn Try.prog Sl.v (Instr.loadAt 45 (Ptr ((⟨b3, 0, none⟩ : Addr).add 3))) w fun t20 w =>
    RnP Try.prog Ptr (Instr.indexAt 45 (Sl.v t20) (.int .i64 s1.2)) fun t22 =>
    Rn Try.prog (Value.float .f64) (Instr.loadAt 30 (Ptr (t22.add 2))) w fun t24 w =>
    Rn Try.prog (Value.float .f64) (Op.floatArith .quo .f64 t24 4636737291354636288) w fun t25 w =>
    Rn Try.prog Sl.v (Instr.loadAt 45 (Ptr ((⟨b3, 0, none⟩ : Addr).add 3))) w fun t27 w =>
    RnP Try.prog Ptr (Instr.indexAt 45 (Sl.v t27) (.int .i64 s1.2)) fun t29 =>
    Rn Try.prog Value.string (Instr.loadAt 9 (Ptr (t29.add 0))) w fun t31 w =>
    if t31 ≠ (⟨#[]⟩ : ByteArray) then
     Rn Try.prog Sl.v (Instr.loadAt 45 (Ptr ((⟨b3, 0, none⟩ : Addr).add 3))) w fun t35 w =>
     RnP Try.prog Ptr (Instr.indexAt 45 (Sl.v t35) (.int .i64 s1.2)) fun t37 =>
     Rn Try.prog Value.string (Instr.loadAt 9 (Ptr (t37.add 0))) w fun t39 w =>
     Cal Try.prog Sl.v 129 #[(Sl.v s1.1), (.string t39), (.float .f64 t25)] w fun t41 w =>
     k3 t41 w
    else
     Rn Try.prog Sl.v (Instr.loadAt 45 (Ptr ((⟨b3, 0, none⟩ : Addr).add 3))) w fun t44 w =>
     RnP Try.prog Ptr (Instr.indexAt 45 (Sl.v t44) (.int .i64 s1.2)) fun t46 =>
     Rn Try.prog Value.string (Instr.loadAt 9 (Ptr (t46.add 1))) w fun t48 w =>
     Cal Try.prog (Value.int .i64) 60 #[(.pointer t0), (.string t48)] w fun t49 w =>
     if t49 < 0 then
      R (Sl.nil, false) w
     else
      Lp (σ := Sl × Int) (fun s6 w n6 =>
       NotNil t0 fun t54 =>
       Rn Try.prog Sl.v (Instr.loadAt 107 (Ptr (t54.add 1))) w fun t56 w =>
       RnP Try.prog Ptr (Instr.indexAt 107 (Sl.v t56) (.int .i64 t49)) fun t58 =>
       Rn Try.prog Sl.v (Instr.loadAt 23 (Ptr t58)) w fun t59 w =>
       if s6.2 < (t59.n : Int) then
        NotNil t0 fun t66 =>
        Rn Try.prog Sl.v (Instr.loadAt 107 (Ptr (t66.add 1))) w fun t68 w =>
        RnP Try.prog Ptr (Instr.indexAt 107 (Sl.v t68) (.int .i64 t49)) fun t70 =>
        Rn Try.prog Sl.v (Instr.loadAt 23 (Ptr t70)) w fun t71 w =>
        RnP Try.prog Ptr (Instr.indexAt 23 (Sl.v t71) (.int .i64 s6.2)) fun t73 =>
        Rn Try.prog (Value.float .f64) (Instr.loadAt 30 (Ptr (t73.add 1))) w fun t75 w =>
        Rn Try.prog (Value.float .f64) (Op.floatArith .mul .f64 t25 t75) w fun t76 w =>
        NotNil t0 fun t79 =>
        Rn Try.prog Sl.v (Instr.loadAt 107 (Ptr (t79.add 1))) w fun t81 w =>
        RnP Try.prog Ptr (Instr.indexAt 107 (Sl.v t81) (.int .i64 t49)) fun t83 =>
        Rn Try.prog Sl.v (Instr.loadAt 23 (Ptr t83)) w fun t84 w =>
        RnP Try.prog Ptr (Instr.indexAt 23 (Sl.v t84) (.int .i64 s6.2)) fun t86 =>
        Rn Try.prog Value.string (Instr.loadAt 9 (Ptr (t86.add 0))) w fun t88 w =>
        Cal Try.prog Sl.v 129 #[(Sl.v s6.1), (.string t88), (.float .f64 t76)] w fun t90 w =>
        n6 (t90, (IntKind.i64.wrap (s6.2 + 1))) w
       else
        k3 s6.1 w
      ) (s1.1, 0) w
   ) fun s3 w =>
    n1 (s3, (IntKind.i64.wrap (s1.2 + 1))) w
  else
   R (s1.1, true) w
 ) (Sl.nil, 0) w
def f106 (t0 : Sl) (t1 : Sl) (R : (Bool) → World → Prop) (w : World) : Prop :=
 if (t0.n : Int) ≠ (t1.n : Int) then
  R false w
 else
  Lp (σ := Int) (fun s2 w n2 =>
   if s2 < (t0.n : Int) then
    Jn (σ := Bool) (fun k4 =>
     Dr w fun w5 w =>
      RnP Try.prog Ptr (Instr.indexAt 45 (Sl.v t0) (.int .i64 s2)) fun t19 =>
      RnL Try.prog Value.string (Instr.loadAt 9 (Ptr (t19.add 0))) w5 fun t21 =>
      RnP Try.prog Ptr (Instr.indexAt 45 (Sl.v t1) (.int .i64 s2)) fun t24 =>
      RnL Try.prog Value.string (Instr.loadAt 9 (Ptr (t24.add 0))) w5 fun t26 =>
      if t21 ≠ t26 then
       k4 true w
      else
       RnP Try.prog Ptr (Instr.indexAt 45 (Sl.v t0) (.int .i64 s2)) fun t31 =>
       RnL Try.prog Value.string (Instr.loadAt 9 (Ptr (t31.add 1))) w5 fun t33 =>
       RnP Try.prog Ptr (Instr.indexAt 45 (Sl.v t1) (.int .i64 s2)) fun t36 =>
       RnL Try.prog Value.string (Instr.loadAt 9 (Ptr (t36.add 1))) w5 fun t38 =>
       if t33 ≠ t38 then
        k4 true w
       else
        RnP Try.prog Ptr (Instr.indexAt 45 (Sl.v t0) (.int .i64 s2)) fun t44 =>
        RnL Try.prog (Value.float .f64) (Instr.loadAt 30 (Ptr (t44.add 2))) w5 fun t46 =>
        RnP Try.prog Ptr (Instr.indexAt 45 (Sl.v t1) (.int .i64 s2)) fun t49 =>
        RnL Try.prog (Value.float .f64) (Instr.loadAt 30 (Ptr (t49.add 2))) w5 fun t51 =>
        Cal Try.prog Value.bool 61 #[(.float .f64 t46), (.float .f64 t51)] w fun t52 w =>
        k4 (!t52) w
    ) fun s4 w =>
     if s4 = true then
      R false w
     else
      n2 (IntKind.i64.wrap (s2 + 1)) w
   else
    R true w
  ) 0 w
def f107 (t0 : Sl) (t1 : Sl) (R : (Bool) → World → Prop) (w : World) : Prop :=
 if (t0.n : Int) ≠ (t1.n : Int) then
  R false w
 else
  Lp (σ := Int) (fun s2 w n2 =>
   if s2 < (t0.n : Int) then
    Dr w fun w4 w =>
     RnP Try.prog Ptr (Instr.indexAt 46 (Sl.v t0) (.int .i64 s2)) fun t19 =>
     RnL Try.prog TRule.v (Instr.loadAt 91 (Ptr t19)) w4 fun t20 =>
     RnP Try.prog Ptr (Instr.indexAt 46 (Sl.v t1) (.int .i64 s2)) fun t23 =>
     RnL Try.prog TRule.v (Instr.loadAt 91 (Ptr t23)) w4 fun t24 =>
     RnP Try.prog Value.bool (do pure (Value.bool (!(← Op.equal 91 (TRule.v t20) (TRule.v t24))))) fun t25 =>
     if t25 = true then
      R false w
     else
      n2 (IntKind.i64.wrap (s2 + 1)) w
   else
    R true w
  ) 0 w
end Go.Proofs.Ytdoeegfcmbcbkaa.Tr


namespace Go.Proofs.Ytdoeegfcmbcbkaa.Tr
open Go Go.Eng
set_option linter.unusedVariables false
set_option maxRecDepth 100000
set_option maxHeartbeats 4000000
def f111 (t0 : TKey) (t1 : TKey) (R : (Int) → World → Prop) (w : World) : Prop :=
 New 113 (TKey.cells t0) w fun b2 w =>
 New 113 (TKey.cells t1) w fun b3 w =>
 Rn Try.prog (Value.int .i64) (Instr.loadAt 3 (Ptr ((⟨b2, 0, none⟩ : Addr).add 0))) w fun t7 w =>
 Rn Try.prog (Value.int .i64) (Instr.loadAt 3 (Ptr ((⟨b3, 0, none⟩ : Addr).add 0))) w fun t9 w =>
 Cal Try.prog (Value.int .i64) 87 #[(.int .i64 t7), (.int .i64 t9)] w fun t10 w =>
 if t10 ≠ 0 then
  R t10 w
 else
  Rn Try.prog Value.string (Instr.loadAt 9 (Ptr ((⟨b2, 0, none⟩ : Addr).add 1))) w fun t15 w =>
  Rn Try.prog Value.string (Instr.loadAt 9 (Ptr ((⟨b3, 0, none⟩ : Addr).add 1))) w fun t17 w =>
  Cal Try.prog (Value.int .i64) 134 #[(.string t15), (.string t17)] w fun t18 w =>
  R t18 w
theorem c111 {t0 : TKey} {t1 : TKey} {R : (Int) → World → Prop} {w : World} (h : f111 t0 t1 R w) :
  Cal Try.prog (Value.int .i64) 111 #[(TKey.v t0), (TKey.v t1)] w R := by
 unfold f111 at h
 refine calls_ Try.func111 Try.ntmps111 rfl rfl <| seq_ <| region_ ?_
 refine st_new (f := (fun b => Ptr ⟨b, 0, none⟩)) (ex_boxN rfl rfl) h ?_; clear h; intro b2 w h
 refine st_new (f := (fun b => Ptr ⟨b, 0, none⟩)) (ex_boxN rfl rfl) h ?_; clear h; intro b3 w h
 refine asg (.int .i64 0) rfl <| wl_nil <| then_n <| seq_ <| seq_ <| region_ <| st_val (ex_fa fa113_0 (p := (⟨b2, 0, none⟩ : Addr)) rfl) ?_
 refine st_rn (fun r => ex_load rfl r) h ?_; clear h; intro t7 w h
 refine st_val (ex_fa fa113_0 (p := (⟨b3, 0, none⟩ : Addr)) rfl) ?_
 refine st_rn (fun r => ex_load rfl r) h ?_; clear h; intro t9 w h
 refine st_cal en87 rfl h ?_; clear h; intro t10 w h
 refine asg (.int .i64 t10) rfl <| wl_nil <| then_n <| seq_ <| region_ <| mv (.int .i64 t10) rfl <| st_val (ex_neq (a := t10) (b := 0) rfl rfl) <| wl_nil <| then_n ?_
 by_cases hc1 : t10 ≠ 0
 ·rw [if_pos hc1] at h; refine cond_1 (b := (decide (t10 ≠ 0))) rfl (decide_eq_true hc1) ?_
  refine seq_ <| region_ <| mv (.int .i64 t10) rfl <| asg (.int .i64 t10) rfl <| wl_nil <| then_n <| wp_ret <| then_r ?_
  refine ret_1 rfl rfl ⟨t10, rfl, h⟩
 ·rw [if_neg hc1] at h; refine cond_0 (b := (decide (t10 ≠ 0))) rfl (decide_eq_false hc1) ?_
  refine wp_skip <| then_n <| seq_ <| region_ <| st_val (ex_fa fa113_1 (p := (⟨b2, 0, none⟩ : Addr)) rfl) ?_
  refine st_rn (fun r => ex_load rfl r) h ?_; clear h; intro t15 w h
  refine st_val (ex_fa fa113_1 (p := (⟨b3, 0, none⟩ : Addr)) rfl) ?_
  refine st_rn (fun r => ex_load rfl r) h ?_; clear h; intro t17 w h
  refine st_cal en134 rfl h ?_; clear h; intro t18 w h
  refine asg (.int .i64 t18) rfl <| wl_nil <| then_n <| wp_ret ?_
  refine ret_1 rfl rfl ⟨t18, rfl, h⟩

def f113 (t0 : Sl) (t1 : Int) (t2 : Value) (R : (Unit) → World → Prop) (w : World) : Prop :=
 Lp (σ := Int × Int) (fun s1 w n1 =>
  if s1.2 ≤ t1 then
   Cal Try.prog (fun _ : Unit => Value.tuple #[]) 135 #[(Sl.v t0), (.int .i64 s1.1), (.int .i64 s1.2), t2] w fun t18 w =>
   n1 (s1.2, (IntKind.i64.wrap (s1.2 + 20))) w
  else
   Cal Try.prog (fun _ : Unit => Value.tuple #[]) 135 #[(Sl.v t0), (.int .i64 s1.1), (.int .i64 t1), t2] w fun t27 w =>
   Lp (σ := Int) (fun s3 w n3 =>
    if s3 < t1 then
     Lp (σ := Int × Int) (fun s5 w n5 =>
      if s5.2 ≤ t1 then
       Cal Try.prog (fun _ : Unit => Value.tuple #[]) 136 #[(Sl.v t0), (.int .i64 s5.1), (.int .i64 (IntKind.i64.wrap (s5.1 + s3))), (.int .i64 s5.2), t2] w fun t43 w =>
       n5 (s5.2, (IntKind.i64.wrap (s5.2 + (IntKind.i64.wrap (2 * s3))))) w
      else
       Jn (σ := Unit) (fun k7 =>
        if (IntKind.i64.wrap (s5.1 + s3)) < t1 then
         Cal Try.prog (fun _ : Unit => Value.tuple #[]) 136 #[(Sl.v t0), (.int .i64 s5.1), (.int .i64 (IntKind.i64.wrap (s5.1 + s3))), (.int .i64 t1), t2] w fun t60 w =>
         k7 () w
        else
         k7 () w
       ) fun s7 w =>
        n3 (IntKind.i64.wrap (s3 * 2)) w
     ) (0, (IntKind.i64.wrap (2 * s3))) w
    else
     R () w
   ) 20 w
 ) (0, 20) w
theorem c113 {t0 : Sl} {t1 : Int} {t2 : Value} {R : (Unit) → World → Prop} {w : World} (h : f113 t0 t1 t2 R w) :
  Cal Try.prog (fun _ : Unit => Value.tuple #[]) 113 #[(Sl.v t0), (.int .i64 t1), t2] w R := by
 unfold f113 at h
 refine calls_ Try.func113 Try.ntmps113 rfl rfl <| seq_ <| region_ <| asg (.int .i64 20) rfl <| wl_nil <| then_n <| seq_ <| region_ <| mv (.int .i64 20) rfl <| asg (.int .i64 0) rfl ?_
 refine asg (.int .i64 20) rfl <| wl_nil <| then_n <| seq_ <| wp_block <| wp_lp (σ := Int × Int) (fun s1 a => ∃ j, a = F 63 (upds j [(0, (Sl.v t0)), (1, (.int .i64 t1)), (2, t2), (6, (.int .i64 20)), (7, (.int .i64 s1.1)), (8, (.int .i64 s1.2))])) h (mk_upds (ae rfl (ae rfl (ae rfl (ae rfl (ae rfl (ae rfl ae0))))))) ?_
 clear h; rintro s1 _ w n1 ⟨j, rfl⟩ h
 refine seq_ <| seq_ <| region_ <| mv (.int .i64 s1.2) rfl <| mv (.int .i64 t1) rfl <| st_val (ex_leq (a := s1.2) (b := t1) rfl rfl) <| wl_nil <| then_n ?_
 by_cases hc2 : s1.2 ≤ t1
 ·rw [if_pos hc2] at h; refine cond_1 (b := (decide (s1.2 ≤ t1))) rfl (decide_eq_true hc2) ?_
  refine wp_skip <| then_n <| wp_block <| seq_ <| region_ <| mv (Sl.v t0) rfl <| mv (.int .i64 s1.1) rfl <| mv (.int .i64 s1.2) rfl <| mv t2 rfl ?_
  refine st_cal en135 rfl h ?_; clear h; intro t18 w h
  refine wl_nil <| then_n <| seq_ <| region_ <| mv (.int .i64 s1.2) rfl <| asg (.int .i64 s1.2) rfl <| wl_nil <| then_n <| region_ <| mv (.int .i64 s1.2) rfl ?_
  refine mv (.int .i64 20) rfl <| st_val (ex_add (a := s1.2) (b := 20) rfl rfl) <| asg (.int .i64 (IntKind.i64.wrap (s1.2 + 20))) rfl <| wl_nil <| inb_n ?_
  exact then_n ⟨(s1.2, (IntKind.i64.wrap (s1.2 + 20))), mk_upds (ae rfl (ae rfl (ae rfl (ae rfl (ae rfl (ae rfl ae0)))))), h⟩
 ·rw [if_neg hc2] at h; refine cond_0 (b := (decide (s1.2 ≤ t1))) rfl (decide_eq_false hc2) ?_
  refine wp_exit <| then_e <| then_e <| inb_e <| then_n <| seq_ <| region_ <| mv (Sl.v t0) rfl <| mv (.int .i64 s1.1) rfl <| mv (.int .i64 t1) rfl ?_
  refine mv t2 rfl ?_
  refine st_cal en135 rfl h ?_; clear h; intro t27 w h
  refine wl_nil <| then_n <| wp_block <| wp_lp (σ := Int) (fun s3 a => ∃ j, a = F 63 (upds j [(0, (Sl.v t0)), (1, (.int .i64 t1)), (2, t2), (6, (.int .i64 s3))])) h (mk_upds (ae rfl (ae rfl (ae rfl (ae rfl ae0))))) ?_
  clear h; rintro s3 _ w n3 ⟨j, rfl⟩ h
  refine seq_ <| seq_ <| region_ <| mv (.int .i64 s3) rfl <| mv (.int .i64 t1) rfl <| st_val (ex_lss (a := s3) (b := t1) rfl rfl) <| wl_nil <| then_n ?_
  by_cases hc4 : s3 < t1
  ·rw [if_pos hc4] at h; refine cond_1 (b := (decide (s3 < t1))) rfl (decide_eq_true hc4) ?_
   refine wp_skip <| then_n <| wp_block <| seq_ <| region_ <| mv (.int .i64 s3) rfl <| st_val (ex_mul (a := 2) (b := s3) rfl rfl) <| asg (.int .i64 0) rfl <| asg (.int .i64 (IntKind.i64.wrap (2 * s3))) rfl <| wl_nil ?_
   refine then_n <| seq_ <| wp_block <| wp_lp (σ := Int × Int) (fun s5 a => ∃ j, a = F 63 (upds j [(0, (Sl.v t0)), (1, (.int .i64 t1)), (2, t2), (6, (.int .i64 s3)), (7, (.int .i64 s5.1)), (8, (.int .i64 s5.2))])) h (mk_upds (ae rfl (ae rfl (ae rfl (ae rfl (ae rfl (ae rfl ae0))))))) ?_
   clear h; rintro s5 _ w n5 ⟨j, rfl⟩ h
   refine seq_ <| seq_ <| region_ <| mv (.int .i64 s5.2) rfl <| mv (.int .i64 t1) rfl <| st_val (ex_leq (a := s5.2) (b := t1) rfl rfl) <| wl_nil <| then_n ?_
   by_cases hc6 : s5.2 ≤ t1
   ·rw [if_pos hc6] at h; refine cond_1 (b := (decide (s5.2 ≤ t1))) rfl (decide_eq_true hc6) ?_
    refine wp_skip <| then_n <| wp_block <| seq_ <| region_ <| mv (Sl.v t0) rfl <| mv (.int .i64 s5.1) rfl <| mv (.int .i64 s5.1) rfl <| mv (.int .i64 s3) rfl <| st_val (ex_add (a := s5.1) (b := s3) rfl rfl) ?_
    refine mv (.int .i64 s5.2) rfl <| mv t2 rfl ?_
    refine st_cal en136 rfl h ?_; clear h; intro t43 w h
    refine wl_nil <| then_n <| seq_ <| region_ <| mv (.int .i64 s5.2) rfl <| asg (.int .i64 s5.2) rfl <| wl_nil <| then_n <| region_ <| mv (.int .i64 s5.2) rfl ?_
    refine mv (.int .i64 s3) rfl <| st_val (ex_mul (a := 2) (b := s3) rfl rfl) <| st_val (ex_add (a := s5.2) (b := (IntKind.i64.wrap (2 * s3))) rfl rfl) <| asg (.int .i64 (IntKind.i64.wrap (s5.2 + (IntKind.i64.wrap (2 * s3))))) rfl <| wl_nil <| inb_n ?_
    exact then_n ⟨(s5.2, (IntKind.i64.wrap (s5.2 + (IntKind.i64.wrap (2 * s3))))), mk_upds (ae rfl (ae rfl (ae rfl (ae rfl (ae rfl (ae rfl ae0)))))), h⟩
   ·rw [if_neg hc6] at h; refine cond_0 (b := (decide (s5.2 ≤ t1))) rfl (decide_eq_false hc6) ?_
    refine wp_exit <| then_e <| then_e <| inb_e <| then_n ?_
    refine wp_jn (σ := Unit) (fun s7 l => ∃ j, l = upds j [(0, (Sl.v t0)), (1, (.int .i64 t1)), (2, t2), (6, (.int .i64 s3))]) h ?_ ?_
    ·clear h; rintro s7 _ w ⟨j, rfl⟩ h
     refine region_ <| mv (.int .i64 s3) rfl <| st_val (ex_mul (a := s3) (b := 2) rfl rfl) <| asg (.int .i64 (IntKind.i64.wrap (s3 * 2))) rfl <| wl_nil <| inb_n ?_
     exact then_n ⟨(IntKind.i64.wrap (s3 * 2)), mk_upds (ae rfl (ae rfl (ae rfl (ae rfl ae0)))), h⟩
    ·clear h; intro k7 h
     refine seq_ <| region_ <| mv (.int .i64 s5.1) rfl <| mv (.int .i64 s3) rfl <| st_val (ex_add (a := s5.1) (b := s3) rfl rfl) <| asg (.int .i64 (IntKind.i64.wrap (s5.1 + s3))) rfl <| wl_nil <| then_n <| seq_ <| region_ ?_
     refine mv (.int .i64 (IntKind.i64.wrap (s5.1 + s3))) rfl <| mv (.int .i64 t1) rfl <| st_val (ex_lss (a := (IntKind.i64.wrap (s5.1 + s3))) (b := t1) rfl rfl) <| wl_nil <| then_n ?_
     by_cases hc8 : (IntKind.i64.wrap (s5.1 + s3)) < t1
     ·rw [if_pos hc8] at h; refine cond_1 (b := (decide ((IntKind.i64.wrap (s5.1 + s3)) < t1))) rfl (decide_eq_true hc8) ?_
      refine region_ <| mv (Sl.v t0) rfl <| mv (.int .i64 s5.1) rfl <| mv (.int .i64 (IntKind.i64.wrap (s5.1 + s3))) rfl <| mv (.int .i64 t1) rfl <| mv t2 rfl ?_
      refine st_cal en136 rfl h ?_; clear h; intro t60 w h
      refine wl_nil ?_
      exact then_n ⟨(), _, rfl, mk_upds' (ae rfl (ae rfl (ae rfl (ae rfl ae0)))), h⟩
     ·rw [if_neg hc8] at h; refine cond_0 (b := (decide ((IntKind.i64.wrap (s5.1 + s3)) < t1))) rfl (decide_eq_false hc8) ?_
      refine wp_skip ?_
      exact then_n ⟨(), _, rfl, mk_upds' (ae rfl (ae rfl (ae rfl (ae rfl ae0)))), h⟩
  ·rw [if_neg hc4] at h; refine cond_0 (b := (decide (s3 < t1))) rfl (decide_eq_false hc4) ?_
   refine wp_exit <| then_e <| then_e <| inb_e ?_
   refine end_0 rfl ⟨(), rfl, h⟩

def f114 (t0 : ByteArray) (R : (Int × ByteArray) → World → Prop) (w : World) : Prop :=
 if t0 = (⟨#[42]⟩ : ByteArray) then
  R (3, (⟨#[]⟩ : ByteArray)) w
 else
  Jn (σ := Bool) (fun k2 =>
   if 2 < (t0.size : Int) then
    RnP Try.prog Value.string (Instr.sliceAt 9 (.string t0) none (some (.int .i64 2)) none) fun t15 =>
    k2 (decide (t15 = (⟨#[42, 46]⟩ : ByteArray))) w
   else
    k2 false w
  ) fun s2 w =>
   if s2 = true then
    RnP Try.prog Value.string (Instr.sliceAt 9 (.string t0) (some (.int .i64 2)) none none) fun t20 =>
    Cal Try.prog (fun x : ByteArray × Bool => Value.tuple #[(.string x.1), (.bool x.2)]) 137 #[(.string t20)] w fun t21 w =>
    if t21.2 = true then
     R (2, t21.1) w
    else
     R (4, t0) w
   else
    Cal Try.prog (fun x : ByteArray × Bool => Value.tuple #[(.string x.1), (.bool x.2)]) 137 #[(.string t0)] w fun t29 w =>
    if t29.2 = true then
     R (1, t29.1) w
    else
     R (4, t0) w
def f115 (t0 : ByteArray) (t1 : ByteArray) (R : (Int) → World → Prop) (w : World) : Prop :=
 Lp (σ := Int) (fun s1 w n1 =>
  Jn (σ := Bool) (fun k2 =>
   if s1 < (t0.size : Int) then
    k2 (decide (s1 < (t1.size : Int))) w
   else
    k2 false w
  ) fun s2 w =>
   if s2 = true then
    Dr w fun w5 w =>
     RnP Try.prog (Value.int .u8) (Instr.index 9 (.string t0) (.int .i64 s1)) fun t20 =>
     RnP Try.prog (Value.int .u8) (Instr.index 9 (.string t1) (.int .i64 s1)) fun t23 =>
     if t20 < t23 then
      R (-1) w
     else
      Dr w fun w7 w =>
       RnP Try.prog (Value.int .u8) (Instr.index 9 (.string t0) (.int .i64 s1)) fun t27 =>
       RnP Try.prog (Value.int .u8) (Instr.index 9 (.string t1) (.int .i64 s1)) fun t30 =>
       if t30 < t27 then
        R 1 w
       else
        n1 (IntKind.i64.wrap (s1 + 1)) w
   else
    if (t0.size : Int) < (t1.size : Int) then
     R (-1) w
    else
     if (t1.size : Int) < (t0.size : Int) then
      R 1 w
     else
      R 0 w
 ) 0 w
def f116 (t0 : ByteArray) (t1 : ByteArray) (R : (Bool) → World → Prop) (w : World) : Prop :=
 Cal Try.prog Value.bool 138 #[(.string t0), (.string t1)] w fun t7 w =>
 R t7 w
theorem c116 {t0 : ByteArray} {t1 : ByteArray} {R : (Bool) → World → Prop} {w : World} (h : f116 t0 t1 R w) :
  Cal Try.prog Value.bool 116 #[(.string t0), (.string t1)] w R := by
 unfold f116 at h
 refine calls_ Try.func116 Try.ntmps116 rfl rfl <| seq_ <| region_ <| asg (.bool false) rfl <| wl_nil <| then_n <| seq_ <| region_ <| mv (.string t0) rfl <| mv (.string t1) rfl ?_
 refine st_cal en138 rfl h ?_; clear h; intro t7 w h
 refine asg (.bool t7) rfl <| wl_nil <| then_n <| wp_ret ?_
 refine ret_1 rfl rfl ⟨t7, rfl, h⟩

def f117 (t0 : ByteArray) (R : (ByteArray × Bool) → World → Prop) (w : World) : Prop :=
 Jn (σ := Bool) (fun k1 =>
  if (t0.size : Int) < 1 then
   k1 true w
  else
   k1 (decide (64 < (t0.size : Int))) w
 ) fun s1 w =>
  if s1 = true then
   R ((⟨#[]⟩ : ByteArray), false) w
  else
   Rn Try.prog Sl.v (convert 9 187 (.string t0)) w fun t16 w =>
   Lp (σ := Int) (fun s4 w n4 =>
    if s4 < (t16.n : Int) then
     Jn (σ := Unit) (fun k6 =>
      RnP Try.prog Ptr (Instr.indexAt 187 (Sl.v t16) (.int .i64 s4)) fun t24 =>
      Rn Try.prog (Value.int .u8) (Instr.loadAt 5 (Ptr t24)) w fun t25 w =>
      Jn (σ := Bool) (fun k7 =>
       if 65 ≤ t25 then
        k7 (decide (t25 ≤ 90)) w
       else
        k7 false w
      ) fun s7 w =>
       if s7 = true then
        RnP Try.prog Ptr (Instr.indexAt 187 (Sl.v t16) (.int .i64 s4)) fun t35 =>
        Rn Try.prog (Value.int .u8) (Instr.loadAt 5 (Ptr t35)) w fun t36 w =>
        RnP Try.prog Ptr (Instr.indexAt 187 (Sl.v t16) (.int .i64 s4)) fun t38 =>
        RnU Try.prog (Instr.storeAt 5 (Ptr t38) (.int .u8 (IntKind.u8.wrap (t36 + 32)))) w fun w =>
        k6 () w
       else
        Jn (σ := Bool) (fun k10 =>
         Jn (σ := Bool) (fun k11 =>
          if 97 ≤ t25 then
           k11 (decide (t25 ≤ 122)) w
          else
           k11 false w
         ) fun s11 w =>
          if s11 = true then
           k10 s11 w
          else
           Jn (σ := Bool) (fun k14 =>
            if 48 ≤ t25 then
             k14 (decide (t25 ≤ 57)) w
            else
             k14 false w
           ) fun s14 w =>
            if s14 = true then
             k10 s14 w
            else
             if t25 = 45 then
              k10 (decide (t25 = 45)) w
             else
              k10 (decide (t25 = 46)) w
        ) fun s10 w =>
         if s10 = true then
          k6 () w
         else
          R ((⟨#[]⟩ : ByteArray), false) w
     ) fun s6 w =>
      n4 (IntKind.i64.wrap (s4 + 1)) w
    else
     Rn Try.prog Value.string (convert 187 9 (Sl.v t16)) w fun t58 w =>
     R (t58, true) w
   ) 0 w
theorem c117 {t0 : ByteArray} {R : (ByteArray × Bool) → World → Prop} {w : World} (h : f117 t0 R w) :
  Cal Try.prog (fun x : ByteArray × Bool => Value.tuple #[(.string x.1), (.bool x.2)]) 117 #[(.string t0)] w R := by
 unfold f117 at h
 refine calls_ Try.func117 Try.ntmps117 rfl rfl <| seq_ <| region_ <| asg (.string (⟨#[]⟩ : ByteArray)) rfl <| asg (.bool false) rfl <| wl_nil <| then_n <| seq_ ?_
 refine wp_jn (σ := Bool) (fun s1 l => ∃ j, l = upds j [(0, (.string t0)), (14, (.bool s1))]) h ?_ ?_
 ·clear h; rintro s1 _ w ⟨j, rfl⟩ h
  by_cases hc3 : s1 = true
  ·rw [if_pos hc3] at h; refine cond_1 (b := s1) rfl hc3 ?_
   refine seq_ <| region_ <| asg (.string (⟨#[]⟩ : ByteArray)) rfl <| asg (.bool false) rfl <| wl_nil <| then_n <| wp_ret <| then_r ?_
   refine ret_2 rfl rfl rfl ⟨((⟨#[]⟩ : ByteArray), false), rfl, h⟩
  ·rw [if_neg hc3] at h; refine cond_0 (b := s1) rfl (Bool.eq_false_iff.2 hc3) ?_
   refine wp_skip <| then_n <| seq_ <| region_ <| mv (.string t0) rfl ?_
   refine st_rn (fun r => ex_convert rfl r) h ?_; clear h; intro t16 w h
   refine asg (Sl.v t16) rfl <| wl_nil <| then_n <| seq_ <| seq_ <| region_ <| mv (Sl.v t16) rfl <| st_val (ex_len (s := t16) Try.underlying187 rfl) <| mv (.int .i64 0) rfl <| wl_nil ?_
   refine then_n <| wp_block <| wp_lp (σ := Int) (fun s4 a => ∃ j, a = F 59 (upds j [(4, (Sl.v t16)), (18, (.int .i64 (t16.n : Int))), (19, (.int .i64 s4))])) h (mk_upds (ae rfl (ae rfl (ae rfl ae0)))) ?_
   clear h; rintro s4 _ w n4 ⟨j, rfl⟩ h
   refine seq_ <| region_ <| st_val (ex_lss (a := s4) (b := (t16.n : Int)) rfl rfl) <| wl_nil <| then_n <| seq_ ?_
   by_cases hc5 : s4 < (t16.n : Int)
   ·rw [if_pos hc5] at h; refine cond_1 (b := (decide (s4 < (t16.n : Int)))) rfl (decide_eq_true hc5) ?_
    refine wp_skip <| then_n ?_
    refine wp_jn (σ := Unit) (fun s6 l => ∃ j, l = upds j [(4, (Sl.v t16)), (18, (.int .i64 (t16.n : Int))), (19, (.int .i64 s4))]) h ?_ ?_
    ·clear h; rintro s6 _ w ⟨j, rfl⟩ h
     refine region_ <| st_val (ex_add (a := s4) (b := 1) rfl rfl) <| mv (.int .i64 (IntKind.i64.wrap (s4 + 1))) rfl <| wl_nil ?_
     exact then_n ⟨(IntKind.i64.wrap (s4 + 1)), mk_upds (ae rfl (ae rfl (ae rfl ae0))), h⟩
    ·clear h; intro k6 h
     refine wp_block <| seq_ <| region_ <| mv (.int .i64 s4) rfl <| asg (.int .i64 s4) rfl <| wl_nil <| then_n <| seq_ <| region_ <| mv (Sl.v t16) rfl ?_
     refine mv (.int .i64 s4) rfl ?_
     refine st_rnp (fun r => ex_indexAddr rfl rfl r) h ?_; clear h; intro t24 h
     refine st_rn (fun r => ex_load rfl r) h ?_; clear h; intro t25 w h
     refine asg (.int .u8 t25) rfl <| wl_nil <| then_n <| wp_block ?_
     refine wp_jn (σ := Bool) (fun s7 l => ∃ j, l = upds j [(4, (Sl.v t16)), (5, (.int .i64 s4)), (6, (.int .u8 t25)), (18, (.int .i64 (t16.n : Int))), (19, (.int .i64 s4)), (26, (.bool s7))]) h ?_ ?_
     ·clear h; rintro s7 _ w ⟨j, rfl⟩ h
      by_cases hc9 : s7 = true
      ·rw [if_pos hc9] at h; refine cond_1 (b := s7) rfl hc9 ?_
       refine region_ <| mv (Sl.v t16) rfl <| mv (.int .i64 s4) rfl ?_
       refine st_rnp (fun r => ex_indexAddr rfl rfl r) h ?_; clear h; intro t35 h
       refine st_rn (fun r => ex_load rfl r) h ?_; clear h; intro t36 w h
       refine st_val (ex_add (a := t36) (b := 32) rfl rfl) ?_
       refine st_rnp (fun r => ex_indexAddr rfl rfl r) h ?_; clear h; intro t38 h
       refine st_rnu (fun r => ex_store rfl rfl r) h ?_; clear h; intro w h
       refine wl_nil <| inb_n <| inb_n ?_
       exact then_n ⟨(), _, rfl, mk_upds' (ae rfl (ae rfl (ae rfl ae0))), h⟩
      ·rw [if_neg hc9] at h; refine cond_0 (b := s7) rfl (Bool.eq_false_iff.2 hc9) ?_
       refine wp_jn (σ := Bool) (fun s10 l => ∃ j, l = upds j [(4, (Sl.v t16)), (18, (.int .i64 (t16.n : Int))), (19, (.int .i64 s4)), (39, (.bool s10))]) h ?_ ?_
       ·clear h; rintro s10 _ w ⟨j, rfl⟩ h
        by_cases hc18 : s10 = true
        ·rw [if_pos hc18] at h; refine cond_1 (b := s10) rfl hc18 ?_
         refine wp_skip <| inb_n <| inb_n ?_
         exact then_n ⟨(), _, rfl, mk_upds' (ae rfl (ae rfl (ae rfl ae0))), h⟩
        ·rw [if_neg hc18] at h; refine cond_0 (b := s10) rfl (Bool.eq_false_iff.2 hc18) ?_
         refine seq_ <| region_ <| asg (.string (⟨#[]⟩ : ByteArray)) rfl <| asg (.bool false) rfl <| wl_nil <| then_n <| wp_ret <| inb_r <| inb_r <| then_r ?_
         refine then_r <| inb_r <| then_r ?_
         refine ret_2 rfl rfl rfl ⟨((⟨#[]⟩ : ByteArray), false), rfl, h⟩
       ·clear h; intro k10 h
        refine wp_jn (σ := Bool) (fun s11 l => ∃ j, l = upds j [(4, (Sl.v t16)), (6, (.int .u8 t25)), (18, (.int .i64 (t16.n : Int))), (19, (.int .i64 s4)), (39, (.bool s11))]) h ?_ ?_
        ·clear h; rintro s11 _ w ⟨j, rfl⟩ h
         by_cases hc13 : s11 = true
         ·rw [if_pos hc13] at h; refine cond_1 (b := s11) rfl hc13 ?_
          refine wp_skip ?_
          exact then_n ⟨s11, _, rfl, mk_upds' (ae rfl (ae rfl (ae rfl (ae rfl ae0)))), h⟩
         ·rw [if_neg hc13] at h; refine cond_0 (b := s11) rfl (Bool.eq_false_iff.2 hc13) ?_
          refine wp_jn (σ := Bool) (fun s14 l => ∃ j, l = upds j [(4, (Sl.v t16)), (6, (.int .u8 t25)), (18, (.int .i64 (t16.n : Int))), (19, (.int .i64 s4)), (39, (.bool s14))]) h ?_ ?_
          ·clear h; rintro s14 _ w ⟨j, rfl⟩ h
           by_cases hc16 : s14 = true
           ·rw [if_pos hc16] at h; refine cond_1 (b := s14) rfl hc16 ?_
            refine wp_skip ?_
            exact then_n ⟨s14, _, rfl, mk_upds' (ae rfl (ae rfl (ae rfl (ae rfl ae0)))), h⟩
           ·rw [if_neg hc16] at h; refine cond_0 (b := s14) rfl (Bool.eq_false_iff.2 hc16) ?_
            refine seq_ <| region_ <| mv (.int .u8 t25) rfl <| st_val (ex_eql (a := t25) (b := 45) rfl rfl) <| asg (.bool (decide (t25 = 45))) rfl <| wl_nil <| then_n ?_
            by_cases hc17 : t25 = 45
            ·rw [if_pos hc17] at h; refine cond_1 (b := (decide (t25 = 45))) rfl (decide_eq_true hc17) ?_
             refine wp_skip ?_
             exact then_n ⟨(decide (t25 = 45)), _, rfl, mk_upds' (ae rfl (ae rfl (ae rfl (ae rfl ae0)))), h⟩
            ·rw [if_neg hc17] at h; refine cond_0 (b := (decide (t25 = 45))) rfl (decide_eq_false hc17) ?_
             refine region_ <| mv (.int .u8 t25) rfl <| st_val (ex_eql (a := t25) (b := 46) rfl rfl) <| asg (.bool (decide (t25 = 46))) rfl <| wl_nil ?_
             exact then_n ⟨(decide (t25 = 46)), _, rfl, mk_upds' (ae rfl (ae rfl (ae rfl (ae rfl ae0)))), h⟩
          ·clear h; intro k14 h
           refine region_ <| mv (.int .u8 t25) rfl <| st_val (ex_geq (a := t25) (b := 48) rfl rfl) <| mv (.bool (decide (48 ≤ t25))) rfl ?_
           by_cases hc15 : 48 ≤ t25
           ·rw [if_pos hc15] at h
            refine sOn 48 (decide_eq_true hc15) rfl rfl <| mv (.int .u8 t25) rfl <| sOn 48 (decide_eq_true hc15) rfl rfl <| st_val (ex_leq (a := t25) (b := 57) rfl rfl) <| st_val (ex_pick1 (b := (decide (48 ≤ t25))) rfl (decide_eq_true hc15) (v := (.bool (decide (t25 ≤ 57)))) rfl) <| asg (.bool (decide (t25 ≤ 57))) rfl <| wl_nil ?_
            exact then_n ⟨(decide (t25 ≤ 57)), _, rfl, mk_upds' (ae rfl (ae rfl (ae rfl (ae rfl (ae rfl ae0))))), h⟩
           ·rw [if_neg hc15] at h
            refine sOff 48 (decide_eq_false hc15) rfl rfl <| sOff 48 (decide_eq_false hc15) rfl rfl <| st_val (ex_pick0 (b := (decide (48 ≤ t25))) rfl (decide_eq_false hc15) (v := (.bool false)) rfl) <| asg (.bool false) rfl <| wl_nil ?_
            exact then_n ⟨false, _, rfl, mk_upds' (ae rfl (ae rfl (ae rfl (ae rfl (ae rfl ae0))))), h⟩
        ·clear h; intro k11 h
         refine region_ <| mv (.int .u8 t25) rfl <| st_val (ex_geq (a := t25) (b := 97) rfl rfl) <| mv (.bool (decide (97 ≤ t25))) rfl ?_
         by_cases hc12 : 97 ≤ t25
         ·rw [if_pos hc12] at h
          refine sOn 42 (decide_eq_true hc12) rfl rfl <| mv (.int .u8 t25) rfl <| sOn 42 (decide_eq_true hc12) rfl rfl <| st_val (ex_leq (a := t25) (b := 122) rfl rfl) <| st_val (ex_pick1 (b := (decide (97 ≤ t25))) rfl (decide_eq_true hc12) (v := (.bool (decide (t25 ≤ 122)))) rfl) <| asg (.bool (decide (t25 ≤ 122))) rfl <| wl_nil ?_
          exact then_n ⟨(decide (t25 ≤ 122)), _, rfl, mk_upds' (ae rfl (ae rfl (ae rfl (ae rfl (ae rfl ae0))))), h⟩
         ·rw [if_neg hc12] at h
          refine sOff 42 (decide_eq_false hc12) rfl rfl <| sOff 42 (decide_eq_false hc12) rfl rfl <| st_val (ex_pick0 (b := (decide (97 ≤ t25))) rfl (decide_eq_false hc12) (v := (.bool false)) rfl) <| asg (.bool false) rfl <| wl_nil ?_
          exact then_n ⟨false, _, rfl, mk_upds' (ae rfl (ae rfl (ae rfl (ae rfl (ae rfl ae0))))), h⟩
     ·clear h; intro k7 h
      refine region_ <| mv (.int .u8 t25) rfl <| st_val (ex_geq (a := t25) (b := 65) rfl rfl) <| mv (.bool (decide (65 ≤ t25))) rfl ?_
      by_cases hc8 : 65 ≤ t25
      ·rw [if_pos hc8] at h
       refine sOn 29 (decide_eq_true hc8) rfl rfl <| mv (.int .u8 t25) rfl <| sOn 29 (decide_eq_true hc8) rfl rfl <| st_val (ex_leq (a := t25) (b := 90) rfl rfl) <| st_val (ex_pick1 (b := (decide (65 ≤ t25))) rfl (decide_eq_true hc8) (v := (.bool (decide (t25 ≤ 90)))) rfl) <| asg (.bool (decide (t25 ≤ 90))) rfl <| wl_nil ?_
       exact then_n ⟨(decide (t25 ≤ 90)), _, rfl, mk_upds' (ae rfl (ae rfl (ae rfl (ae rfl (ae rfl (ae rfl ae0)))))), h⟩
      ·rw [if_neg hc8] at h
       refine sOff 29 (decide_eq_false hc8) rfl rfl <| sOff 29 (decide_eq_false hc8) rfl rfl <| st_val (ex_pick0 (b := (decide (65 ≤ t25))) rfl (decide_eq_false hc8) (v := (.bool false)) rfl) <| asg (.bool false) rfl <| wl_nil ?_
       exact then_n ⟨false, _, rfl, mk_upds' (ae rfl (ae rfl (ae rfl (ae rfl (ae rfl (ae rfl ae0)))))), h⟩
   ·rw [if_neg hc5] at h; refine cond_0 (b := (decide (s4 < (t16.n : Int)))) rfl (decide_eq_false hc5) ?_
    refine wp_exit <| then_e <| then_e <| inb_e <| then_n <| seq_ <| region_ <| mv (Sl.v t16) rfl ?_
    refine st_rn (fun r => ex_convert rfl r) h ?_; clear h; intro t58 w h
    refine asg (.string t58) rfl <| asg (.bool true) rfl <| wl_nil <| then_n <| wp_ret ?_
    refine ret_2 rfl rfl rfl ⟨(t58, true), rfl, h⟩
 ·clear h; intro k1 h
  refine region_ <| mv (.string t0) rfl <| st_val (ex_lenS (s := t0) Try.underlying9 rfl) <| st_val (ex_lss (a := (t0.size : Int)) (b := 1) rfl rfl) <| mv (.bool (decide ((t0.size : Int) < 1))) rfl ?_
  by_cases hc2 : (t0.size : Int) < 1
  ·rw [if_pos hc2] at h
   refine sOff 10 (decide_eq_true hc2) rfl rfl <| sOff 10 (decide_eq_true hc2) rfl rfl <| sOff 10 (decide_eq_true hc2) rfl rfl <| st_val (ex_pick1 (b := (decide ((t0.size : Int) < 1))) rfl (decide_eq_true hc2) (v := (.bool true)) rfl) <| wl_nil ?_
   exact then_n ⟨true, _, rfl, mk_upds' (ae rfl (ae rfl ae0)), h⟩
  ·rw [if_neg hc2] at h
   refine sOn 10 (decide_eq_false hc2) rfl rfl <| mv (.string t0) rfl <| sOn 10 (decide_eq_false hc2) rfl rfl <| st_val (ex_lenS (s := t0) Try.underlying9 rfl) <| sOn 10 (decide_eq_false hc2) rfl rfl <| st_val (ex_gtr (a := (t0.size : Int)) (b := 64) rfl rfl) <| st_val (ex_pick0 (b := (decide ((t0.size : Int) < 1))) rfl (decide_eq_false hc2) (v := (.bool (decide (64 < (t0.size : Int))))) rfl) <| wl_nil ?_
   exact then_n ⟨(decide (64 < (t0.size : Int))), _, rfl, mk_upds' (ae rfl (ae rfl ae0)), h⟩

def f118 (t0 : Int) (R : (Bool) → World → Prop) (w : World) : Prop :=
 R (decide (t0 ≠ t0)) w
theorem c118 {t0 : Int} {R : (Bool) → World → Prop} {w : World} (h : f118 t0 R w) :
  Cal Try.prog Value.bool 118 #[(.int .i64 t0)] w R := by
 unfold f118 at h
 refine calls_ Try.func118 Try.ntmps118 rfl rfl <| seq_ <| region_ <| asg (.bool false) rfl <| wl_nil <| then_n <| seq_ <| region_ <| mv (.int .i64 t0) rfl <| mv (.int .i64 t0) rfl ?_
 refine st_val (ex_neq (a := t0) (b := t0) rfl rfl) <| asg (.bool (decide (t0 ≠ t0))) rfl <| wl_nil <| then_n <| wp_ret ?_
 refine ret_1 rfl rfl ⟨(decide (t0 ≠ t0)), rfl, h⟩

def f119 (t0 : ByteArray) (R : (Bool) → World → Prop) (w : World) : Prop :=
 R (decide (t0 ≠ t0)) w
theorem c119 {t0 : ByteArray} {R : (Bool) → World → Prop} {w : World} (h : f119 t0 R w) :
  Cal Try.prog Value.bool 119 #[(.string t0)] w R := by
 unfold f119 at h
 refine calls_ Try.func119 Try.ntmps119 rfl rfl <| seq_ <| region_ <| asg (.bool false) rfl <| wl_nil <| then_n <| seq_ <| region_ <| mv (.string t0) rfl <| mv (.string t0) rfl ?_
 refine st_val (ex_neqS (a := t0) (b := t0) rfl rfl) <| asg (.bool (decide (t0 ≠ t0))) rfl <| wl_nil <| then_n <| wp_ret ?_
 refine ret_1 rfl rfl ⟨(decide (t0 ≠ t0)), rfl, h⟩

def f120 (t0 : ByteArray) (t1 : ByteArray) (R : (Bool) → World → Prop) (w : World) : Prop :=
 Cal Try.prog Value.bool 139 #[(.string t0), (.string t1)] w fun t7 w =>
 R t7 w
theorem c120 {t0 : ByteArray} {t1 : ByteArray} {R : (Bool) → World → Prop} {w : World} (h : f120 t0 t1 R w) :
  Cal Try.prog Value.bool 120 #[(.string t0), (.string t1)] w R := by
 unfold f120 at h
 refine calls_ Try.func120 Try.ntmps120 rfl rfl <| seq_ <| region_ <| asg (.bool false) rfl <| wl_nil <| then_n <| seq_ <| region_ <| mv (.string t0) rfl <| mv (.string t1) rfl ?_
 refine st_cal en139 rfl h ?_; clear h; intro t7 w h
 refine asg (.bool t7) rfl <| wl_nil <| then_n <| wp_ret ?_
 refine ret_1 rfl rfl ⟨t7, rfl, h⟩

def f121 (t0 : Sl) (t1 : Value) (R : (Int) → World → Prop) (w : World) : Prop :=
 Lp (σ := Int) (fun s1 w n1 =>
  if s1 < (t0.n : Int) then
   RnP Try.prog Ptr (Instr.indexAt 46 (Sl.v t0) (.int .i64 s1)) fun t14 =>
   Rn Try.prog TRule.v (Instr.loadAt 91 (Ptr t14)) w fun t15 w =>
   CalV Try.prog Value.bool t1 #[(TRule.v t15)] w fun t16 w =>
   if t16 = true then
    R s1 w
   else
    n1 (IntKind.i64.wrap (s1 + 1)) w
  else
   R (-1) w
 ) 0 w
theorem c121 {t0 : Sl} {t1 : Value} {R : (Int) → World → Prop} {w : World} (h : f121 t0 t1 R w) :
  Cal Try.prog (Value.int .i64) 121 #[(Sl.v t0), t1] w R := by
 unfold f121 at h
 refine calls_ Try.func121 Try.ntmps121 rfl rfl <| seq_ <| region_ <| asg (.int .i64 0) rfl <| wl_nil <| then_n <| seq_ <| seq_ <| region_ <| mv (Sl.v t0) rfl ?_
 refine st_val (ex_len (s := t0) Try.underlying46 rfl) <| mv (.int .i64 0) rfl <| wl_nil <| then_n <| wp_block <| wp_lp (σ := Int) (fun s1 a => ∃ j, a = F 19 (upds j [(0, (Sl.v t0)), (1, t1), (7, (.int .i64 (t0.n : Int))), (8, (.int .i64 s1))])) h (mk_upds (ae rfl (ae rfl (ae rfl (ae rfl ae0))))) ?_
 clear h; rintro s1 _ w n1 ⟨j, rfl⟩ h
 refine seq_ <| region_ <| st_val (ex_lss (a := s1) (b := (t0.n : Int)) rfl rfl) <| wl_nil <| then_n <| seq_ ?_
 by_cases hc2 : s1 < (t0.n : Int)
 ·rw [if_pos hc2] at h; refine cond_1 (b := (decide (s1 < (t0.n : Int)))) rfl (decide_eq_true hc2) ?_
  refine wp_skip <| then_n <| seq_ <| wp_block <| seq_ <| region_ <| mv (.int .i64 s1) rfl <| asg (.int .i64 s1) rfl <| wl_nil <| then_n ?_
  refine seq_ <| region_ <| mv t1 rfl <| mv (Sl.v t0) rfl <| mv (.int .i64 s1) rfl ?_
  refine st_rnp (fun r => ex_indexAddr rfl rfl r) h ?_; clear h; intro t14 h
  refine st_rn (fun r => ex_load rfl r) h ?_; clear h; intro t15 w h
  refine st_calv rfl rfl h ?_; clear h; intro t16 w h
  refine wl_nil <| then_n ?_
  by_cases hc3 : t16 = true
  ·rw [if_pos hc3] at h; refine cond_1 (b := t16) rfl hc3 ?_
   refine seq_ <| region_ <| mv (.int .i64 s1) rfl <| asg (.int .i64 s1) rfl <| wl_nil <| then_n <| wp_ret <| inb_r <| then_r <| then_r ?_
   refine inb_r <| then_r ?_
   refine ret_1 rfl rfl ⟨s1, rfl, h⟩
  ·rw [if_neg hc3] at h; refine cond_0 (b := t16) rfl (Bool.eq_false_iff.2 hc3) ?_
   refine wp_skip <| inb_n <| then_n <| region_ <| st_val (ex_add (a := s1) (b := 1) rfl rfl) <| mv (.int .i64 (IntKind.i64.wrap (s1 + 1))) rfl <| wl_nil ?_
   exact then_n ⟨(IntKind.i64.wrap (s1 + 1)), mk_upds (ae rfl (ae rfl (ae rfl (ae rfl ae0)))), h⟩
 ·rw [if_neg hc2] at h; refine cond_0 (b := (decide (s1 < (t0.n : Int)))) rfl (decide_eq_false hc2) ?_
  refine wp_exit <| then_e <| then_e <| inb_e <| then_n <| seq_ <| region_ <| asg (.int .i64 (-1)) rfl <| wl_nil <| then_n ?_
  refine wp_ret ?_
  refine ret_1 rfl rfl ⟨(-1), rfl, h⟩

def f122 (t0 : TRule) (t1 : Addr) (R : (Bool) → World → Prop) (w : World) : Prop :=
 New 91 (TRule.cells t0) w fun b2 w =>
 Jn (σ := Bool) (fun k1 =>
  Rn Try.prog Value.string (Instr.loadAt 9 (Ptr ((⟨b2, 0, none⟩ : Addr).add 1))) w fun t5 w =>
  if t5 = (⟨#[42]⟩ : ByteArray) then
   Rn Try.prog Value.string (Instr.loadAt 9 (Ptr ((⟨b2, 0, none⟩ : Addr).add 0))) w fun t16 w =>
   Rn Try.prog Value.string (Instr.loadAt 9 (Ptr (t1.add 0))) w fun t18 w =>
   Cal Try.prog Value.bool 123 #[(.string t16), (.string t18)] w fun t19 w =>
   k1 t19 w
  else
   Rn Try.prog Value.string (Instr.loadAt 9 (Ptr ((⟨b2, 0, none⟩ : Addr).add 1))) w fun t9 w =>
   Rn Try.prog Value.string (Instr.loadAt 9 (Ptr (t1.add 1))) w fun t11 w =>
   if t9 = t11 then
    Rn Try.prog Value.string (Instr.loadAt 9 (Ptr ((⟨b2, 0, none⟩ : Addr).add 0))) w fun t16_1 w =>
    Rn Try.prog Value.string (Instr.loadAt 9 (Ptr (t1.add 0))) w fun t18_1 w =>
    Cal Try.prog Value.bool 123 #[(.string t16_1), (.string t18_1)] w fun t19_1 w =>
    k1 t19_1 w
   else
    k1 false w
 ) fun s1 w =>
  R s1 w
theorem c122 {t0 : TRule} {t1 : Addr} {R : (Bool) → World → Prop} {w : World} (h : f122 t0 t1 R w) :
  Cal Try.prog Value.bool 122 #[(TRule.v t0), (Ptr t1)] w R := by
 unfold f122 at h
 refine calls_ Try.func122 Try.ntmps122 rfl rfl <| seq_ <| region_ ?_
 refine st_new (f := (fun b => Ptr ⟨b, 0, none⟩)) (ex_boxN rfl rfl) h ?_; clear h; intro b2 w h
 refine asg (.bool false) rfl <| wl_nil <| then_n ?_
 refine wp_jn (σ := Bool) (fun s1 l => ∃ j, l = upds j [(3, (.bool s1))]) h ?_ ?_
 ·clear h; rintro s1 _ w ⟨j, rfl⟩ h
  refine wp_ret ?_
  refine ret_1 rfl rfl ⟨s1, rfl, h⟩
 ·clear h; intro k1 h
  refine region_ <| st_val (ex_fa fa91_1 (p := (⟨b2, 0, none⟩ : Addr)) rfl) ?_
  refine st_rn (fun r => ex_load rfl r) h ?_; clear h; intro t5 w h
  refine st_val (ex_eqlS (a := t5) (b := (⟨#[42]⟩ : ByteArray)) rfl rfl) <| mv (.bool (decide (t5 = (⟨#[42]⟩ : ByteArray)))) rfl ?_
  by_cases hc2 : t5 = (⟨#[42]⟩ : ByteArray)
  ·rw [if_pos hc2] at h
   refine sOff 7 (decide_eq_true hc2) rfl rfl <| sOff 7 (decide_eq_true hc2) rfl rfl <| sOff 7 (decide_eq_true hc2) rfl rfl <| sOff 7 (decide_eq_true hc2) rfl rfl <| sOff 7 (decide_eq_true hc2) rfl rfl <| st_val (ex_pick1 (b := (decide (t5 = (⟨#[42]⟩ : ByteArray)))) rfl (decide_eq_true hc2) (v := (.bool true)) rfl) <| mv (.bool true) rfl <| sOn 14 (rfl : true = true) rfl rfl <| st_val (ex_fa fa91_0 (p := (⟨b2, 0, none⟩ : Addr)) rfl) <| sOn 14 (rfl : true = true) rfl rfl ?_
   refine st_rn (fun r => ex_load rfl r) h ?_; clear h; intro t16 w h
   refine sOn 14 (rfl : true = true) rfl rfl <| st_val (ex_fa fa91_0 (p := t1) rfl) <| sOn 14 (rfl : true = true) rfl rfl ?_
   refine st_rn (fun r => ex_load rfl r) h ?_; clear h; intro t18 w h
   refine sOn 14 (rfl : true = true) rfl rfl ?_
   refine st_cal en123 rfl h ?_; clear h; intro t19 w h
   refine st_val (ex_pick1 (b := true) rfl (rfl : true = true) (v := (.bool t19)) rfl) <| asg (.bool t19) rfl <| wl_nil ?_
   exact then_n ⟨t19, _, rfl, mk_upds' (ae rfl ae0), h⟩
  ·rw [if_neg hc2] at h
   refine sOn 7 (decide_eq_false hc2) rfl rfl <| st_val (ex_fa fa91_1 (p := (⟨b2, 0, none⟩ : Addr)) rfl) <| sOn 7 (decide_eq_false hc2) rfl rfl ?_
   refine st_rn (fun r => ex_load rfl r) h ?_; clear h; intro t9 w h
   refine sOn 7 (decide_eq_false hc2) rfl rfl <| st_val (ex_fa fa91_1 (p := t1) rfl) <| sOn 7 (decide_eq_false hc2) rfl rfl ?_
   refine st_rn (fun r => ex_load rfl r) h ?_; clear h; intro t11 w h
   refine sOn 7 (decide_eq_false hc2) rfl rfl <| st_val (ex_eqlS (a := t9) (b := t11) rfl rfl) <| st_val (ex_pick0 (b := (decide (t5 = (⟨#[42]⟩ : ByteArray)))) rfl (decide_eq_false hc2) (v := (.bool (decide (t9 = t11)))) rfl) <| mv (.bool (decide (t9 = t11))) rfl ?_
   by_cases hc3 : t9 = t11
   ·rw [if_pos hc3] at h
    refine sOn 14 (decide_eq_true hc3) rfl rfl <| st_val (ex_fa fa91_0 (p := (⟨b2, 0, none⟩ : Addr)) rfl) <| sOn 14 (decide_eq_true hc3) rfl rfl ?_
    refine st_rn (fun r => ex_load rfl r) h ?_; clear h; intro t16_1 w h
    refine sOn 14 (decide_eq_true hc3) rfl rfl <| st_val (ex_fa fa91_0 (p := t1) rfl) <| sOn 14 (decide_eq_true hc3) rfl rfl ?_
    refine st_rn (fun r => ex_load rfl r) h ?_; clear h; intro t18_1 w h
    refine sOn 14 (decide_eq_true hc3) rfl rfl ?_
    refine st_cal en123 rfl h ?_; clear h; intro t19_1 w h
    refine st_val (ex_pick1 (b := (decide (t9 = t11))) rfl (decide_eq_true hc3) (v := (.bool t19_1)) rfl) <| asg (.bool t19_1) rfl <| wl_nil ?_
    exact then_n ⟨t19_1, _, rfl, mk_upds' (ae rfl ae0), h⟩
   ·rw [if_neg hc3] at h
    refine sOff 14 (decide_eq_false hc3) rfl rfl <| sOff 14 (decide_eq_false hc3) rfl rfl <| sOff 14 (decide_eq_false hc3) rfl rfl <| sOff 14 (decide_eq_false hc3) rfl rfl <| sOff 14 (decide_eq_false hc3) rfl rfl <| st_val (ex_pick0 (b := (decide (t9 = t11))) rfl (decide_eq_false hc3) (v := (.bool false)) rfl) <| asg (.bool false) rfl <| wl_nil ?_
    exact then_n ⟨false, _, rfl, mk_upds' (ae rfl ae0), h⟩

def f123 (t0 : ByteArray) (t1 : ByteArray) (R : (Bool) → World → Prop) (w : World) : Prop :=
 Cal Try.prog (fun x : ByteArray × Bool => Value.tuple #[(.string x.1), (.bool x.2)]) 140 #[(.string t0)] w fun t11 w =>
 Cal Try.prog (fun x : ByteArray × Bool => Value.tuple #[(.string x.1), (.bool x.2)]) 140 #[(.string t1)] w fun t16 w =>
 Jn (σ := Bool) (fun k1 =>
  Cal Try.prog Value.bool 141 #[(.string t0)] w fun t20 w =>
  if t20 = true then
   Cal Try.prog Value.bool 141 #[(.string t1)] w fun t23 w =>
   if t23 = true then
    if t0 = t1 then
     k1 true w
    else
     if t11.2 = true then
      Cal Try.prog Value.bool 116 #[(.string t16.1), (.string t11.1)] w fun t34 w =>
      k1 t34 w
     else
      k1 false w
   else
    k1 false w
  else
   k1 false w
 ) fun s1 w =>
  R s1 w
theorem c123 {t0 : ByteArray} {t1 : ByteArray} {R : (Bool) → World → Prop} {w : World} (h : f123 t0 t1 R w) :
  Cal Try.prog Value.bool 123 #[(.string t0), (.string t1)] w R := by
 unfold f123 at h
 refine calls_ Try.func123 Try.ntmps123 rfl rfl <| seq_ <| region_ <| asg (.bool false) rfl <| wl_nil <| then_n <| seq_ <| region_ <| mv (.string t0) rfl ?_
 refine st_cal en140 rfl h ?_; clear h; intro t11 w h
 refine mv (.tuple #[(.string t11.1), (.bool t11.2)]) rfl <| st_val (ex_extract (u := (.tuple #[(.string t11.1), (.bool t11.2)])) rfl (v := (.string t11.1)) rfl) <| st_val (ex_extract (u := (.tuple #[(.string t11.1), (.bool t11.2)])) rfl (v := (.bool t11.2)) rfl) <| asg (.string t11.1) rfl <| asg (.bool t11.2) rfl <| wl_nil <| then_n <| seq_ <| region_ <| mv (.string t1) rfl ?_
 refine st_cal en140 rfl h ?_; clear h; intro t16 w h
 refine mv (.tuple #[(.string t16.1), (.bool t16.2)]) rfl <| st_val (ex_extract (u := (.tuple #[(.string t16.1), (.bool t16.2)])) rfl (v := (.string t16.1)) rfl) <| st_val (ex_extract (u := (.tuple #[(.string t16.1), (.bool t16.2)])) rfl (v := (.bool t16.2)) rfl) <| asg (.string t16.1) rfl <| asg (.bool t16.2) rfl <| wl_nil <| then_n ?_
 refine wp_jn (σ := Bool) (fun s1 l => ∃ j, l = upds j [(4, (.bool s1))]) h ?_ ?_
 ·clear h; rintro s1 _ w ⟨j, rfl⟩ h
  refine wp_ret ?_
  refine ret_1 rfl rfl ⟨s1, rfl, h⟩
 ·clear h; intro k1 h
  refine region_ <| mv (.string t0) rfl ?_
  refine st_cal en141 rfl h ?_; clear h; intro t20 w h
  refine mv (.bool t20) rfl ?_
  by_cases hc2 : t20 = true
  ·rw [if_pos hc2] at h
   refine sOn 21 hc2 rfl rfl <| mv (.string t1) rfl <| sOn 21 hc2 rfl rfl ?_
   refine st_cal en141 rfl h ?_; clear h; intro t23 w h
   refine st_val (ex_pick1 (b := t20) rfl hc2 (v := (.bool t23)) rfl) <| mv (.bool t23) rfl ?_
   by_cases hc3 : t23 = true
   ·rw [if_pos hc3] at h
    refine sOn 25 hc3 rfl rfl <| mv (.string t0) rfl <| sOn 25 hc3 rfl rfl <| mv (.string t1) rfl <| sOn 25 hc3 rfl rfl <| st_val (ex_eqlS (a := t0) (b := t1) rfl rfl) <| sOn 25 hc3 rfl rfl <| mv (.bool (decide (t0 = t1))) rfl ?_
    by_cases hc4 : t0 = t1
    ·rw [if_pos hc4] at h
     refine sOff 29 (decide_eq_true hc4) rfl rfl <| sOff 29 (decide_eq_true hc4) rfl rfl <| st_offu (t := 31) rfl rfl <| st_offu (t := 31) rfl rfl <| st_offu (t := 31) rfl rfl <| sOff 29 (decide_eq_true hc4) rfl rfl <| sOn 25 hc3 rfl rfl <| st_val (ex_pick1 (b := (decide (t0 = t1))) rfl (decide_eq_true hc4) (v := (.bool true)) rfl) <| st_val (ex_pick1 (b := t23) rfl hc3 (v := (.bool true)) rfl) <| asg (.bool true) rfl ?_
     refine wl_nil ?_
     exact then_n ⟨true, _, rfl, mk_upds' (ae rfl ae0), h⟩
    ·rw [if_neg hc4] at h
     refine sOn 29 (decide_eq_false hc4) rfl rfl <| mv (.bool t11.2) rfl <| sOn 29 (decide_eq_false hc4) rfl rfl <| mv (.bool t11.2) rfl ?_
     by_cases hc5 : t11.2 = true
     ·rw [if_pos hc5] at h
      refine sOn 31 hc5 rfl rfl <| mv (.string t16.1) rfl <| sOn 31 hc5 rfl rfl <| mv (.string t11.1) rfl <| sOn 31 hc5 rfl rfl ?_
      refine st_cal en116 rfl h ?_; clear h; intro t34 w h
      refine sOn 29 (decide_eq_false hc4) rfl rfl <| st_val (ex_pick1 (b := t11.2) rfl hc5 (v := (.bool t34)) rfl) <| sOn 25 hc3 rfl rfl <| st_val (ex_pick0 (b := (decide (t0 = t1))) rfl (decide_eq_false hc4) (v := (.bool t34)) rfl) <| st_val (ex_pick1 (b := t23) rfl hc3 (v := (.bool t34)) rfl) <| asg (.bool t34) rfl <| wl_nil ?_
      exact then_n ⟨t34, _, rfl, mk_upds' (ae rfl ae0), h⟩
     ·rw [if_neg hc5] at h
      refine sOff 31 (Bool.eq_false_iff.2 hc5) rfl rfl <| sOff 31 (Bool.eq_false_iff.2 hc5) rfl rfl <| sOff 31 (Bool.eq_false_iff.2 hc5) rfl rfl <| sOn 29 (decide_eq_false hc4) rfl rfl <| st_val (ex_pick0 (b := t11.2) rfl (Bool.eq_false_iff.2 hc5) (v := (.bool false)) rfl) <| sOn 25 hc3 rfl rfl <| st_val (ex_pick0 (b := (decide (t0 = t1))) rfl (decide_eq_false hc4) (v := (.bool false)) rfl) <| st_val (ex_pick1 (b := t23) rfl hc3 (v := (.bool false)) rfl) <| asg (.bool false) rfl <| wl_nil ?_
      exact then_n ⟨false, _, rfl, mk_upds' (ae rfl ae0), h⟩
   ·rw [if_neg hc3] at h
    refine sOff 25 (Bool.eq_false_iff.2 hc3) rfl rfl <| sOff 25 (Bool.eq_false_iff.2 hc3) rfl rfl <| sOff 25 (Bool.eq_false_iff.2 hc3) rfl rfl <| sOff 25 (Bool.eq_false_iff.2 hc3) rfl rfl <| st_offu (t := 29) rfl rfl <| st_offu (t := 29) rfl rfl <| st_offu (t := 31) rfl rfl <| st_offu (t := 31) rfl rfl <| st_offu (t := 31) rfl rfl <| st_offu (t := 29) rfl rfl ?_
    refine sOff 25 (Bool.eq_false_iff.2 hc3) rfl rfl <| st_val (ex_pick0 (b := t23) rfl (Bool.eq_false_iff.2 hc3) (v := (.bool false)) rfl) <| asg (.bool false) rfl <| wl_nil ?_
    exact then_n ⟨false, _, rfl, mk_upds' (ae rfl ae0), h⟩
  ·rw [if_neg hc2] at h
   refine sOff 21 (Bool.eq_false_iff.2 hc2) rfl rfl <| sOff 21 (Bool.eq_false_iff.2 hc2) rfl rfl <| st_val (ex_pick0 (b := t20) rfl (Bool.eq_false_iff.2 hc2) (v := (.bool false)) rfl) <| mv (.bool false) rfl <| sOff 25 (rfl : false = !true) rfl rfl <| sOff 25 (rfl : false = !true) rfl rfl <| sOff 25 (rfl : false = !true) rfl rfl <| sOff 25 (rfl : false = !true) rfl rfl <| st_offu (t := 29) rfl rfl <| st_offu (t := 29) rfl rfl ?_
   refine st_offu (t := 31) rfl rfl <| st_offu (t := 31) rfl rfl <| st_offu (t := 31) rfl rfl <| st_offu (t := 29) rfl rfl <| sOff 25 (rfl : false = !true) rfl rfl <| st_val (ex_pick0 (b := false) rfl (rfl : false = false) (v := (.bool false)) rfl) <| asg (.bool false) rfl <| wl_nil ?_
   exact then_n ⟨false, _, rfl, mk_upds' (ae rfl ae0), h⟩

def f124 (t0 : Sl) (t1 : Value) (R : (Int) → World → Prop) (w : World) : Prop :=
 Lp (σ := Int) (fun s1 w n1 =>
  if s1 < (t0.n : Int) then
   RnP Try.prog Ptr (Instr.indexAt 23 (Sl.v t0) (.int .i64 s1)) fun t14 =>
   Rn Try.prog TShare.v (Instr.loadAt 32 (Ptr t14)) w fun t15 w =>
   CalV Try.prog Value.bool t1 #[(TShare.v t15)] w fun t16 w =>
   if t16 = true then
    R s1 w
   else
    n1 (IntKind.i64.wrap (s1 + 1)) w
  else
   R (-1) w
 ) 0 w
theorem c124 {t0 : Sl} {t1 : Value} {R : (Int) → World → Prop} {w : World} (h : f124 t0 t1 R w) :
  Cal Try.prog (Value.int .i64) 124 #[(Sl.v t0), t1] w R := by
 unfold f124 at h
 refine calls_ Try.func124 Try.ntmps124 rfl rfl <| seq_ <| region_ <| asg (.int .i64 0) rfl <| wl_nil <| then_n <| seq_ <| seq_ <| region_ <| mv (Sl.v t0) rfl ?_
 refine st_val (ex_len (s := t0) Try.underlying23 rfl) <| mv (.int .i64 0) rfl <| wl_nil <| then_n <| wp_block <| wp_lp (σ := Int) (fun s1 a => ∃ j, a = F 19 (upds j [(0, (Sl.v t0)), (1, t1), (7, (.int .i64 (t0.n : Int))), (8, (.int .i64 s1))])) h (mk_upds (ae rfl (ae rfl (ae rfl (ae rfl ae0))))) ?_
 clear h; rintro s1 _ w n1 ⟨j, rfl⟩ h
 refine seq_ <| region_ <| st_val (ex_lss (a := s1) (b := (t0.n : Int)) rfl rfl) <| wl_nil <| then_n <| seq_ ?_
 by_cases hc2 : s1 < (t0.n : Int)
 ·rw [if_pos hc2] at h; refine cond_1 (b := (decide (s1 < (t0.n : Int)))) rfl (decide_eq_true hc2) ?_
  refine wp_skip <| then_n <| seq_ <| wp_block <| seq_ <| region_ <| mv (.int .i64 s1) rfl <| asg (.int .i64 s1) rfl <| wl_nil <| then_n ?_
  refine seq_ <| region_ <| mv t1 rfl <| mv (Sl.v t0) rfl <| mv (.int .i64 s1) rfl ?_
  refine st_rnp (fun r => ex_indexAddr rfl rfl r) h ?_; clear h; intro t14 h
  refine st_rn (fun r => ex_load rfl r) h ?_; clear h; intro t15 w h
  refine st_calv rfl rfl h ?_; clear h; intro t16 w h
  refine wl_nil <| then_n ?_
  by_cases hc3 : t16 = true
  ·rw [if_pos hc3] at h; refine cond_1 (b := t16) rfl hc3 ?_
   refine seq_ <| region_ <| mv (.int .i64 s1) rfl <| asg (.int .i64 s1) rfl <| wl_nil <| then_n <| wp_ret <| inb_r <| then_r <| then_r ?_
   refine inb_r <| then_r ?_
   refine ret_1 rfl rfl ⟨s1, rfl, h⟩
  ·rw [if_neg hc3] at h; refine cond_0 (b := t16) rfl (Bool.eq_false_iff.2 hc3) ?_
   refine wp_skip <| inb_n <| then_n <| region_ <| st_val (ex_add (a := s1) (b := 1) rfl rfl) <| mv (.int .i64 (IntKind.i64.wrap (s1 + 1))) rfl <| wl_nil ?_
   exact then_n ⟨(IntKind.i64.wrap (s1 + 1)), mk_upds (ae rfl (ae rfl (ae rfl (ae rfl ae0)))), h⟩
 ·rw [if_neg hc2] at h; refine cond_0 (b := (decide (s1 < (t0.n : Int)))) rfl (decide_eq_false hc2) ?_
  refine wp_exit <| then_e <| then_e <| inb_e <| then_n <| seq_ <| region_ <| asg (.int .i64 (-1)) rfl <| wl_nil <| then_n ?_
  refine wp_ret ?_
  refine ret_1 rfl rfl ⟨(-1), rfl, h⟩

def f125 (t0 : TShare) (t1 : Addr) (R : (Bool) → World → Prop) (w : World) : Prop :=
 New 32 (TShare.cells t0) w fun b2 w =>
 Rn Try.prog Value.string (Instr.loadAt 9 (Ptr ((⟨b2, 0, none⟩ : Addr).add 0))) w fun t5 w =>
 Rn Try.prog Value.string (Instr.loadAt 9 (Ptr t1)) w fun t6 w =>
 R (decide (t5 = t6)) w
theorem c125 {t0 : TShare} {t1 : Addr} {R : (Bool) → World → Prop} {w : World} (h : f125 t0 t1 R w) :
  Cal Try.prog Value.bool 125 #[(TShare.v t0), (Ptr t1)] w R := by
 unfold f125 at h
 refine calls_ Try.func125 Try.ntmps125 rfl rfl <| seq_ <| region_ ?_
 refine st_new (f := (fun b => Ptr ⟨b, 0, none⟩)) (ex_boxN rfl rfl) h ?_; clear h; intro b2 w h
 refine asg (.bool false) rfl <| wl_nil <| then_n <| seq_ <| region_ <| st_val (ex_fa fa32_0 (p := (⟨b2, 0, none⟩ : Addr)) rfl) ?_
 refine st_rn (fun r => ex_load rfl r) h ?_; clear h; intro t5 w h
 refine st_rn (fun r => ex_load rfl r) h ?_; clear h; intro t6 w h
 refine st_val (ex_eqlS (a := t5) (b := t6) rfl rfl) <| asg (.bool (decide (t5 = t6))) rfl <| wl_nil <| then_n <| wp_ret ?_
 refine ret_1 rfl rfl ⟨(decide (t5 = t6)), rfl, h⟩

def f126 (t0 : ByteArray) (R : (Bool) → World → Prop) (w : World) : Prop :=
 Cal Try.prog (fun x : ByteArray × Bool => Value.tuple #[(.string x.1), (.bool x.2)]) 127 #[(.string t0)] w fun t7 w =>
 Jn (σ := Bool) (fun k1 =>
  if t7.2 = true then
   if t7.1 = (⟨#[]⟩ : ByteArray) then
    k1 true w
   else
    Cal Try.prog Value.bool 142 #[(.string t7.1)] w fun t17 w =>
    k1 t17 w
  else
   Cal Try.prog Value.bool 142 #[(.string t7.1)] w fun t17_1 w =>
   k1 t17_1 w
 ) fun s1 w =>
  R s1 w
def f127 (t0 : ByteArray) (R : (ByteArray × Bool) → World → Prop) (w : World) : Prop :=
 Cal Try.prog Value.bool 143 #[(.string t0), (.string (⟨#[42]⟩ : ByteArray))] w fun t5 w =>
 if t5 = true then
  RnP Try.prog Value.string (Instr.sliceAt 9 (.string t0) none (some (.int .i64 (IntKind.i64.wrap ((t0.size : Int) - 1)))) none) fun t10 =>
  R (t10, true) w
 else
  R (t0, false) w
def f128 (t0 : ByteArray) (t1 : ByteArray) (R : (Bool) → World → Prop) (w : World) : Prop :=
 Jn (σ := Bool) (fun k1 =>
  if (t1.size : Int) ≤ (t0.size : Int) then
   RnP Try.prog Value.string (Instr.sliceAt 9 (.string t0) none (some (.int .i64 (t1.size : Int))) none) fun t14 =>
   k1 (decide (t14 = t1)) w
  else
   k1 false w
 ) fun s1 w =>
  R s1 w
def f129 (t0 : Sl) (t1 : ByteArray) (t2 : Nat) (R : (Sl) → World → Prop) (w : World) : Prop :=
 Lp (σ := Int) (fun s1 w n1 =>
  if s1 < (t0.n : Int) then
   RnP Try.prog Ptr (Instr.indexAt 23 (Sl.v t0) (.int .i64 s1)) fun t16 =>
   Rn Try.prog Value.string (Instr.loadAt 9 (Ptr (t16.add 0))) w fun t18 w =>
   if t18 = t1 then
    RnP Try.prog Ptr (Instr.indexAt 23 (Sl.v t0) (.int .i64 s1)) fun t25 =>
    Rn Try.prog (Value.float .f64) (Instr.loadAt 30 (Ptr (t25.add 1))) w fun t27 w =>
    Rn Try.prog (Value.float .f64) (Op.floatArith .add .f64 t27 t2) w fun t29 w =>
    RnP Try.prog Ptr (Instr.indexAt 23 (Sl.v t0) (.int .i64 s1)) fun t30 =>
    RnU Try.prog (Instr.storeAt 30 (Ptr (t30.add 1)) (.float .f64 t29)) w fun w =>
    R t0 w
   else
    n1 (IntKind.i64.wrap (s1 + 1)) w
  else
   Rn Try.prog (Value.float .f64) (Op.floatArith .add .f64 0 t2) w fun t36 w =>
   New 32 ((TShare.cells (⟨t1, t36⟩ : TShare))) w fun b38 w =>
   Rn Try.prog Sl.v (Builtin.append_ #[23, 23] 23 #[(Sl.v t0), (Sl.v (⟨some ⟨b38, 0, none⟩, 1, 1⟩ : Sl))]) w fun t39 w =>
   R t39 w
 ) 0 w
end Go.Proofs.Ytdoeegfcmbcbkaa.Tr


