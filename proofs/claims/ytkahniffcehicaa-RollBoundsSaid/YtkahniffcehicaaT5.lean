/- What is said of functions, and its proof, printed by drv.py. No condition: definitions and plain lemmas. -/
import Derived.Test.YtkahniffcehicaaTBR
import Derived.KernelRfl
namespace Go.Proofs.Try
open Go Go.RowKit Go.Eng Go.Sy
set_option maxRecDepth 1000000
set_option linter.unusedVariables false
set_option maxHeartbeats 4000000
noncomputable def nat0 : Nat → List AV → Option ES := fun _ _ => none
theorem nat0_ok : ∀ f vs k sp, nat0 f vs = some (.mk k sp) → NatE Try.prog f k sp := fun _ _ _ _ h => by cases h
noncomputable def noLp : LpF := fun _ _ _ _ _ => false
def ft_knows : XF := .mk 36 (.one 0) (.seq (.reg false 1 (.leaf [.p 0 (some 0) none (.mv (.c (.bool false)))])) (.seq (.reg false 4 (.leaf [.c 0 (some 4) none 8 [.c (.int 0 (.ofNat 3))], .c 1 (some 5) none 9 [.c (.int 0 (.ofNat 0))], .c 2 (some 6) none 7 [.t 4, .t 5, .c .nilS], .p 3 (some 1) none (.mv (.t 6))])) (.seq (.reg false 4 (.leaf [.p 0 (some 7) none (.mv (.t 1)), .c 1 (some 8) none 11 [.c (.int 0 (.ofNat 1))], .c 2 (some 9) none 10 [.t 7, .t 8], .p 3 (some 2) none (.mv (.t 9))])) (.seq (.reg false 3 (.leaf [.p 0 (some 10) none (.mv (.t 1)), .c 1 (some 11) none 14 [.t 10], .p 2 (some 3) none (.mv (.t 11))])) (.seq (.reg false 3 (.leaf [.p 0 (some 12) none (.mv (.t 1)), .c 1 (some 13) none 9 [.c (.int 0 (.ofNat 2))], .c 2 (some 14) none 19 [.t 12, .t 13, .c (.int 0 (.ofNat 1))]])) (.seq (.reg false 22 (.leaf [.p 0 (some 15) none (.mv (.t 2)), .c 1 (some 16) none 12 [.t 15], .p 2 (some 17) none (.bin 3 4 (.t 16) (.c (.int 0 (.ofNat 0)))), .p 3 (some 18) none (.mv (.t 17)), .p 4 (some 19) (some (18, true)) (.mv (.t 3)), .p 5 (some 20) (some (18, true)) (.bin 3 4 (.t 19) (.c (.int 0 (.ofNat 0)))), .p 6 (some 21) none (.pick (.t 18) (.t 20) (.c (.bool false))), .p 7 (some 22) none (.mv (.t 21)), .p 8 (some 23) (some (22, true)) (.mv (.t 1)), .c 9 (some 24) (some (22, true)) 14 [.t 23], .p 10 (some 25) (some (22, true)) (.bin 3 4 (.t 24) (.c (.int 0 (.ofNat 1)))), .p 11 (some 26) none (.pick (.t 22) (.t 25) (.c (.bool false))), .p 12 (some 27) none (.mv (.t 26)), .p 13 (some 28) (some (27, true)) (.mv (.t 1)), .c 14 (some 29) (some (27, true)) 15 [.t 28], .p 15 (some 30) (some (27, true)) (.bin 3 4 (.t 29) (.c (.int 0 (.ofNat 1)))), .p 16 (some 31) none (.pick (.t 27) (.t 30) (.c (.bool false))), .p 17 (some 32) none (.mv (.t 31)), .p 18 (some 33) (some (32, true)) (.mv (.t 1)), .c 19 (some 34) (some (32, true)) 26 [.t 33], .p 20 (some 35) none (.pick (.t 32) (.t 34) (.c (.bool false))), .p 21 (some 0) none (.mv (.t 35))])) .ret))))))
theorem ft_knows_ok : chkF Try.prog 16 ft_knows = true := by kernel_rfl
abbrev A_knows := Unit
noncomputable def I_knows (p : A_knows) : List AV × T × Nat := ([], .leaf, 0)
noncomputable def out_knows (p : A_knows) (K : AV → T → Nat → Bool) : Bool := K (.bool true) .leaf 0
theorem vf_knows (p : A_knows) (K : AV → T → Nat → Bool) (hK : out_knows p K = true) : (funE 0 (callX tb_tab nat0 noLp 600 40) noLp 600 ft_knows (I_knows p).1 (I_knows p).2.1 (I_knows p).2.2 K) = true := by
  have e : (funE 0 (callX tb_tab nat0 noLp 600 40) noLp 600 ft_knows (I_knows p).1 (I_knows p).2.1 (I_knows p).2.2 K) = (must (must (must (must (must (must (must (must (K (.bool true) .leaf 0) (true)) (must (must (K (.bool true) .leaf 0) (true)) (true))) (must (must (must (K (.bool true) .leaf 0) (true)) (must (must (K (.bool true) .leaf 0) (true)) (true))) (must (must (must (K (.bool true) .leaf 0) (true)) (must (must (K (.bool true) .leaf 0) (true)) (true))) (true)))) (true)) (must (must (must (must (must (K (.bool true) .leaf 0) (true)) (must (must (K (.bool true) .leaf 0) (true)) (true))) (must (must (must (K (.bool true) .leaf 0) (true)) (must (must (K (.bool true) .leaf 0) (true)) (true))) (must (must (must (K (.bool true) .leaf 0) (true)) (must (must (K (.bool true) .leaf 0) (true)) (true))) (true)))) (true)) (true))) (must (must (must (must (must (must (K (.bool true) .leaf 0) (true)) (must (must (K (.bool true) .leaf 0) (true)) (true))) (must (must (must (K (.bool true) .leaf 0) (true)) (must (must (K (.bool true) .leaf 0) (true)) (true))) (must (must (must (K (.bool true) .leaf 0) (true)) (must (must (K (.bool true) .leaf 0) (true)) (true))) (true)))) (true)) (must (must (must (must (must (K (.bool true) .leaf 0) (true)) (must (must (K (.bool true) .leaf 0) (true)) (true))) (must (must (must (K (.bool true) .leaf 0) (true)) (must (must (K (.bool true) .leaf 0) (true)) (true))) (must (must (must (K (.bool true) .leaf 0) (true)) (must (must (K (.bool true) .leaf 0) (true)) (true))) (true)))) (true)) (true))) (must (must (must (must (must (must (K (.bool true) .leaf 0) (true)) (must (must (K (.bool true) .leaf 0) (true)) (true))) (must (must (must (K (.bool true) .leaf 0) (true)) (must (must (K (.bool true) .leaf 0) (true)) (true))) (must (must (must (K (.bool true) .leaf 0) (true)) (must (must (K (.bool true) .leaf 0) (true)) (true))) (true)))) (true)) (must (must (must (must (must (K (.bool true) .leaf 0) (true)) (must (must (K (.bool true) .leaf 0) (true)) (true))) (must (must (must (K (.bool true) .leaf 0) (true)) (must (must (K (.bool true) .leaf 0) (true)) (true))) (must (must (must (K (.bool true) .leaf 0) (true)) (must (must (K (.bool true) .leaf 0) (true)) (true))) (true)))) (true)) (true))) (true)))) (must (must (must (must (must (must (K (.bool true) .leaf 0) (true)) (must (must (K (.bool true) .leaf 0) (true)) (true))) (must (must (must (K (.bool true) .leaf 0) (true)) (must (must (K (.bool true) .leaf 0) (true)) (true))) (must (must (must (K (.bool true) .leaf 0) (true)) (must (must (K (.bool true) .leaf 0) (true)) (true))) (true)))) (true)) (must (must (must (must (must (K (.bool true) .leaf 0) (true)) (must (must (K (.bool true) .leaf 0) (true)) (true))) (must (must (must (K (.bool true) .leaf 0) (true)) (must (must (K (.bool true) .leaf 0) (true)) (true))) (must (must (must (K (.bool true) .leaf 0) (true)) (must (must (K (.bool true) .leaf 0) (true)) (true))) (true)))) (true)) (true))) (must (must (must (must (must (must (K (.bool true) .leaf 0) (true)) (must (must (K (.bool true) .leaf 0) (true)) (true))) (must (must (must (K (.bool true) .leaf 0) (true)) (must (must (K (.bool true) .leaf 0) (true)) (true))) (must (must (must (K (.bool true) .leaf 0) (true)) (must (must (K (.bool true) .leaf 0) (true)) (true))) (true)))) (true)) (must (must (must (must (must (K (.bool true) .leaf 0) (true)) (must (must (K (.bool true) .leaf 0) (true)) (true))) (must (must (must (K (.bool true) .leaf 0) (true)) (must (must (K (.bool true) .leaf 0) (true)) (true))) (must (must (must (K (.bool true) .leaf 0) (true)) (must (must (K (.bool true) .leaf 0) (true)) (true))) (true)))) (true)) (true))) (must (must (must (must (must (must (K (.bool true) .leaf 0) (true)) (must (must (K (.bool true) .leaf 0) (true)) (true))) (must (must (must (K (.bool true) .leaf 0) (true)) (must (must (K (.bool true) .leaf 0) (true)) (true))) (must (must (must (K (.bool true) .leaf 0) (true)) (must (must (K (.bool true) .leaf 0) (true)) (true))) (true)))) (true)) (must (must (must (must (must (K (.bool true) .leaf 0) (true)) (must (must (K (.bool true) .leaf 0) (true)) (true))) (must (must (must (K (.bool true) .leaf 0) (true)) (must (must (K (.bool true) .leaf 0) (true)) (true))) (must (must (must (K (.bool true) .leaf 0) (true)) (must (must (K (.bool true) .leaf 0) (true)) (true))) (true)))) (true)) (true))) (true))))) (must (must (must (must (must (must (K (.bool true) .leaf 0) (true)) (must (must (K (.bool true) .leaf 0) (true)) (true))) (must (must (must (K (.bool true) .leaf 0) (true)) (must (must (K (.bool true) .leaf 0) (true)) (true))) (must (must (must (K (.bool true) .leaf 0) (true)) (must (must (K (.bool true) .leaf 0) (true)) (true))) (true)))) (true)) (must (must (must (must (must (K (.bool true) .leaf 0) (true)) (must (must (K (.bool true) .leaf 0) (true)) (true))) (must (must (must (K (.bool true) .leaf 0) (true)) (must (must (K (.bool true) .leaf 0) (true)) (true))) (must (must (must (K (.bool true) .leaf 0) (true)) (must (must (K (.bool true) .leaf 0) (true)) (true))) (true)))) (true)) (true))) (must (must (must (must (must (must (K (.bool true) .leaf 0) (true)) (must (must (K (.bool true) .leaf 0) (true)) (true))) (must (must (must (K (.bool true) .leaf 0) (true)) (must (must (K (.bool true) .leaf 0) (true)) (true))) (must (must (must (K (.bool true) .leaf 0) (true)) (must (must (K (.bool true) .leaf 0) (true)) (true))) (true)))) (true)) (must (must (must (must (must (K (.bool true) .leaf 0) (true)) (must (must (K (.bool true) .leaf 0) (true)) (true))) (must (must (must (K (.bool true) .leaf 0) (true)) (must (must (K (.bool true) .leaf 0) (true)) (true))) (must (must (must (K (.bool true) .leaf 0) (true)) (must (must (K (.bool true) .leaf 0) (true)) (true))) (true)))) (true)) (true))) (must (must (must (must (must (must (K (.bool true) .leaf 0) (true)) (must (must (K (.bool true) .leaf 0) (true)) (true))) (must (must (must (K (.bool true) .leaf 0) (true)) (must (must (K (.bool true) .leaf 0) (true)) (true))) (must (must (must (K (.bool true) .leaf 0) (true)) (must (must (K (.bool true) .leaf 0) (true)) (true))) (true)))) (true)) (must (must (must (must (must (K (.bool true) .leaf 0) (true)) (must (must (K (.bool true) .leaf 0) (true)) (true))) (must (must (must (K (.bool true) .leaf 0) (true)) (must (must (K (.bool true) .leaf 0) (true)) (true))) (must (must (must (K (.bool true) .leaf 0) (true)) (must (must (K (.bool true) .leaf 0) (true)) (true))) (true)))) (true)) (true))) (true))))) := by kernel_rfl
  refine Eq.trans e ?_
  clear e
  refine must_mk ?_ ?_
  ·
    refine must_mk ?_ ?_
    ·
      refine must_mk ?_ ?_
      ·
        refine must_mk ?_ ?_
        ·
          refine must_mk ?_ ?_
          ·
            refine must_mk ?_ ?_
            ·
              refine must_mk ?_ ?_
              ·
                refine must_mk ?_ ?_
                ·
                  exact hK
                ·
                  rfl
              ·
                refine must_mk ?_ ?_
                ·
                  refine must_mk ?_ ?_
                  ·
                    exact hK
                  ·
                    rfl
                ·
                  rfl
            ·
              refine must_mk ?_ ?_
              ·
                refine must_mk ?_ ?_
                ·
                  refine must_mk ?_ ?_
                  ·
                    exact hK
                  ·
                    rfl
                ·
                  refine must_mk ?_ ?_
                  ·
                    refine must_mk ?_ ?_
                    ·
                      exact hK
                    ·
                      rfl
                  ·
                    rfl
              ·
                refine must_mk ?_ ?_
                ·
                  refine must_mk ?_ ?_
                  ·
                    refine must_mk ?_ ?_
                    ·
                      exact hK
                    ·
                      rfl
                  ·
                    refine must_mk ?_ ?_
                    ·
                      refine must_mk ?_ ?_
                      ·
                        exact hK
                      ·
                        rfl
                    ·
                      rfl
                ·
                  rfl
          ·
            rfl
        ·
          refine must_mk ?_ ?_
          ·
            refine must_mk ?_ ?_
            ·
              refine must_mk ?_ ?_
              ·
                refine must_mk ?_ ?_
                ·
                  refine must_mk ?_ ?_
                  ·
                    exact hK
                  ·
                    rfl
                ·
                  refine must_mk ?_ ?_
                  ·
                    refine must_mk ?_ ?_
                    ·
                      exact hK
                    ·
                      rfl
                  ·
                    rfl
              ·
                refine must_mk ?_ ?_
                ·
                  refine must_mk ?_ ?_
                  ·
                    refine must_mk ?_ ?_
                    ·
                      exact hK
                    ·
                      rfl
                  ·
                    refine must_mk ?_ ?_
                    ·
                      refine must_mk ?_ ?_
                      ·
                        exact hK
                      ·
                        rfl
                    ·
                      rfl
                ·
                  refine must_mk ?_ ?_
                  ·
                    refine must_mk ?_ ?_
                    ·
                      refine must_mk ?_ ?_
                      ·
                        exact hK
                      ·
                        rfl
                    ·
                      refine must_mk ?_ ?_
                      ·
                        refine must_mk ?_ ?_
                        ·
                          exact hK
                        ·
                          rfl
                      ·
                        rfl
                  ·
                    rfl
            ·
              rfl
          ·
            rfl
      ·
        refine must_mk ?_ ?_
        ·
          refine must_mk ?_ ?_
          ·
            refine must_mk ?_ ?_
            ·
              refine must_mk ?_ ?_
              ·
                refine must_mk ?_ ?_
                ·
                  refine must_mk ?_ ?_
                  ·
                    exact hK
                  ·
                    rfl
                ·
                  refine must_mk ?_ ?_
                  ·
                    refine must_mk ?_ ?_
                    ·
                      exact hK
                    ·
                      rfl
                  ·
                    rfl
              ·
                refine must_mk ?_ ?_
                ·
                  refine must_mk ?_ ?_
                  ·
                    refine must_mk ?_ ?_
                    ·
                      exact hK
                    ·
                      rfl
                  ·
                    refine must_mk ?_ ?_
                    ·
                      refine must_mk ?_ ?_
                      ·
                        exact hK
                      ·
                        rfl
                    ·
                      rfl
                ·
                  refine must_mk ?_ ?_
                  ·
                    refine must_mk ?_ ?_
                    ·
                      refine must_mk ?_ ?_
                      ·
                        exact hK
                      ·
                        rfl
                    ·
                      refine must_mk ?_ ?_
                      ·
                        refine must_mk ?_ ?_
                        ·
                          exact hK
                        ·
                          rfl
                      ·
                        rfl
                  ·
                    rfl
            ·
              rfl
          ·
            refine must_mk ?_ ?_
            ·
              refine must_mk ?_ ?_
              ·
                refine must_mk ?_ ?_
                ·
                  refine must_mk ?_ ?_
                  ·
                    refine must_mk ?_ ?_
                    ·
                      exact hK
                    ·
                      rfl
                  ·
                    refine must_mk ?_ ?_
                    ·
                      refine must_mk ?_ ?_
                      ·
                        exact hK
                      ·
                        rfl
                    ·
                      rfl
                ·
                  refine must_mk ?_ ?_
                  ·
                    refine must_mk ?_ ?_
                    ·
                      refine must_mk ?_ ?_
                      ·
                        exact hK
                      ·
                        rfl
                    ·
                      refine must_mk ?_ ?_
                      ·
                        refine must_mk ?_ ?_
                        ·
                          exact hK
                        ·
                          rfl
                      ·
                        rfl
                  ·
                    refine must_mk ?_ ?_
                    ·
                      refine must_mk ?_ ?_
                      ·
                        refine must_mk ?_ ?_
                        ·
                          exact hK
                        ·
                          rfl
                      ·
                        refine must_mk ?_ ?_
                        ·
                          refine must_mk ?_ ?_
                          ·
                            exact hK
                          ·
                            rfl
                        ·
                          rfl
                    ·
                      rfl
              ·
                rfl
            ·
              rfl
        ·
          refine must_mk ?_ ?_
          ·
            refine must_mk ?_ ?_
            ·
              refine must_mk ?_ ?_
              ·
                refine must_mk ?_ ?_
                ·
                  refine must_mk ?_ ?_
                  ·
                    refine must_mk ?_ ?_
                    ·
                      exact hK
                    ·
                      rfl
                  ·
                    refine must_mk ?_ ?_
                    ·
                      refine must_mk ?_ ?_
                      ·
                        exact hK
                      ·
                        rfl
                    ·
                      rfl
                ·
                  refine must_mk ?_ ?_
                  ·
                    refine must_mk ?_ ?_
                    ·
                      refine must_mk ?_ ?_
                      ·
                        exact hK
                      ·
                        rfl
                    ·
                      refine must_mk ?_ ?_
                      ·
                        refine must_mk ?_ ?_
                        ·
                          exact hK
                        ·
                          rfl
                      ·
                        rfl
                  ·
                    refine must_mk ?_ ?_
                    ·
                      refine must_mk ?_ ?_
                      ·
                        refine must_mk ?_ ?_
                        ·
                          exact hK
                        ·
                          rfl
                      ·
                        refine must_mk ?_ ?_
                        ·
                          refine must_mk ?_ ?_
                          ·
                            exact hK
                          ·
                            rfl
                        ·
                          rfl
                    ·
                      rfl
              ·
                rfl
            ·
              refine must_mk ?_ ?_
              ·
                refine must_mk ?_ ?_
                ·
                  refine must_mk ?_ ?_
                  ·
                    refine must_mk ?_ ?_
                    ·
                      refine must_mk ?_ ?_
                      ·
                        exact hK
                      ·
                        rfl
                    ·
                      refine must_mk ?_ ?_
                      ·
                        refine must_mk ?_ ?_
                        ·
                          exact hK
                        ·
                          rfl
                      ·
                        rfl
                  ·
                    refine must_mk ?_ ?_
                    ·
                      refine must_mk ?_ ?_
                      ·
                        refine must_mk ?_ ?_
                        ·
                          exact hK
                        ·
                          rfl
                      ·
                        refine must_mk ?_ ?_
                        ·
                          refine must_mk ?_ ?_
                          ·
                            exact hK
                          ·
                            rfl
                        ·
                          rfl
                    ·
                      refine must_mk ?_ ?_
                      ·
                        refine must_mk ?_ ?_
                        ·
                          refine must_mk ?_ ?_
                          ·
                            exact hK
                          ·
                            rfl
                        ·
                          refine must_mk ?_ ?_
                          ·
                            refine must_mk ?_ ?_
                            ·
                              exact hK
                            ·
                              rfl
                          ·
                            rfl
                      ·
                        rfl
                ·
                  rfl
              ·
                rfl
          ·
            rfl
    ·
      refine must_mk ?_ ?_
      ·
        refine must_mk ?_ ?_
        ·
          refine must_mk ?_ ?_
          ·
            refine must_mk ?_ ?_
            ·
              refine must_mk ?_ ?_
              ·
                refine must_mk ?_ ?_
                ·
                  exact hK
                ·
                  rfl
              ·
                refine must_mk ?_ ?_
                ·
                  refine must_mk ?_ ?_
                  ·
                    exact hK
                  ·
                    rfl
                ·
                  rfl
            ·
              refine must_mk ?_ ?_
              ·
                refine must_mk ?_ ?_
                ·
                  refine must_mk ?_ ?_
                  ·
                    exact hK
                  ·
                    rfl
                ·
                  refine must_mk ?_ ?_
                  ·
                    refine must_mk ?_ ?_
                    ·
                      exact hK
                    ·
                      rfl
                  ·
                    rfl
              ·
                refine must_mk ?_ ?_
                ·
                  refine must_mk ?_ ?_
                  ·
                    refine must_mk ?_ ?_
                    ·
                      exact hK
                    ·
                      rfl
                  ·
                    refine must_mk ?_ ?_
                    ·
                      refine must_mk ?_ ?_
                      ·
                        exact hK
                      ·
                        rfl
                    ·
                      rfl
                ·
                  rfl
          ·
            rfl
        ·
          refine must_mk ?_ ?_
          ·
            refine must_mk ?_ ?_
            ·
              refine must_mk ?_ ?_
              ·
                refine must_mk ?_ ?_
                ·
                  refine must_mk ?_ ?_
                  ·
                    exact hK
                  ·
                    rfl
                ·
                  refine must_mk ?_ ?_
                  ·
                    refine must_mk ?_ ?_
                    ·
                      exact hK
                    ·
                      rfl
                  ·
                    rfl
              ·
                refine must_mk ?_ ?_
                ·
                  refine must_mk ?_ ?_
                  ·
                    refine must_mk ?_ ?_
                    ·
                      exact hK
                    ·
                      rfl
                  ·
                    refine must_mk ?_ ?_
                    ·
                      refine must_mk ?_ ?_
                      ·
                        exact hK
                      ·
                        rfl
                    ·
                      rfl
                ·
                  refine must_mk ?_ ?_
                  ·
                    refine must_mk ?_ ?_
                    ·
                      refine must_mk ?_ ?_
                      ·
                        exact hK
                      ·
                        rfl
                    ·
                      refine must_mk ?_ ?_
                      ·
                        refine must_mk ?_ ?_
                        ·
                          exact hK
                        ·
                          rfl
                      ·
                        rfl
                  ·
                    rfl
            ·
              rfl
          ·
            rfl
      ·
        refine must_mk ?_ ?_
        ·
          refine must_mk ?_ ?_
          ·
            refine must_mk ?_ ?_
            ·
              refine must_mk ?_ ?_
              ·
                refine must_mk ?_ ?_
                ·
                  refine must_mk ?_ ?_
                  ·
                    exact hK
                  ·
                    rfl
                ·
                  refine must_mk ?_ ?_
                  ·
                    refine must_mk ?_ ?_
                    ·
                      exact hK
                    ·
                      rfl
                  ·
                    rfl
              ·
                refine must_mk ?_ ?_
                ·
                  refine must_mk ?_ ?_
                  ·
                    refine must_mk ?_ ?_
                    ·
                      exact hK
                    ·
                      rfl
                  ·
                    refine must_mk ?_ ?_
                    ·
                      refine must_mk ?_ ?_
                      ·
                        exact hK
                      ·
                        rfl
                    ·
                      rfl
                ·
                  refine must_mk ?_ ?_
                  ·
                    refine must_mk ?_ ?_
                    ·
                      refine must_mk ?_ ?_
                      ·
                        exact hK
                      ·
                        rfl
                    ·
                      refine must_mk ?_ ?_
                      ·
                        refine must_mk ?_ ?_
                        ·
                          exact hK
                        ·
                          rfl
                      ·
                        rfl
                  ·
                    rfl
            ·
              rfl
          ·
            refine must_mk ?_ ?_
            ·
              refine must_mk ?_ ?_
              ·
                refine must_mk ?_ ?_
                ·
                  refine must_mk ?_ ?_
                  ·
                    refine must_mk ?_ ?_
                    ·
                      exact hK
                    ·
                      rfl
                  ·
                    refine must_mk ?_ ?_
                    ·
                      refine must_mk ?_ ?_
                      ·
                        exact hK
                      ·
                        rfl
                    ·
                      rfl
                ·
                  refine must_mk ?_ ?_
                  ·
                    refine must_mk ?_ ?_
                    ·
                      refine must_mk ?_ ?_
                      ·
                        exact hK
                      ·
                        rfl
                    ·
                      refine must_mk ?_ ?_
                      ·
                        refine must_mk ?_ ?_
                        ·
                          exact hK
                        ·
                          rfl
                      ·
                        rfl
                  ·
                    refine must_mk ?_ ?_
                    ·
                      refine must_mk ?_ ?_
                      ·
                        refine must_mk ?_ ?_
                        ·
                          exact hK
                        ·
                          rfl
                      ·
                        refine must_mk ?_ ?_
                        ·
                          refine must_mk ?_ ?_
                          ·
                            exact hK
                          ·
                            rfl
                        ·
                          rfl
                    ·
                      rfl
              ·
                rfl
            ·
              rfl
        ·
          refine must_mk ?_ ?_
          ·
            refine must_mk ?_ ?_
            ·
              refine must_mk ?_ ?_
              ·
                refine must_mk ?_ ?_
                ·
                  refine must_mk ?_ ?_
                  ·
                    refine must_mk ?_ ?_
                    ·
                      exact hK
                    ·
                      rfl
                  ·
                    refine must_mk ?_ ?_
                    ·
                      refine must_mk ?_ ?_
                      ·
                        exact hK
                      ·
                        rfl
                    ·
                      rfl
                ·
                  refine must_mk ?_ ?_
                  ·
                    refine must_mk ?_ ?_
                    ·
                      refine must_mk ?_ ?_
                      ·
                        exact hK
                      ·
                        rfl
                    ·
                      refine must_mk ?_ ?_
                      ·
                        refine must_mk ?_ ?_
                        ·
                          exact hK
                        ·
                          rfl
                      ·
                        rfl
                  ·
                    refine must_mk ?_ ?_
                    ·
                      refine must_mk ?_ ?_
                      ·
                        refine must_mk ?_ ?_
                        ·
                          exact hK
                        ·
                          rfl
                      ·
                        refine must_mk ?_ ?_
                        ·
                          refine must_mk ?_ ?_
                          ·
                            exact hK
                          ·
                            rfl
                        ·
                          rfl
                    ·
                      rfl
              ·
                rfl
            ·
              refine must_mk ?_ ?_
              ·
                refine must_mk ?_ ?_
                ·
                  refine must_mk ?_ ?_
                  ·
                    refine must_mk ?_ ?_
                    ·
                      refine must_mk ?_ ?_
                      ·
                        exact hK
                      ·
                        rfl
                    ·
                      refine must_mk ?_ ?_
                      ·
                        refine must_mk ?_ ?_
                        ·
                          exact hK
                        ·
                          rfl
                      ·
                        rfl
                  ·
                    refine must_mk ?_ ?_
                    ·
                      refine must_mk ?_ ?_
                      ·
                        refine must_mk ?_ ?_
                        ·
                          exact hK
                        ·
                          rfl
                      ·
                        refine must_mk ?_ ?_
                        ·
                          refine must_mk ?_ ?_
                          ·
                            exact hK
                          ·
                            rfl
                        ·
                          rfl
                    ·
                      refine must_mk ?_ ?_
                      ·
                        refine must_mk ?_ ?_
                        ·
                          refine must_mk ?_ ?_
                          ·
                            exact hK
                          ·
                            rfl
                        ·
                          refine must_mk ?_ ?_
                          ·
                            refine must_mk ?_ ?_
                            ·
                              exact hK
                            ·
                              rfl
                          ·
                            rfl
                      ·
                        rfl
                ·
                  rfl
              ·
                rfl
          ·
            rfl
  ·
    refine must_mk ?_ ?_
    ·
      refine must_mk ?_ ?_
      ·
        refine must_mk ?_ ?_
        ·
          refine must_mk ?_ ?_
          ·
            refine must_mk ?_ ?_
            ·
              refine must_mk ?_ ?_
              ·
                exact hK
              ·
                rfl
            ·
              refine must_mk ?_ ?_
              ·
                refine must_mk ?_ ?_
                ·
                  exact hK
                ·
                  rfl
              ·
                rfl
          ·
            refine must_mk ?_ ?_
            ·
              refine must_mk ?_ ?_
              ·
                refine must_mk ?_ ?_
                ·
                  exact hK
                ·
                  rfl
              ·
                refine must_mk ?_ ?_
                ·
                  refine must_mk ?_ ?_
                  ·
                    exact hK
                  ·
                    rfl
                ·
                  rfl
            ·
              refine must_mk ?_ ?_
              ·
                refine must_mk ?_ ?_
                ·
                  refine must_mk ?_ ?_
                  ·
                    exact hK
                  ·
                    rfl
                ·
                  refine must_mk ?_ ?_
                  ·
                    refine must_mk ?_ ?_
                    ·
                      exact hK
                    ·
                      rfl
                  ·
                    rfl
              ·
                rfl
        ·
          rfl
      ·
        refine must_mk ?_ ?_
        ·
          refine must_mk ?_ ?_
          ·
            refine must_mk ?_ ?_
            ·
              refine must_mk ?_ ?_
              ·
                refine must_mk ?_ ?_
                ·
                  exact hK
                ·
                  rfl
              ·
                refine must_mk ?_ ?_
                ·
                  refine must_mk ?_ ?_
                  ·
                    exact hK
                  ·
                    rfl
                ·
                  rfl
            ·
              refine must_mk ?_ ?_
              ·
                refine must_mk ?_ ?_
                ·
                  refine must_mk ?_ ?_
                  ·
                    exact hK
                  ·
                    rfl
                ·
                  refine must_mk ?_ ?_
                  ·
                    refine must_mk ?_ ?_
                    ·
                      exact hK
                    ·
                      rfl
                  ·
                    rfl
              ·
                refine must_mk ?_ ?_
                ·
                  refine must_mk ?_ ?_
                  ·
                    refine must_mk ?_ ?_
                    ·
                      exact hK
                    ·
                      rfl
                  ·
                    refine must_mk ?_ ?_
                    ·
                      refine must_mk ?_ ?_
                      ·
                        exact hK
                      ·
                        rfl
                    ·
                      rfl
                ·
                  rfl
          ·
            rfl
        ·
          rfl
    ·
      refine must_mk ?_ ?_
      ·
        refine must_mk ?_ ?_
        ·
          refine must_mk ?_ ?_
          ·
            refine must_mk ?_ ?_
            ·
              refine must_mk ?_ ?_
              ·
                refine must_mk ?_ ?_
                ·
                  exact hK
                ·
                  rfl
              ·
                refine must_mk ?_ ?_
                ·
                  refine must_mk ?_ ?_
                  ·
                    exact hK
                  ·
                    rfl
                ·
                  rfl
            ·
              refine must_mk ?_ ?_
              ·
                refine must_mk ?_ ?_
                ·
                  refine must_mk ?_ ?_
                  ·
                    exact hK
                  ·
                    rfl
                ·
                  refine must_mk ?_ ?_
                  ·
                    refine must_mk ?_ ?_
                    ·
                      exact hK
                    ·
                      rfl
                  ·
                    rfl
              ·
                refine must_mk ?_ ?_
                ·
                  refine must_mk ?_ ?_
                  ·
                    refine must_mk ?_ ?_
                    ·
                      exact hK
                    ·
                      rfl
                  ·
                    refine must_mk ?_ ?_
                    ·
                      refine must_mk ?_ ?_
                      ·
                        exact hK
                      ·
                        rfl
                    ·
                      rfl
                ·
                  rfl
          ·
            rfl
        ·
          refine must_mk ?_ ?_
          ·
            refine must_mk ?_ ?_
            ·
              refine must_mk ?_ ?_
              ·
                refine must_mk ?_ ?_
                ·
                  refine must_mk ?_ ?_
                  ·
                    exact hK
                  ·
                    rfl
                ·
                  refine must_mk ?_ ?_
                  ·
                    refine must_mk ?_ ?_
                    ·
                      exact hK
                    ·
                      rfl
                  ·
                    rfl
              ·
                refine must_mk ?_ ?_
                ·
                  refine must_mk ?_ ?_
                  ·
                    refine must_mk ?_ ?_
                    ·
                      exact hK
                    ·
                      rfl
                  ·
                    refine must_mk ?_ ?_
                    ·
                      refine must_mk ?_ ?_
                      ·
                        exact hK
                      ·
                        rfl
                    ·
                      rfl
                ·
                  refine must_mk ?_ ?_
                  ·
                    refine must_mk ?_ ?_
                    ·
                      refine must_mk ?_ ?_
                      ·
                        exact hK
                      ·
                        rfl
                    ·
                      refine must_mk ?_ ?_
                      ·
                        refine must_mk ?_ ?_
                        ·
                          exact hK
                        ·
                          rfl
                      ·
                        rfl
                  ·
                    rfl
            ·
              rfl
          ·
            rfl
      ·
        refine must_mk ?_ ?_
        ·
          refine must_mk ?_ ?_
          ·
            refine must_mk ?_ ?_
            ·
              refine must_mk ?_ ?_
              ·
                refine must_mk ?_ ?_
                ·
                  refine must_mk ?_ ?_
                  ·
                    exact hK
                  ·
                    rfl
                ·
                  refine must_mk ?_ ?_
                  ·
                    refine must_mk ?_ ?_
                    ·
                      exact hK
                    ·
                      rfl
                  ·
                    rfl
              ·
                refine must_mk ?_ ?_
                ·
                  refine must_mk ?_ ?_
                  ·
                    refine must_mk ?_ ?_
                    ·
                      exact hK
                    ·
                      rfl
                  ·
                    refine must_mk ?_ ?_
                    ·
                      refine must_mk ?_ ?_
                      ·
                        exact hK
                      ·
                        rfl
                    ·
                      rfl
                ·
                  refine must_mk ?_ ?_
                  ·
                    refine must_mk ?_ ?_
                    ·
                      refine must_mk ?_ ?_
                      ·
                        exact hK
                      ·
                        rfl
                    ·
                      refine must_mk ?_ ?_
                      ·
                        refine must_mk ?_ ?_
                        ·
                          exact hK
                        ·
                          rfl
                      ·
                        rfl
                  ·
                    rfl
            ·
              rfl
          ·
            refine must_mk ?_ ?_
            ·
              refine must_mk ?_ ?_
              ·
                refine must_mk ?_ ?_
                ·
                  refine must_mk ?_ ?_
                  ·
                    refine must_mk ?_ ?_
                    ·
                      exact hK
                    ·
                      rfl
                  ·
                    refine must_mk ?_ ?_
                    ·
                      refine must_mk ?_ ?_
                      ·
                        exact hK
                      ·
                        rfl
                    ·
                      rfl
                ·
                  refine must_mk ?_ ?_
                  ·
                    refine must_mk ?_ ?_
                    ·
                      refine must_mk ?_ ?_
                      ·
                        exact hK
                      ·
                        rfl
                    ·
                      refine must_mk ?_ ?_
                      ·
                        refine must_mk ?_ ?_
                        ·
                          exact hK
                        ·
                          rfl
                      ·
                        rfl
                  ·
                    refine must_mk ?_ ?_
                    ·
                      refine must_mk ?_ ?_
                      ·
                        refine must_mk ?_ ?_
                        ·
                          exact hK
                        ·
                          rfl
                      ·
                        refine must_mk ?_ ?_
                        ·
                          refine must_mk ?_ ?_
                          ·
                            exact hK
                          ·
                            rfl
                        ·
                          rfl
                    ·
                      rfl
              ·
                rfl
            ·
              rfl
        ·
          rfl
noncomputable def es_knows : SpecE := fun us M nx K => exB fun p : A_knows => must (prB ((us, M, nx) = I_knows p)) (out_knows p K)
theorem na_knows : NatE Try.prog 16 0 es_knows := by
  refine natE_of (xf := ft_knows) (lp := noLp) (lf := 600) tb_mix (callX_ok (lp := noLp) (lf := 600) tb_mix tb_all nat0_ok 40) ft_knows_ok (by rfl) (fun b j x h => by cases h) (fun us M nx K h => ?_)
  obtain ⟨p, h⟩ := exB_ok h
  obtain ⟨e, h9⟩ := mustP_ok h
  clear h
  have e1 : us = (I_knows p).1 := congrArg Prod.fst e
  have e2 : M = (I_knows p).2.1 := congrArg (fun x => x.2.1) e
  have e3 : nx = (I_knows p).2.2 := congrArg (fun x => x.2.2) e
  subst e1; subst e2; subst e3
  exact vf_knows p K h9
noncomputable def nat_knows (f : Nat) (vs : List AV) : Option ES := Bool.rec (nat0 f vs) (some (.mk 0 es_knows)) (hasS f 16 vs [])
theorem nat_knows_ok : ∀ f vs k sp, nat_knows f vs = some (.mk k sp) → NatE Try.prog f k sp := fun f vs k sp h => nat_step na_knows (nat0_ok f vs k sp) h
def ft_kill : XF := .mk 6 (.cell 2 true 18) (.seq (.reg false 1 (.leaf [.e 0 (some 2) none (.al 45 [.int 1 (.ofNat 0), .int 1 (.ofNat 0), .int 2 (.ofNat 0), .int 3 (.ofNat 0), .int 1 (.ofNat 0), .int 1 (.ofNat 0), .int 1 (.ofNat 0), .int 1 (.ofNat 0), .int 1 (.ofNat 0), .int 1 (.ofNat 0), .int 1 (.ofNat 0), .int 3 (.ofNat 0), .nilS, .int 1 (.ofNat 0), .str [], .nilS, .int 1 (.ofNat 0), .int 2 (.ofNat 0)])])) (.seq (.reg false 4 (.leaf [.p 0 (some 3) none (.mv (.t 0)), .c 1 (some 4) none 9 [.t 3], .p 2 (some 5) none (.bld [.int 1 (.ofNat 0), .int 1 (.ofNat 0), .int 2 (.ofNat 0), .int 3 (.ofNat 0), .int 1 (.ofNat 0), .int 1 (.ofNat 0), .int 1 (.ofNat 0), .int 1 (.ofNat 0), .int 1 (.ofNat 0), .int 1 (.ofNat 0), .int 1 (.ofNat 0), .int 3 (.ofNat 0), .nilS, .int 1 (.ofNat 0), .str [], .nilS, .int 1 (.ofNat 0), .int 2 (.ofNat 0)] [(0, 1), (16, 2)] [.c (.int 1 (.ofNat 2)), .t 4]), .e 3 none none (.st 18 (.t 2) (.t 5))])) .ret))
theorem ft_kill_ok : chkF Try.prog 11 ft_kill = true := by kernel_rfl
structure A_kill where
  n : Int
noncomputable def I_kill (p : A_kill) : List AV × T × Nat := ([.sy (.int 0 p.n)], .leaf, 0)
noncomputable def out_kill (p : A_kill) (K : AV → T → Nat → Bool) : Bool := K (.agg [.int 1 (.ofNat 2), .int 1 (.ofNat 0), .int 2 (.ofNat 0), .int 3 (.ofNat 0), .int 1 (.ofNat 0), .int 1 (.ofNat 0), .int 1 (.ofNat 0), .int 1 (.ofNat 0), .int 1 (.ofNat 0), .int 1 (.ofNat 0), .int 1 (.ofNat 0), .int 3 (.ofNat 0), .nilS, .int 1 (.ofNat 0), .str [], .nilS, .sy (.int 1 p.n), .int 2 (.ofNat 1)]) .leaf 0
def pre_kill (p : A_kill) : Prop := 0 ≤ p.n ∧ p.n < 256
theorem vf_kill (p : A_kill) (K : AV → T → Nat → Bool) (hpre : 0 ≤ p.n ∧ p.n < 256) (hK : out_kill p K = true) : (funE 0 (callX tb_tab nat_knows noLp 600 40) noLp 600 ft_kill (I_kill p).1 (I_kill p).2.1 (I_kill p).2.2 K) = true := by
  have e : (funE 0 (callX tb_tab nat_knows noLp 600 40) noLp 600 ft_kill (I_kill p).1 (I_kill p).2.1 (I_kill p).2.2 K) = (must (prB (InR 1 p.n)) (K (.agg [.int 1 (.ofNat 2), .int 1 (.ofNat 0), .int 2 (.ofNat 0), .int 3 (.ofNat 0), .int 1 (.ofNat 0), .int 1 (.ofNat 0), .int 1 (.ofNat 0), .int 1 (.ofNat 0), .int 1 (.ofNat 0), .int 1 (.ofNat 0), .int 1 (.ofNat 0), .int 3 (.ofNat 0), .nilS, .int 1 (.ofNat 0), .str [], .nilS, .sy (.int 1 p.n), .int 2 (.ofNat 1)]) .leaf 0)) := by kernel_rfl
  refine Eq.trans e ?_
  clear e
  refine mustP (show InR 1 p.n from by simp only [InR] ; omega) ?_
  exact hK
noncomputable def es_kill : SpecE := fun us M nx K => exB fun p : A_kill => must (prB ((us, M, nx) = I_kill p)) (must (prB (pre_kill p)) (out_kill p K))
theorem na_kill : NatE Try.prog 11 0 es_kill := by
  refine natE_of (xf := ft_kill) (lp := noLp) (lf := 600) tb_mix (callX_ok (lp := noLp) (lf := 600) tb_mix tb_all nat_knows_ok 40) ft_kill_ok (by rfl) (fun b j x h => by cases h) (fun us M nx K h => ?_)
  obtain ⟨p, h⟩ := exB_ok h
  obtain ⟨e, h9⟩ := mustP_ok h
  clear h
  have e1 : us = (I_kill p).1 := congrArg Prod.fst e
  have e2 : M = (I_kill p).2.1 := congrArg (fun x => x.2.1) e
  have e3 : nx = (I_kill p).2.2 := congrArg (fun x => x.2.2) e
  subst e1; subst e2; subst e3
  exact vf_kill p K (mustP_ok h9).1 (mustP_ok h9).2
noncomputable def nat_kill (f : Nat) (vs : List AV) : Option ES := Bool.rec (nat_knows f vs) (some (.mk 0 es_kill)) (hasS f 11 vs [(0, 20)])
theorem nat_kill_ok : ∀ f vs k sp, nat_kill f vs = some (.mk k sp) → NatE Try.prog f k sp := fun f vs k sp h => nat_step na_kill (nat_knows_ok f vs k sp) h
def ft_killL : XF := .mk 6 (.cell 2 true 18) (.pre [.up 0] (.seq (.reg false 1 (.leaf [.e 0 (some 2) none (.al 45 [.int 1 (.ofNat 0), .int 1 (.ofNat 0), .int 2 (.ofNat 0), .int 3 (.ofNat 0), .int 1 (.ofNat 0), .int 1 (.ofNat 0), .int 1 (.ofNat 0), .int 1 (.ofNat 0), .int 1 (.ofNat 0), .int 1 (.ofNat 0), .int 1 (.ofNat 0), .int 3 (.ofNat 0), .nilS, .int 1 (.ofNat 0), .str [], .nilS, .int 1 (.ofNat 0), .int 2 (.ofNat 0)])])) (.seq (.reg false 4 (.leaf [.p 0 (some 3) none (.mv (.t 0)), .c 1 (some 4) none 9 [.t 3], .p 2 (some 5) none (.bld [.int 1 (.ofNat 0), .int 1 (.ofNat 0), .int 2 (.ofNat 0), .int 3 (.ofNat 0), .int 1 (.ofNat 0), .int 1 (.ofNat 0), .int 1 (.ofNat 0), .int 1 (.ofNat 0), .int 1 (.ofNat 0), .int 1 (.ofNat 0), .int 1 (.ofNat 0), .int 3 (.ofNat 0), .nilS, .int 1 (.ofNat 0), .str [], .nilS, .int 1 (.ofNat 0), .int 2 (.ofNat 0)] [(0, 1), (16, 2)] [.c (.int 1 (.ofNat 2)), .t 4]), .e 3 none none (.st 18 (.t 2) (.t 5))])) .ret)))
theorem ft_killL_ok : chkF Try.prog 11 ft_killL = true := by kernel_rfl
structure A_killL where
  n : Int
noncomputable def I_killL (p : A_killL) : List AV × T × Nat := ([.int 0 p.n], .leaf, 0)
noncomputable def out_killL (p : A_killL) (K : AV → T → Nat → Bool) : Bool := K (.agg [.int 1 (.ofNat 2), .int 1 (.ofNat 0), .int 2 (.ofNat 0), .int 3 (.ofNat 0), .int 1 (.ofNat 0), .int 1 (.ofNat 0), .int 1 (.ofNat 0), .int 1 (.ofNat 0), .int 1 (.ofNat 0), .int 1 (.ofNat 0), .int 1 (.ofNat 0), .int 3 (.ofNat 0), .nilS, .int 1 (.ofNat 0), .str [], .nilS, .sy (.int 1 p.n), .int 2 (.ofNat 1)]) .leaf 0
def pre_killL (p : A_killL) : Prop := 0 ≤ p.n ∧ p.n < 256
theorem vf_killL (p : A_killL) (K : AV → T → Nat → Bool) (hpre : 0 ≤ p.n ∧ p.n < 256) (hK : out_killL p K = true) : (funE 0 (callX tb_tab nat_kill noLp 600 40) noLp 600 ft_killL (I_killL p).1 (I_killL p).2.1 (I_killL p).2.2 K) = true := by
  have e : (funE 0 (callX tb_tab nat_kill noLp 600 40) noLp 600 ft_killL (I_killL p).1 (I_killL p).2.1 (I_killL p).2.2 K) = (must (prB (InR 1 p.n)) (K (.agg [.int 1 (.ofNat 2), .int 1 (.ofNat 0), .int 2 (.ofNat 0), .int 3 (.ofNat 0), .int 1 (.ofNat 0), .int 1 (.ofNat 0), .int 1 (.ofNat 0), .int 1 (.ofNat 0), .int 1 (.ofNat 0), .int 1 (.ofNat 0), .int 1 (.ofNat 0), .int 3 (.ofNat 0), .nilS, .int 1 (.ofNat 0), .str [], .nilS, .sy (.int 1 p.n), .int 2 (.ofNat 1)]) .leaf 0)) := by kernel_rfl
  refine Eq.trans e ?_
  clear e
  refine mustP (show InR 1 p.n from by simp only [InR] ; omega) ?_
  exact hK
noncomputable def es_killL : SpecE := fun us M nx K => exB fun p : A_killL => must (prB ((us, M, nx) = I_killL p)) (must (prB (pre_killL p)) (out_killL p K))
theorem na_killL : NatE Try.prog 11 0 es_killL := by
  refine natE_of (xf := ft_killL) (lp := noLp) (lf := 600) tb_mix (callX_ok (lp := noLp) (lf := 600) tb_mix tb_all nat_kill_ok 40) ft_killL_ok (by rfl) (fun b j x h => by cases h) (fun us M nx K h => ?_)
  obtain ⟨p, h⟩ := exB_ok h
  obtain ⟨e, h9⟩ := mustP_ok h
  clear h
  have e1 : us = (I_killL p).1 := congrArg Prod.fst e
  have e2 : M = (I_killL p).2.1 := congrArg (fun x => x.2.1) e
  have e3 : nx = (I_killL p).2.2 := congrArg (fun x => x.2.2) e
  subst e1; subst e2; subst e3
  exact vf_killL p K (mustP_ok h9).1 (mustP_ok h9).2
noncomputable def nat_killL (f : Nat) (vs : List AV) : Option ES := Bool.rec (nat_kill f vs) (some (.mk 0 es_killL)) (hasS f 11 vs [(0, 1)])
theorem nat_killL_ok : ∀ f vs k sp, nat_killL f vs = some (.mk k sp) → NatE Try.prog f k sp := fun f vs k sp h => nat_step na_killL (nat_kill_ok f vs k sp) h
def encK (x : Int) : List PL := [.int 1 (.ofNat 2), .int 1 (.ofNat 0), .int 2 (.ofNat 0), .int 3 (.ofNat 0), .int 1 (.ofNat 0), .int 1 (.ofNat 0), .int 1 (.ofNat 0), .int 1 (.ofNat 0), .int 1 (.ofNat 0), .int 1 (.ofNat 0), .int 1 (.ofNat 0), .int 3 (.ofNat 0), .nilS, .int 1 (.ofNat 0), .str [], .nilS, .sint 1 x, .int 2 (.ofNat 1)]
theorem tk {α : Type} {l : List α} {i : Nat} {x : α} (h : l[i]? = some x) : l.take i ++ [x] = l.take (i + 1) := by rw [List.take_add_one, h]; rfl
theorem tkd {α : Type} {l : List α} {a i : Nat} {x : α} (h : l[a + i]? = some x) : (l.drop a).take i ++ [x] = (l.drop a).take (i + 1) := tk (by rw [List.getElem?_drop]; exact h)
def ft_clones_prow : XF := .mk 27 (.one 2) (.seq (.reg false 1 (.leaf [.p 0 (some 2) none (.mv (.c .nilS))])) (.seq (.reg false 4 (.leaf [.p 0 (some 6) none (.mv (.t 0)), .p 1 (some 7) none (.len 1 (.t 6)), .e 2 (some 8) none (.mks 45 18 104 [.int 1 (.ofNat 0), .int 1 (.ofNat 0), .int 2 (.ofNat 0), .int 3 (.ofNat 0), .int 1 (.ofNat 0), .int 1 (.ofNat 0), .int 1 (.ofNat 0), .int 1 (.ofNat 0), .int 1 (.ofNat 0), .int 1 (.ofNat 0), .int 1 (.ofNat 0), .int 3 (.ofNat 0), .nilS, .int 1 (.ofNat 0), .str [], .nilS, .int 1 (.ofNat 0), .int 2 (.ofNat 0)] (.c (.int 0 (.ofNat 0))) (.t 7)), .p 3 (some 3) none (.mv (.t 8))])) (.seq (.seq (.reg false 3 (.leaf [.p 0 (some 9) none (.mv (.t 0)), .p 1 (some 10) none (.len 1 (.t 9)), .p 2 (some 11) none (.mv (.c (.int 0 (.ofNat 0))))])) (.block 2 (.pre [.can 1 [3, 9, 10, 11], .born 3 45 18 Int encK, .up 11, .can 1 [3, 9, 10, 11]] (.inv 0 (.aft (.seq (.reg false 1 (.leaf [.p 0 (some 12) none (.bin 3 0 (.t 11) (.t 10))])) (.seq (.cond (.t 12) .skip (.exit 2)) (.seq (.block 3 (.seq (.reg false 4 (.leaf [.p 0 (some 13) none (.ixs 18 (.t 9) (.t 11)), .r 1 (some 14) none (.ld true 18 (.t 13)), .e 2 (some 5) none (.al 45 [.int 1 (.ofNat 0), .int 1 (.ofNat 0), .int 2 (.ofNat 0), .int 3 (.ofNat 0), .int 1 (.ofNat 0), .int 1 (.ofNat 0), .int 1 (.ofNat 0), .int 1 (.ofNat 0), .int 1 (.ofNat 0), .int 1 (.ofNat 0), .int 1 (.ofNat 0), .int 3 (.ofNat 0), .nilS, .int 1 (.ofNat 0), .str [], .nilS, .int 1 (.ofNat 0), .int 2 (.ofNat 0)]), .e 3 none none (.st 18 (.t 5) (.t 14))])) (.reg false 6 (.leaf [.p 0 (some 15) none (.mv (.t 3)), .r 1 (some 16) none (.ld true 18 (.t 5)), .c 2 (some 17) none 36 [.t 16], .e 3 (some 18) none (.bsl 45 18 1 [.int 1 (.ofNat 0), .int 1 (.ofNat 0), .int 2 (.ofNat 0), .int 3 (.ofNat 0), .int 1 (.ofNat 0), .int 1 (.ofNat 0), .int 1 (.ofNat 0), .int 1 (.ofNat 0), .int 1 (.ofNat 0), .int 1 (.ofNat 0), .int 1 (.ofNat 0), .int 3 (.ofNat 0), .nilS, .int 1 (.ofNat 0), .str [], .nilS, .int 1 (.ofNat 0), .int 2 (.ofNat 0)] [(0, 18)] [.t 17]), .e 4 (some 19) none (.app 45 18 104 (.t 15) (.t 18)), .p 5 (some 3) none (.mv (.t 19))])))) (.reg false 2 (.leaf [.p 0 (some 20) none (.bin 0 0 (.t 11) (.c (.int 0 (.ofNat 1)))), .p 1 (some 11) none (.mv (.t 20))]))))) [(0, [.can 1 [3, 9, 10, 11]]), (2, [.can 1 [3]])]))))) (.seq (.reg false 7 (.leaf [.p 0 (some 21) none (.mv (.t 3)), .p 1 (some 22) none (.mv (.t 3)), .p 2 (some 23) none (.len 1 (.t 22)), .p 3 (some 24) none (.mv (.t 3)), .p 4 (some 25) none (.len 1 (.t 24)), .r 5 (some 26) none (.sls 18 (.t 21) none (some (.t 23)) (some (.t 25))), .p 6 (some 2) none (.mv (.t 26))])) .ret))))
theorem ft_clones_prow_ok : chkF Try.prog 33 ft_clones_prow = true := by kernel_rfl
structure A_l_clones_prow where
  l : List Int
  o : List Int
  i : Int
structure R_l_clones_prow where
  o : List Int
noncomputable def I_l_clones_prow (p : A_l_clones_prow) : SL × T × Nat := ((.cons 11 (.sy (.int 0 p.i)) (.cons 10 (.sy (.int 0 (p.l.length : Int))) (.cons 9 (.sy (.prow 0 p.l.length)) (.cons 3 (.sy (.prow 1 p.o.length)) .nil)))), (.node (.node .leaf (some (.prow 45 18 Int p.o encK)) .leaf) (some (.prow 45 18 Int p.l encK)) .leaf), 2)
noncomputable def out_l_clones_prow (p : A_l_clones_prow) (K : Nat → SL → T → Nat → Bool) : Bool := allB fun r : R_l_clones_prow => ifB (prB (r.o = p.l ∧ r.o.length = p.l.length)) (K 2 (.cons 3 (.sy (.prow 1 r.o.length)) .nil) (.node (.node .leaf (some (.prow 45 18 Int r.o encK)) .leaf) (some (.prow 45 18 Int p.l encK)) .leaf) 2) true
def pre_l_clones_prow (p : A_l_clones_prow) : Prop := p.l.length ≤ 1000000 ∧ 0 ≤ p.i ∧ p.i ≤ (p.l.length : Int) ∧ p.o = p.l.take p.i.toNat
noncomputable def sp_l_clones_prow (p : A_l_clones_prow) (K : Nat → SL → T → Nat → Bool) : Bool := must (prB (pre_l_clones_prow p)) (out_l_clones_prow p K)
noncomputable def lp_clones_prow : LpF := fun j S M nx K => (Bool.rec (false) (exB fun p : A_l_clones_prow => must (prB ((S, M, nx) = I_l_clones_prow p)) (sp_l_clones_prow p K)) (Nat.beq j 0))
def mu_l_clones_prow (p : A_l_clones_prow) : Nat := ((p.l.length : Int) - p.i).toNat
def bd_l_clones_prow : XC := (.aft (.seq (.reg false 1 (.leaf [.p 0 (some 12) none (.bin 3 0 (.t 11) (.t 10))])) (.seq (.cond (.t 12) .skip (.exit 2)) (.seq (.block 3 (.seq (.reg false 4 (.leaf [.p 0 (some 13) none (.ixs 18 (.t 9) (.t 11)), .r 1 (some 14) none (.ld true 18 (.t 13)), .e 2 (some 5) none (.al 45 [.int 1 (.ofNat 0), .int 1 (.ofNat 0), .int 2 (.ofNat 0), .int 3 (.ofNat 0), .int 1 (.ofNat 0), .int 1 (.ofNat 0), .int 1 (.ofNat 0), .int 1 (.ofNat 0), .int 1 (.ofNat 0), .int 1 (.ofNat 0), .int 1 (.ofNat 0), .int 3 (.ofNat 0), .nilS, .int 1 (.ofNat 0), .str [], .nilS, .int 1 (.ofNat 0), .int 2 (.ofNat 0)]), .e 3 none none (.st 18 (.t 5) (.t 14))])) (.reg false 6 (.leaf [.p 0 (some 15) none (.mv (.t 3)), .r 1 (some 16) none (.ld true 18 (.t 5)), .c 2 (some 17) none 36 [.t 16], .e 3 (some 18) none (.bsl 45 18 1 [.int 1 (.ofNat 0), .int 1 (.ofNat 0), .int 2 (.ofNat 0), .int 3 (.ofNat 0), .int 1 (.ofNat 0), .int 1 (.ofNat 0), .int 1 (.ofNat 0), .int 1 (.ofNat 0), .int 1 (.ofNat 0), .int 1 (.ofNat 0), .int 1 (.ofNat 0), .int 3 (.ofNat 0), .nilS, .int 1 (.ofNat 0), .str [], .nilS, .int 1 (.ofNat 0), .int 2 (.ofNat 0)] [(0, 18)] [.t 17]), .e 4 (some 19) none (.app 45 18 104 (.t 15) (.t 18)), .p 5 (some 3) none (.mv (.t 19))])))) (.reg false 2 (.leaf [.p 0 (some 20) none (.bin 0 0 (.t 11) (.c (.int 0 (.ofNat 1)))), .p 1 (some 11) none (.mv (.t 20))]))))) [(0, [.can 1 [3, 9, 10, 11]]), (2, [.can 1 [3]])])
theorem vb_l_clones_prow (p : A_l_clones_prow) (K : Nat → SL → T → Nat → Bool) (hpre : p.l.length ≤ 1000000 ∧ 0 ≤ p.i ∧ p.i ≤ (p.l.length : Int) ∧ p.o = p.l.take p.i.toNat) (hK : out_l_clones_prow p K = true) : (codeX (callX tb_tab nat_killL noLp 600 40) lp_clones_prow 600 bd_l_clones_prow (I_l_clones_prow p).1 (I_l_clones_prow p).2.1 (I_l_clones_prow p).2.2 (fun e S M nx => Nat.casesOn e (exB fun q : A_l_clones_prow => must (prB ((S, M, nx) = I_l_clones_prow q ∧ mu_l_clones_prow q < mu_l_clones_prow p)) (sp_l_clones_prow q K)) (fun e2 => K (Nat.succ e2) S M nx))) = true := by
  have e : (codeX (callX tb_tab nat_killL noLp 600 40) lp_clones_prow 600 bd_l_clones_prow (I_l_clones_prow p).1 (I_l_clones_prow p).2.1 (I_l_clones_prow p).2.2 (fun e S M nx => Nat.casesOn e (exB fun q : A_l_clones_prow => must (prB ((S, M, nx) = I_l_clones_prow q ∧ mu_l_clones_prow q < mu_l_clones_prow p)) (sp_l_clones_prow q K)) (fun e2 => K (Nat.succ e2) S M nx))) = (ifB (prB (p.i < (p.l.length : Int))) (must (prB (0 ≤ p.i ∧ p.i < (p.l.length : Int))) (must (prB (p.i.toNat < p.l.length)) (allB fun x1 : Int => ifB (prB (p.l[p.i.toNat]? = some x1)) (must (prB (p.o.length = p.o.length)) (exB fun m1 : List Int => must (prB (m1.map encK = [[.int 1 (.ofNat 2), .int 1 (.ofNat 0), .int 2 (.ofNat 0), .int 3 (.ofNat 0), .int 1 (.ofNat 0), .int 1 (.ofNat 0), .int 1 (.ofNat 0), .int 1 (.ofNat 0), .int 1 (.ofNat 0), .int 1 (.ofNat 0), .int 1 (.ofNat 0), .int 3 (.ofNat 0), .nilS, .int 1 (.ofNat 0), .str [], .nilS, .sint 1 x1, .int 2 (.ofNat 1)]])) (must (prB (limP 104 (p.o.length + m1.length))) (must (prB (InR 0 (p.i + (1 : Int)))) (exB fun q1 : A_l_clones_prow => must (prB (((.cons 11 (.sy (.int 0 (p.i + (1 : Int)))) (.cons 10 (.sy (.int 0 (p.l.length : Int))) (.cons 9 (.sy (.prow 0 p.l.length)) (.cons 3 (.sy (.prow 1 ((p.o ++ m1).length))) .nil)))), (.node (.node .leaf (some (.prow 45 18 Int (p.o ++ m1) encK)) .leaf) (some (.prow 45 18 Int p.l encK)) .leaf), 2) = I_l_clones_prow q1 ∧ mu_l_clones_prow q1 < mu_l_clones_prow p)) (sp_l_clones_prow q1 K)))))) true))) (K 2 (.cons 3 (.sy (.prow 1 p.o.length)) .nil) (.node (.node .leaf (some (.prow 45 18 Int p.o encK)) .leaf) (some (.prow 45 18 Int p.l encK)) .leaf) 2)) := by kernel_rfl
  refine Eq.trans e ?_
  clear e
  obtain ⟨g0, g1, g2, g3⟩ := hpre
  refine ifP (fun (hc1 : p.i < (p.l.length : Int)) => ?_) (fun (hc1 : ¬ (p.i < (p.l.length : Int))) => ?_)
  ·
    refine mustP (show 0 ≤ p.i ∧ p.i < (p.l.length : Int) from by first | omega | (constructor <;> omega)) ?_
    refine mustP (show p.i.toNat < p.l.length from by omega) ?_
    refine allB_mk (fun x1 => ?_)
    refine ifP (fun (hi2 : p.l[p.i.toNat]? = some x1) => ?_) (fun _ => rfl)
    refine mustP (rfl) ?_
    refine exB_mk [x1] ?_
    refine mustP (rfl) ?_
    refine mustP (show limP 104 (p.o.length + [x1].length) from (by simp only [limP, List.length_cons, List.length_nil, g3, List.length_take] ; omega)) ?_
    refine mustP (show InR 0 (p.i + (1 : Int)) from by simp only [InR] ; omega) ?_
    refine exB_mk (⟨p.l, p.o ++ [x1], p.i + (1 : Int)⟩ : A_l_clones_prow) ?_
    refine mustP (⟨rfl, show ((p.l.length : Int) - (p.i + (1 : Int))).toNat < ((p.l.length : Int) - p.i).toNat from by omega⟩) ?_
    exact mustP (show p.l.length ≤ 1000000 ∧ 0 ≤ (p.i + (1 : Int)) ∧ (p.i + (1 : Int)) ≤ (p.l.length : Int) ∧ (p.o ++ [x1]) = p.l.take (p.i + (1 : Int)).toNat from (by refine ⟨g0, by omega, by omega, ?_⟩ ; rw [show (p.i + 1).toNat = p.i.toNat + 1 by omega, g3] ; exact tk (by assumption))) hK
  ·
    exact ifB_use (show p.o = p.l ∧ p.o.length = p.l.length from (by have e : p.o = p.l := (by rw [g3] ; exact List.take_of_length_le (by omega)) ; exact ⟨e, by (first | (rw [e] ; done) | (rw [e] ; simp ; omega))⟩)) (allB_ok hK (⟨p.o⟩ : R_l_clones_prow))
theorem lo_l_clones_prow : LpOk Try.prog 27 1 lp_clones_prow true 0 bd_l_clones_prow := by
  exact lp_of (lf := 600) tb_mix (callX_ok (lp := noLp) (lf := 600) tb_mix tb_all nat_killL_ok 40) (by rfl) I_l_clones_prow mu_l_clones_prow sp_l_clones_prow (fun b j x h => by cases h) (fun S M nx K h => by obtain ⟨p, h⟩ := exB_ok h; exact ⟨p, (mustP_ok h).1, (mustP_ok h).2⟩) (fun p K h => vb_l_clones_prow p K (mustP_ok h).1 (mustP_ok h).2)
structure A_clones_prow where
  l : List Int
structure R_clones_prow where
  o : List Int
noncomputable def I_clones_prow (p : A_clones_prow) : List AV × T × Nat := ([.sy (.prow 0 p.l.length)], (.node .leaf (some (.prow 45 18 Int p.l encK)) .leaf), 1)
noncomputable def out_clones_prow (p : A_clones_prow) (K : AV → T → Nat → Bool) : Bool := allB fun r : R_clones_prow => ifB (prB (r.o = p.l ∧ r.o.length = p.l.length)) (K (.sy (.pfix 1 r.o.length r.o.length)) (.node (.node .leaf (some (.prow 45 18 Int r.o encK)) .leaf) (some (.prow 45 18 Int p.l encK)) .leaf) 2) true
def pre_clones_prow (p : A_clones_prow) : Prop := p.l.length ≤ 1000000
theorem vf_clones_prow (p : A_clones_prow) (K : AV → T → Nat → Bool) (hpre : p.l.length ≤ 1000000) (hK : out_clones_prow p K = true) : (funE 1 (callX tb_tab nat_killL noLp 600 40) lp_clones_prow 600 ft_clones_prow (I_clones_prow p).1 (I_clones_prow p).2.1 (I_clones_prow p).2.2 K) = true := by
  have e : (funE 1 (callX tb_tab nat_killL noLp 600 40) lp_clones_prow 600 ft_clones_prow (I_clones_prow p).1 (I_clones_prow p).2.1 (I_clones_prow p).2.2 K) = (must (prB ((0 : Int) = 0 ∧ 0 ≤ (p.l.length : Int) ∧ (p.l.length : Int) ≤ 9223372036854775807 ∧ ((104 : Nat) : Int) * (p.l.length : Int) ≤ 140737488355328)) (must (prB (([] : List Unit) = [])) (exB fun p1 : A_l_clones_prow => must (prB (((.cons 11 (.sy (.int 0 0)) (.cons 10 (.sy (.int 0 (p.l.length : Int))) (.cons 9 (.sy (.prow 0 p.l.length)) (.cons 3 (.sy (.prow 1 0)) .nil)))), (.node (.node .leaf (some (.prow 45 18 Int ([] : List Int) encK)) .leaf) (some (.prow 45 18 Int p.l encK)) .leaf), 2) = I_l_clones_prow p1)) (must (prB (p1.l.length ≤ 1000000 ∧ 0 ≤ p1.i ∧ p1.i ≤ (p1.l.length : Int) ∧ p1.o = p1.l.take p1.i.toNat)) (allB fun r1 : R_l_clones_prow => ifB (prB (r1.o = p1.l ∧ r1.o.length = p1.l.length)) (must (prB (r1.o.length = r1.o.length ∧ (0 : Int) = 0 ∧ (r1.o.length : Int) = (r1.o.length : Int) ∧ (r1.o.length : Int) = (r1.o.length : Int))) (K (.sy (.pfix 1 r1.o.length r1.o.length)) (.node (.node .leaf (some (.prow 45 18 Int r1.o encK)) .leaf) (some (.prow 45 18 Int p1.l encK)) .leaf) 2)) true))))) := by kernel_rfl
  refine Eq.trans e ?_
  clear e
  have h1 := hpre
  refine mustP (⟨rfl, by omega⟩) ?_
  refine mustP (rfl) ?_
  refine exB_mk (⟨p.l, ([] : List Int), (0 : Int)⟩ : A_l_clones_prow) ?_
  refine mustP (rfl) ?_
  refine mustP (show p.l.length ≤ 1000000 ∧ 0 ≤ (0 : Int) ∧ (0 : Int) ≤ (p.l.length : Int) ∧ ([] : List Int) = p.l.take (0 : Int).toNat from (by refine ⟨h1, by omega, by omega, rfl⟩)) ?_
  refine allB_mk (fun r1 => ?_)
  refine ifP (fun (hi1 : r1.o = p.l ∧ r1.o.length = p.l.length) => ?_) (fun _ => rfl)
  refine mustP (show r1.o.length = r1.o.length ∧ (0 : Int) = 0 ∧ (r1.o.length : Int) = (r1.o.length : Int) ∧ (r1.o.length : Int) = (r1.o.length : Int) from by first | omega | (simp ; done) | (simp ; omega)) ?_
  exact ifB_use (show r1.o = p.l ∧ r1.o.length = p.l.length from (by assumption)) (allB_ok hK (⟨r1.o⟩ : R_clones_prow))
noncomputable def es_clones_prow : SpecE := fun us M nx K => exB fun p : A_clones_prow => must (prB ((us, M, nx) = I_clones_prow p)) (must (prB (pre_clones_prow p)) (out_clones_prow p K))
theorem na_clones_prow : NatE Try.prog 33 1 es_clones_prow := by
  refine natE_of (xf := ft_clones_prow) (lp := lp_clones_prow) (lf := 600) tb_mix (callX_ok (lp := noLp) (lf := 600) tb_mix tb_all nat_killL_ok 40) ft_clones_prow_ok (by rfl) (fun b j x h => (mem_step lo_l_clones_prow (fun h => (by cases h)) h)) (fun us M nx K h => ?_)
  obtain ⟨p, h⟩ := exB_ok h
  obtain ⟨e, h9⟩ := mustP_ok h
  clear h
  have e1 : us = (I_clones_prow p).1 := congrArg Prod.fst e
  have e2 : M = (I_clones_prow p).2.1 := congrArg (fun x => x.2.1) e
  have e3 : nx = (I_clones_prow p).2.2 := congrArg (fun x => x.2.2) e
  subst e1; subst e2; subst e3
  exact vf_clones_prow p K (mustP_ok h9).1 (mustP_ok h9).2
noncomputable def nat_clones_prow (f : Nat) (vs : List AV) : Option ES := Bool.rec (nat_killL f vs) (some (.mk 1 es_clones_prow)) (hasS f 33 vs [(0, 25)])
theorem nat_clones_prow_ok : ∀ f vs k sp, nat_clones_prow f vs = some (.mk k sp) → NatE Try.prog f k sp := fun f vs k sp h => nat_step na_clones_prow (nat_killL_ok f vs k sp) h
def ft_clones_psub : XF := .mk 27 (.one 2) (.seq (.reg false 1 (.leaf [.p 0 (some 2) none (.mv (.c .nilS))])) (.seq (.reg false 4 (.leaf [.p 0 (some 6) none (.mv (.t 0)), .p 1 (some 7) none (.len 1 (.t 6)), .e 2 (some 8) none (.mks 45 18 104 [.int 1 (.ofNat 0), .int 1 (.ofNat 0), .int 2 (.ofNat 0), .int 3 (.ofNat 0), .int 1 (.ofNat 0), .int 1 (.ofNat 0), .int 1 (.ofNat 0), .int 1 (.ofNat 0), .int 1 (.ofNat 0), .int 1 (.ofNat 0), .int 1 (.ofNat 0), .int 3 (.ofNat 0), .nilS, .int 1 (.ofNat 0), .str [], .nilS, .int 1 (.ofNat 0), .int 2 (.ofNat 0)] (.c (.int 0 (.ofNat 0))) (.t 7)), .p 3 (some 3) none (.mv (.t 8))])) (.seq (.seq (.reg false 3 (.leaf [.p 0 (some 9) none (.mv (.t 0)), .p 1 (some 10) none (.len 1 (.t 9)), .p 2 (some 11) none (.mv (.c (.int 0 (.ofNat 0))))])) (.block 2 (.pre [.can 1 [3, 9, 10, 11], .born 3 45 18 Int encK, .up 11, .can 1 [3, 9, 10, 11]] (.inv 0 (.aft (.seq (.reg false 1 (.leaf [.p 0 (some 12) none (.bin 3 0 (.t 11) (.t 10))])) (.seq (.cond (.t 12) .skip (.exit 2)) (.seq (.block 3 (.seq (.reg false 4 (.leaf [.p 0 (some 13) none (.ixs 18 (.t 9) (.t 11)), .r 1 (some 14) none (.ld true 18 (.t 13)), .e 2 (some 5) none (.al 45 [.int 1 (.ofNat 0), .int 1 (.ofNat 0), .int 2 (.ofNat 0), .int 3 (.ofNat 0), .int 1 (.ofNat 0), .int 1 (.ofNat 0), .int 1 (.ofNat 0), .int 1 (.ofNat 0), .int 1 (.ofNat 0), .int 1 (.ofNat 0), .int 1 (.ofNat 0), .int 3 (.ofNat 0), .nilS, .int 1 (.ofNat 0), .str [], .nilS, .int 1 (.ofNat 0), .int 2 (.ofNat 0)]), .e 3 none none (.st 18 (.t 5) (.t 14))])) (.reg false 6 (.leaf [.p 0 (some 15) none (.mv (.t 3)), .r 1 (some 16) none (.ld true 18 (.t 5)), .c 2 (some 17) none 36 [.t 16], .e 3 (some 18) none (.bsl 45 18 1 [.int 1 (.ofNat 0), .int 1 (.ofNat 0), .int 2 (.ofNat 0), .int 3 (.ofNat 0), .int 1 (.ofNat 0), .int 1 (.ofNat 0), .int 1 (.ofNat 0), .int 1 (.ofNat 0), .int 1 (.ofNat 0), .int 1 (.ofNat 0), .int 1 (.ofNat 0), .int 3 (.ofNat 0), .nilS, .int 1 (.ofNat 0), .str [], .nilS, .int 1 (.ofNat 0), .int 2 (.ofNat 0)] [(0, 18)] [.t 17]), .e 4 (some 19) none (.app 45 18 104 (.t 15) (.t 18)), .p 5 (some 3) none (.mv (.t 19))])))) (.reg false 2 (.leaf [.p 0 (some 20) none (.bin 0 0 (.t 11) (.c (.int 0 (.ofNat 1)))), .p 1 (some 11) none (.mv (.t 20))]))))) [(0, [.can 1 [3, 9, 10, 11]]), (2, [.can 1 [3]])]))))) (.seq (.reg false 7 (.leaf [.p 0 (some 21) none (.mv (.t 3)), .p 1 (some 22) none (.mv (.t 3)), .p 2 (some 23) none (.len 1 (.t 22)), .p 3 (some 24) none (.mv (.t 3)), .p 4 (some 25) none (.len 1 (.t 24)), .r 5 (some 26) none (.sls 18 (.t 21) none (some (.t 23)) (some (.t 25))), .p 6 (some 2) none (.mv (.t 26))])) .ret))))
theorem ft_clones_psub_ok : chkF Try.prog 33 ft_clones_psub = true := by kernel_rfl
structure A_l_clones_psub where
  l : List Int
  a : Nat
  n : Nat
  o : List Int
  i : Int
structure R_l_clones_psub where
  o : List Int
noncomputable def I_l_clones_psub (p : A_l_clones_psub) : SL × T × Nat := ((.cons 11 (.sy (.int 0 p.i)) (.cons 10 (.sy (.int 0 (p.n : Int))) (.cons 9 (.sy (.psub 0 18 p.a p.n)) (.cons 3 (.sy (.prow 1 p.o.length)) .nil)))), (.node (.node .leaf (some (.prow 45 18 Int p.o encK)) .leaf) (some (.prow 45 18 Int p.l encK)) .leaf), 2)
noncomputable def out_l_clones_psub (p : A_l_clones_psub) (K : Nat → SL → T → Nat → Bool) : Bool := allB fun r : R_l_clones_psub => ifB (prB (r.o = (p.l.drop p.a).take p.n ∧ r.o.length = p.n)) (K 2 (.cons 3 (.sy (.prow 1 r.o.length)) .nil) (.node (.node .leaf (some (.prow 45 18 Int r.o encK)) .leaf) (some (.prow 45 18 Int p.l encK)) .leaf) 2) true
def pre_l_clones_psub (p : A_l_clones_psub) : Prop := p.a + p.n ≤ p.l.length ∧ p.n ≤ 1000000 ∧ 0 ≤ p.i ∧ p.i ≤ (p.n : Int) ∧ p.o = (p.l.drop p.a).take p.i.toNat
noncomputable def sp_l_clones_psub (p : A_l_clones_psub) (K : Nat → SL → T → Nat → Bool) : Bool := must (prB (pre_l_clones_psub p)) (out_l_clones_psub p K)
noncomputable def lp_clones_psub : LpF := fun j S M nx K => (Bool.rec (false) (exB fun p : A_l_clones_psub => must (prB ((S, M, nx) = I_l_clones_psub p)) (sp_l_clones_psub p K)) (Nat.beq j 0))
def mu_l_clones_psub (p : A_l_clones_psub) : Nat := ((p.n : Int) - p.i).toNat
def bd_l_clones_psub : XC := (.aft (.seq (.reg false 1 (.leaf [.p 0 (some 12) none (.bin 3 0 (.t 11) (.t 10))])) (.seq (.cond (.t 12) .skip (.exit 2)) (.seq (.block 3 (.seq (.reg false 4 (.leaf [.p 0 (some 13) none (.ixs 18 (.t 9) (.t 11)), .r 1 (some 14) none (.ld true 18 (.t 13)), .e 2 (some 5) none (.al 45 [.int 1 (.ofNat 0), .int 1 (.ofNat 0), .int 2 (.ofNat 0), .int 3 (.ofNat 0), .int 1 (.ofNat 0), .int 1 (.ofNat 0), .int 1 (.ofNat 0), .int 1 (.ofNat 0), .int 1 (.ofNat 0), .int 1 (.ofNat 0), .int 1 (.ofNat 0), .int 3 (.ofNat 0), .nilS, .int 1 (.ofNat 0), .str [], .nilS, .int 1 (.ofNat 0), .int 2 (.ofNat 0)]), .e 3 none none (.st 18 (.t 5) (.t 14))])) (.reg false 6 (.leaf [.p 0 (some 15) none (.mv (.t 3)), .r 1 (some 16) none (.ld true 18 (.t 5)), .c 2 (some 17) none 36 [.t 16], .e 3 (some 18) none (.bsl 45 18 1 [.int 1 (.ofNat 0), .int 1 (.ofNat 0), .int 2 (.ofNat 0), .int 3 (.ofNat 0), .int 1 (.ofNat 0), .int 1 (.ofNat 0), .int 1 (.ofNat 0), .int 1 (.ofNat 0), .int 1 (.ofNat 0), .int 1 (.ofNat 0), .int 1 (.ofNat 0), .int 3 (.ofNat 0), .nilS, .int 1 (.ofNat 0), .str [], .nilS, .int 1 (.ofNat 0), .int 2 (.ofNat 0)] [(0, 18)] [.t 17]), .e 4 (some 19) none (.app 45 18 104 (.t 15) (.t 18)), .p 5 (some 3) none (.mv (.t 19))])))) (.reg false 2 (.leaf [.p 0 (some 20) none (.bin 0 0 (.t 11) (.c (.int 0 (.ofNat 1)))), .p 1 (some 11) none (.mv (.t 20))]))))) [(0, [.can 1 [3, 9, 10, 11]]), (2, [.can 1 [3]])])
theorem vb_l_clones_psub (p : A_l_clones_psub) (K : Nat → SL → T → Nat → Bool) (hpre : p.a + p.n ≤ p.l.length ∧ p.n ≤ 1000000 ∧ 0 ≤ p.i ∧ p.i ≤ (p.n : Int) ∧ p.o = (p.l.drop p.a).take p.i.toNat) (hK : out_l_clones_psub p K = true) : (codeX (callX tb_tab nat_clones_prow noLp 600 40) lp_clones_psub 600 bd_l_clones_psub (I_l_clones_psub p).1 (I_l_clones_psub p).2.1 (I_l_clones_psub p).2.2 (fun e S M nx => Nat.casesOn e (exB fun q : A_l_clones_psub => must (prB ((S, M, nx) = I_l_clones_psub q ∧ mu_l_clones_psub q < mu_l_clones_psub p)) (sp_l_clones_psub q K)) (fun e2 => K (Nat.succ e2) S M nx))) = true := by
  have e : (codeX (callX tb_tab nat_clones_prow noLp 600 40) lp_clones_psub 600 bd_l_clones_psub (I_l_clones_psub p).1 (I_l_clones_psub p).2.1 (I_l_clones_psub p).2.2 (fun e S M nx => Nat.casesOn e (exB fun q : A_l_clones_psub => must (prB ((S, M, nx) = I_l_clones_psub q ∧ mu_l_clones_psub q < mu_l_clones_psub p)) (sp_l_clones_psub q K)) (fun e2 => K (Nat.succ e2) S M nx))) = (ifB (prB (p.i < (p.n : Int))) (must (prB (0 ≤ p.i ∧ p.i < (p.n : Int))) (must (prB ((p.a + p.i.toNat) < p.l.length)) (allB fun x1 : Int => ifB (prB (p.l[p.a + p.i.toNat]? = some x1)) (must (prB (p.o.length = p.o.length)) (exB fun m1 : List Int => must (prB (m1.map encK = [[.int 1 (.ofNat 2), .int 1 (.ofNat 0), .int 2 (.ofNat 0), .int 3 (.ofNat 0), .int 1 (.ofNat 0), .int 1 (.ofNat 0), .int 1 (.ofNat 0), .int 1 (.ofNat 0), .int 1 (.ofNat 0), .int 1 (.ofNat 0), .int 1 (.ofNat 0), .int 3 (.ofNat 0), .nilS, .int 1 (.ofNat 0), .str [], .nilS, .sint 1 x1, .int 2 (.ofNat 1)]])) (must (prB (limP 104 (p.o.length + m1.length))) (must (prB (InR 0 (p.i + (1 : Int)))) (exB fun q1 : A_l_clones_psub => must (prB (((.cons 11 (.sy (.int 0 (p.i + (1 : Int)))) (.cons 10 (.sy (.int 0 (p.n : Int))) (.cons 9 (.sy (.psub 0 18 p.a p.n)) (.cons 3 (.sy (.prow 1 ((p.o ++ m1).length))) .nil)))), (.node (.node .leaf (some (.prow 45 18 Int (p.o ++ m1) encK)) .leaf) (some (.prow 45 18 Int p.l encK)) .leaf), 2) = I_l_clones_psub q1 ∧ mu_l_clones_psub q1 < mu_l_clones_psub p)) (sp_l_clones_psub q1 K)))))) true))) (K 2 (.cons 3 (.sy (.prow 1 p.o.length)) .nil) (.node (.node .leaf (some (.prow 45 18 Int p.o encK)) .leaf) (some (.prow 45 18 Int p.l encK)) .leaf) 2)) := by kernel_rfl
  refine Eq.trans e ?_
  clear e
  obtain ⟨g0, g1, g2, g3, g4⟩ := hpre
  refine ifP (fun (hc1 : p.i < (p.n : Int)) => ?_) (fun (hc1 : ¬ (p.i < (p.n : Int))) => ?_)
  ·
    refine mustP (show 0 ≤ p.i ∧ p.i < (p.n : Int) from by first | omega | (constructor <;> omega)) ?_
    refine mustP (show (p.a + p.i.toNat) < p.l.length from by omega) ?_
    refine allB_mk (fun x1 => ?_)
    refine ifP (fun (hi2 : p.l[p.a + p.i.toNat]? = some x1) => ?_) (fun _ => rfl)
    refine mustP (rfl) ?_
    refine exB_mk [x1] ?_
    refine mustP (rfl) ?_
    refine mustP (show limP 104 (p.o.length + [x1].length) from (by simp only [limP, List.length_cons, List.length_nil, g4, List.length_take, List.length_drop] ; omega)) ?_
    refine mustP (show InR 0 (p.i + (1 : Int)) from by simp only [InR] ; omega) ?_
    refine exB_mk (⟨p.l, p.a, p.n, p.o ++ [x1], p.i + (1 : Int)⟩ : A_l_clones_psub) ?_
    refine mustP (⟨rfl, show ((p.n : Int) - (p.i + (1 : Int))).toNat < ((p.n : Int) - p.i).toNat from by omega⟩) ?_
    exact mustP (show p.a + p.n ≤ p.l.length ∧ p.n ≤ 1000000 ∧ 0 ≤ (p.i + (1 : Int)) ∧ (p.i + (1 : Int)) ≤ (p.n : Int) ∧ (p.o ++ [x1]) = (p.l.drop p.a).take (p.i + (1 : Int)).toNat from (by refine ⟨g0, g1, by omega, by omega, ?_⟩ ; rw [show (p.i + 1).toNat = p.i.toNat + 1 by omega, g4] ; exact tkd (by assumption))) hK
  ·
    exact ifB_use (show p.o = (p.l.drop p.a).take p.n ∧ p.o.length = p.n from (by have e : p.o = (p.l.drop p.a).take p.n := (by rw [g4] ; exact congrArg (fun m => List.take m _) (by omega)) ; exact ⟨e, by (first | (rw [e] ; done) | (rw [e] ; simp ; omega))⟩)) (allB_ok hK (⟨p.o⟩ : R_l_clones_psub))
theorem lo_l_clones_psub : LpOk Try.prog 27 1 lp_clones_psub true 0 bd_l_clones_psub := by
  exact lp_of (lf := 600) tb_mix (callX_ok (lp := noLp) (lf := 600) tb_mix tb_all nat_clones_prow_ok 40) (by rfl) I_l_clones_psub mu_l_clones_psub sp_l_clones_psub (fun b j x h => by cases h) (fun S M nx K h => by obtain ⟨p, h⟩ := exB_ok h; exact ⟨p, (mustP_ok h).1, (mustP_ok h).2⟩) (fun p K h => vb_l_clones_psub p K (mustP_ok h).1 (mustP_ok h).2)
structure A_clones_psub where
  l : List Int
  a : Nat
  n : Nat
structure R_clones_psub where
  o : List Int
noncomputable def I_clones_psub (p : A_clones_psub) : List AV × T × Nat := ([.sy (.psub 0 18 p.a p.n)], (.node .leaf (some (.prow 45 18 Int p.l encK)) .leaf), 1)
noncomputable def out_clones_psub (p : A_clones_psub) (K : AV → T → Nat → Bool) : Bool := allB fun r : R_clones_psub => ifB (prB (r.o = (p.l.drop p.a).take p.n ∧ r.o.length = p.n)) (K (.sy (.pfix 1 r.o.length r.o.length)) (.node (.node .leaf (some (.prow 45 18 Int r.o encK)) .leaf) (some (.prow 45 18 Int p.l encK)) .leaf) 2) true
def pre_clones_psub (p : A_clones_psub) : Prop := p.a + p.n ≤ p.l.length ∧ p.n ≤ 1000000
theorem vf_clones_psub (p : A_clones_psub) (K : AV → T → Nat → Bool) (hpre : p.a + p.n ≤ p.l.length ∧ p.n ≤ 1000000) (hK : out_clones_psub p K = true) : (funE 1 (callX tb_tab nat_clones_prow noLp 600 40) lp_clones_psub 600 ft_clones_psub (I_clones_psub p).1 (I_clones_psub p).2.1 (I_clones_psub p).2.2 K) = true := by
  have e : (funE 1 (callX tb_tab nat_clones_prow noLp 600 40) lp_clones_psub 600 ft_clones_psub (I_clones_psub p).1 (I_clones_psub p).2.1 (I_clones_psub p).2.2 K) = (must (prB ((0 : Int) = 0 ∧ 0 ≤ (p.n : Int) ∧ (p.n : Int) ≤ 9223372036854775807 ∧ ((104 : Nat) : Int) * (p.n : Int) ≤ 140737488355328)) (must (prB (([] : List Unit) = [])) (exB fun p1 : A_l_clones_psub => must (prB (((.cons 11 (.sy (.int 0 0)) (.cons 10 (.sy (.int 0 (p.n : Int))) (.cons 9 (.sy (.psub 0 18 p.a p.n)) (.cons 3 (.sy (.prow 1 0)) .nil)))), (.node (.node .leaf (some (.prow 45 18 Int ([] : List Int) encK)) .leaf) (some (.prow 45 18 Int p.l encK)) .leaf), 2) = I_l_clones_psub p1)) (must (prB (p1.a + p1.n ≤ p1.l.length ∧ p1.n ≤ 1000000 ∧ 0 ≤ p1.i ∧ p1.i ≤ (p1.n : Int) ∧ p1.o = (p1.l.drop p1.a).take p1.i.toNat)) (allB fun r1 : R_l_clones_psub => ifB (prB (r1.o = (p1.l.drop p1.a).take p1.n ∧ r1.o.length = p1.n)) (must (prB (r1.o.length = r1.o.length ∧ (0 : Int) = 0 ∧ (r1.o.length : Int) = (r1.o.length : Int) ∧ (r1.o.length : Int) = (r1.o.length : Int))) (K (.sy (.pfix 1 r1.o.length r1.o.length)) (.node (.node .leaf (some (.prow 45 18 Int r1.o encK)) .leaf) (some (.prow 45 18 Int p1.l encK)) .leaf) 2)) true))))) := by kernel_rfl
  refine Eq.trans e ?_
  clear e
  obtain ⟨h1, h2⟩ := hpre
  refine mustP (⟨rfl, by omega⟩) ?_
  refine mustP (rfl) ?_
  refine exB_mk (⟨p.l, p.a, p.n, ([] : List Int), (0 : Int)⟩ : A_l_clones_psub) ?_
  refine mustP (rfl) ?_
  refine mustP (show p.a + p.n ≤ p.l.length ∧ p.n ≤ 1000000 ∧ 0 ≤ (0 : Int) ∧ (0 : Int) ≤ (p.n : Int) ∧ ([] : List Int) = (p.l.drop p.a).take (0 : Int).toNat from (by refine ⟨h1, h2, by omega, by omega, rfl⟩)) ?_
  refine allB_mk (fun r1 => ?_)
  refine ifP (fun (hi1 : r1.o = (p.l.drop p.a).take p.n ∧ r1.o.length = p.n) => ?_) (fun _ => rfl)
  refine mustP (show r1.o.length = r1.o.length ∧ (0 : Int) = 0 ∧ (r1.o.length : Int) = (r1.o.length : Int) ∧ (r1.o.length : Int) = (r1.o.length : Int) from by first | omega | (simp ; done) | (simp ; omega)) ?_
  exact ifB_use (show r1.o = (p.l.drop p.a).take p.n ∧ r1.o.length = p.n from (by assumption)) (allB_ok hK (⟨r1.o⟩ : R_clones_psub))
noncomputable def es_clones_psub : SpecE := fun us M nx K => exB fun p : A_clones_psub => must (prB ((us, M, nx) = I_clones_psub p)) (must (prB (pre_clones_psub p)) (out_clones_psub p K))
theorem na_clones_psub : NatE Try.prog 33 1 es_clones_psub := by
  refine natE_of (xf := ft_clones_psub) (lp := lp_clones_psub) (lf := 600) tb_mix (callX_ok (lp := noLp) (lf := 600) tb_mix tb_all nat_clones_prow_ok 40) ft_clones_psub_ok (by rfl) (fun b j x h => (mem_step lo_l_clones_psub (fun h => (by cases h)) h)) (fun us M nx K h => ?_)
  obtain ⟨p, h⟩ := exB_ok h
  obtain ⟨e, h9⟩ := mustP_ok h
  clear h
  have e1 : us = (I_clones_psub p).1 := congrArg Prod.fst e
  have e2 : M = (I_clones_psub p).2.1 := congrArg (fun x => x.2.1) e
  have e3 : nx = (I_clones_psub p).2.2 := congrArg (fun x => x.2.2) e
  subst e1; subst e2; subst e3
  exact vf_clones_psub p K (mustP_ok h9).1 (mustP_ok h9).2
noncomputable def nat_clones_psub (f : Nat) (vs : List AV) : Option ES := Bool.rec (nat_clones_prow f vs) (some (.mk 1 es_clones_psub)) (hasS f 33 vs [(0, 26)])
theorem nat_clones_psub_ok : ∀ f vs k sp, nat_clones_psub f vs = some (.mk k sp) → NatE Try.prog f k sp := fun f vs k sp h => nat_step na_clones_psub (nat_clones_prow_ok f vs k sp) h
def ft_clones_imm : XF := .mk 27 (.one 2) (.seq (.reg false 1 (.leaf [.p 0 (some 2) none (.mv (.c .nilS))])) (.seq (.reg false 4 (.leaf [.p 0 (some 6) none (.mv (.t 0)), .p 1 (some 7) none (.len 1 (.t 6)), .e 2 (some 8) none (.mks 45 18 104 [.int 1 (.ofNat 0), .int 1 (.ofNat 0), .int 2 (.ofNat 0), .int 3 (.ofNat 0), .int 1 (.ofNat 0), .int 1 (.ofNat 0), .int 1 (.ofNat 0), .int 1 (.ofNat 0), .int 1 (.ofNat 0), .int 1 (.ofNat 0), .int 1 (.ofNat 0), .int 3 (.ofNat 0), .nilS, .int 1 (.ofNat 0), .str [], .nilS, .int 1 (.ofNat 0), .int 2 (.ofNat 0)] (.c (.int 0 (.ofNat 0))) (.t 7)), .p 3 (some 3) none (.mv (.t 8))])) (.seq (.seq (.reg false 3 (.leaf [.p 0 (some 9) none (.mv (.t 0)), .p 1 (some 10) none (.len 1 (.t 9)), .p 2 (some 11) none (.mv (.c (.int 0 (.ofNat 0))))])) (.block 2 (.pre [.can 0 [3, 9, 10, 11], .born 3 45 18 Int encK, .up 11, .can 0 [3, 9, 10, 11]] (.inv 0 (.aft (.seq (.reg false 1 (.leaf [.p 0 (some 12) none (.bin 3 0 (.t 11) (.t 10))])) (.seq (.cond (.t 12) .skip (.exit 2)) (.seq (.block 3 (.seq (.reg false 4 (.leaf [.p 0 (some 13) none (.ixs 18 (.t 9) (.t 11)), .r 1 (some 14) none (.ld true 18 (.t 13)), .e 2 (some 5) none (.al 45 [.int 1 (.ofNat 0), .int 1 (.ofNat 0), .int 2 (.ofNat 0), .int 3 (.ofNat 0), .int 1 (.ofNat 0), .int 1 (.ofNat 0), .int 1 (.ofNat 0), .int 1 (.ofNat 0), .int 1 (.ofNat 0), .int 1 (.ofNat 0), .int 1 (.ofNat 0), .int 3 (.ofNat 0), .nilS, .int 1 (.ofNat 0), .str [], .nilS, .int 1 (.ofNat 0), .int 2 (.ofNat 0)]), .e 3 none none (.st 18 (.t 5) (.t 14))])) (.reg false 6 (.leaf [.p 0 (some 15) none (.mv (.t 3)), .r 1 (some 16) none (.ld true 18 (.t 5)), .c 2 (some 17) none 36 [.t 16], .e 3 (some 18) none (.bsl 45 18 1 [.int 1 (.ofNat 0), .int 1 (.ofNat 0), .int 2 (.ofNat 0), .int 3 (.ofNat 0), .int 1 (.ofNat 0), .int 1 (.ofNat 0), .int 1 (.ofNat 0), .int 1 (.ofNat 0), .int 1 (.ofNat 0), .int 1 (.ofNat 0), .int 1 (.ofNat 0), .int 3 (.ofNat 0), .nilS, .int 1 (.ofNat 0), .str [], .nilS, .int 1 (.ofNat 0), .int 2 (.ofNat 0)] [(0, 18)] [.t 17]), .e 4 (some 19) none (.app 45 18 104 (.t 15) (.t 18)), .p 5 (some 3) none (.mv (.t 19))])))) (.reg false 2 (.leaf [.p 0 (some 20) none (.bin 0 0 (.t 11) (.c (.int 0 (.ofNat 1)))), .p 1 (some 11) none (.mv (.t 20))]))))) [(0, [.can 0 [3, 9, 10, 11]]), (2, [.can 0 [3]])]))))) (.seq (.reg false 7 (.leaf [.p 0 (some 21) none (.mv (.t 3)), .p 1 (some 22) none (.mv (.t 3)), .p 2 (some 23) none (.len 1 (.t 22)), .p 3 (some 24) none (.mv (.t 3)), .p 4 (some 25) none (.len 1 (.t 24)), .r 5 (some 26) none (.sls 18 (.t 21) none (some (.t 23)) (some (.t 25))), .p 6 (some 2) none (.mv (.t 26))])) .ret))))
theorem ft_clones_imm_ok : chkF Try.prog 33 ft_clones_imm = true := by kernel_rfl
structure A_l_clones_imm where
  h : Value
  l : List Int
  o : List Int
  i : Int
structure R_l_clones_imm where
  o : List Int
noncomputable def I_l_clones_imm (p : A_l_clones_imm) : SL × T × Nat := ((.cons 11 (.sy (.int 0 p.i)) (.cons 10 (.sy (.int 0 (p.l.length : Int))) (.cons 9 (.sy (.imm p.h 18 Int p.l encK)) (.cons 3 (.sy (.prow 0 p.o.length)) .nil)))), (.node .leaf (some (.prow 45 18 Int p.o encK)) .leaf), 1)
noncomputable def out_l_clones_imm (p : A_l_clones_imm) (K : Nat → SL → T → Nat → Bool) : Bool := allB fun r : R_l_clones_imm => ifB (prB (r.o = p.l ∧ r.o.length = p.l.length)) (K 2 (.cons 3 (.sy (.prow 0 r.o.length)) .nil) (.node .leaf (some (.prow 45 18 Int r.o encK)) .leaf) 1) true
def pre_l_clones_imm (p : A_l_clones_imm) : Prop := p.l.length ≤ 1000000 ∧ 0 ≤ p.i ∧ p.i ≤ (p.l.length : Int) ∧ p.o = p.l.take p.i.toNat
noncomputable def sp_l_clones_imm (p : A_l_clones_imm) (K : Nat → SL → T → Nat → Bool) : Bool := must (prB (pre_l_clones_imm p)) (out_l_clones_imm p K)
noncomputable def lp_clones_imm : LpF := fun j S M nx K => (Bool.rec (false) (exB fun p : A_l_clones_imm => must (prB ((S, M, nx) = I_l_clones_imm p)) (sp_l_clones_imm p K)) (Nat.beq j 0))
def mu_l_clones_imm (p : A_l_clones_imm) : Nat := ((p.l.length : Int) - p.i).toNat
def bd_l_clones_imm : XC := (.aft (.seq (.reg false 1 (.leaf [.p 0 (some 12) none (.bin 3 0 (.t 11) (.t 10))])) (.seq (.cond (.t 12) .skip (.exit 2)) (.seq (.block 3 (.seq (.reg false 4 (.leaf [.p 0 (some 13) none (.ixs 18 (.t 9) (.t 11)), .r 1 (some 14) none (.ld true 18 (.t 13)), .e 2 (some 5) none (.al 45 [.int 1 (.ofNat 0), .int 1 (.ofNat 0), .int 2 (.ofNat 0), .int 3 (.ofNat 0), .int 1 (.ofNat 0), .int 1 (.ofNat 0), .int 1 (.ofNat 0), .int 1 (.ofNat 0), .int 1 (.ofNat 0), .int 1 (.ofNat 0), .int 1 (.ofNat 0), .int 3 (.ofNat 0), .nilS, .int 1 (.ofNat 0), .str [], .nilS, .int 1 (.ofNat 0), .int 2 (.ofNat 0)]), .e 3 none none (.st 18 (.t 5) (.t 14))])) (.reg false 6 (.leaf [.p 0 (some 15) none (.mv (.t 3)), .r 1 (some 16) none (.ld true 18 (.t 5)), .c 2 (some 17) none 36 [.t 16], .e 3 (some 18) none (.bsl 45 18 1 [.int 1 (.ofNat 0), .int 1 (.ofNat 0), .int 2 (.ofNat 0), .int 3 (.ofNat 0), .int 1 (.ofNat 0), .int 1 (.ofNat 0), .int 1 (.ofNat 0), .int 1 (.ofNat 0), .int 1 (.ofNat 0), .int 1 (.ofNat 0), .int 1 (.ofNat 0), .int 3 (.ofNat 0), .nilS, .int 1 (.ofNat 0), .str [], .nilS, .int 1 (.ofNat 0), .int 2 (.ofNat 0)] [(0, 18)] [.t 17]), .e 4 (some 19) none (.app 45 18 104 (.t 15) (.t 18)), .p 5 (some 3) none (.mv (.t 19))])))) (.reg false 2 (.leaf [.p 0 (some 20) none (.bin 0 0 (.t 11) (.c (.int 0 (.ofNat 1)))), .p 1 (some 11) none (.mv (.t 20))]))))) [(0, [.can 0 [3, 9, 10, 11]]), (2, [.can 0 [3]])])
theorem vb_l_clones_imm (p : A_l_clones_imm) (K : Nat → SL → T → Nat → Bool) (hpre : p.l.length ≤ 1000000 ∧ 0 ≤ p.i ∧ p.i ≤ (p.l.length : Int) ∧ p.o = p.l.take p.i.toNat) (hK : out_l_clones_imm p K = true) : (codeX (callX tb_tab nat_clones_psub noLp 600 40) lp_clones_imm 600 bd_l_clones_imm (I_l_clones_imm p).1 (I_l_clones_imm p).2.1 (I_l_clones_imm p).2.2 (fun e S M nx => Nat.casesOn e (exB fun q : A_l_clones_imm => must (prB ((S, M, nx) = I_l_clones_imm q ∧ mu_l_clones_imm q < mu_l_clones_imm p)) (sp_l_clones_imm q K)) (fun e2 => K (Nat.succ e2) S M nx))) = true := by
  have e : (codeX (callX tb_tab nat_clones_psub noLp 600 40) lp_clones_imm 600 bd_l_clones_imm (I_l_clones_imm p).1 (I_l_clones_imm p).2.1 (I_l_clones_imm p).2.2 (fun e S M nx => Nat.casesOn e (exB fun q : A_l_clones_imm => must (prB ((S, M, nx) = I_l_clones_imm q ∧ mu_l_clones_imm q < mu_l_clones_imm p)) (sp_l_clones_imm q K)) (fun e2 => K (Nat.succ e2) S M nx))) = (ifB (prB (p.i < (p.l.length : Int))) (must (prB (0 ≤ p.i ∧ p.i < (p.l.length : Int))) (allB fun x1 : Int => ifB (prB (p.l[p.i.toNat]? = some x1)) (must (prB (p.o.length = p.o.length)) (exB fun m1 : List Int => must (prB (m1.map encK = [[.int 1 (.ofNat 2), .int 1 (.ofNat 0), .int 2 (.ofNat 0), .int 3 (.ofNat 0), .int 1 (.ofNat 0), .int 1 (.ofNat 0), .int 1 (.ofNat 0), .int 1 (.ofNat 0), .int 1 (.ofNat 0), .int 1 (.ofNat 0), .int 1 (.ofNat 0), .int 3 (.ofNat 0), .nilS, .int 1 (.ofNat 0), .str [], .nilS, .sint 1 x1, .int 2 (.ofNat 1)]])) (must (prB (limP 104 (p.o.length + m1.length))) (must (prB (InR 0 (p.i + (1 : Int)))) (exB fun q1 : A_l_clones_imm => must (prB (((.cons 11 (.sy (.int 0 (p.i + (1 : Int)))) (.cons 10 (.sy (.int 0 (p.l.length : Int))) (.cons 9 (.sy (.imm p.h 18 Int p.l encK)) (.cons 3 (.sy (.prow 0 ((p.o ++ m1).length))) .nil)))), (.node .leaf (some (.prow 45 18 Int (p.o ++ m1) encK)) .leaf), 1) = I_l_clones_imm q1 ∧ mu_l_clones_imm q1 < mu_l_clones_imm p)) (sp_l_clones_imm q1 K)))))) true)) (K 2 (.cons 3 (.sy (.prow 0 p.o.length)) .nil) (.node .leaf (some (.prow 45 18 Int p.o encK)) .leaf) 1)) := by kernel_rfl
  refine Eq.trans e ?_
  clear e
  obtain ⟨g0, g1, g2, g3⟩ := hpre
  refine ifP (fun (hc1 : p.i < (p.l.length : Int)) => ?_) (fun (hc1 : ¬ (p.i < (p.l.length : Int))) => ?_)
  ·
    refine mustP (show 0 ≤ p.i ∧ p.i < (p.l.length : Int) from by first | omega | (constructor <;> omega)) ?_
    refine allB_mk (fun x1 => ?_)
    refine ifP (fun (hi2 : p.l[p.i.toNat]? = some x1) => ?_) (fun _ => rfl)
    refine mustP (rfl) ?_
    refine exB_mk [x1] ?_
    refine mustP (rfl) ?_
    refine mustP (show limP 104 (p.o.length + [x1].length) from (by simp only [limP, List.length_cons, List.length_nil, g3, List.length_take] ; omega)) ?_
    refine mustP (show InR 0 (p.i + (1 : Int)) from by simp only [InR] ; omega) ?_
    refine exB_mk (⟨p.h, p.l, p.o ++ [x1], p.i + (1 : Int)⟩ : A_l_clones_imm) ?_
    refine mustP (⟨rfl, show ((p.l.length : Int) - (p.i + (1 : Int))).toNat < ((p.l.length : Int) - p.i).toNat from by omega⟩) ?_
    exact mustP (show p.l.length ≤ 1000000 ∧ 0 ≤ (p.i + (1 : Int)) ∧ (p.i + (1 : Int)) ≤ (p.l.length : Int) ∧ (p.o ++ [x1]) = p.l.take (p.i + (1 : Int)).toNat from (by refine ⟨g0, by omega, by omega, ?_⟩ ; rw [show (p.i + 1).toNat = p.i.toNat + 1 by omega, g3] ; exact tk (by assumption))) hK
  ·
    exact ifB_use (show p.o = p.l ∧ p.o.length = p.l.length from (by have e : p.o = p.l := (by rw [g3] ; exact List.take_of_length_le (by omega)) ; exact ⟨e, by (first | (rw [e] ; done) | (rw [e] ; simp ; omega))⟩)) (allB_ok hK (⟨p.o⟩ : R_l_clones_imm))
theorem lo_l_clones_imm : LpOk Try.prog 27 0 lp_clones_imm true 0 bd_l_clones_imm := by
  exact lp_of (lf := 600) tb_mix (callX_ok (lp := noLp) (lf := 600) tb_mix tb_all nat_clones_psub_ok 40) (by rfl) I_l_clones_imm mu_l_clones_imm sp_l_clones_imm (fun b j x h => by cases h) (fun S M nx K h => by obtain ⟨p, h⟩ := exB_ok h; exact ⟨p, (mustP_ok h).1, (mustP_ok h).2⟩) (fun p K h => vb_l_clones_imm p K (mustP_ok h).1 (mustP_ok h).2)
structure A_clones_imm where
  h : Value
  l : List Int
structure R_clones_imm where
  o : List Int
noncomputable def I_clones_imm (p : A_clones_imm) : List AV × T × Nat := ([.sy (.imm p.h 18 Int p.l encK)], .leaf, 0)
noncomputable def out_clones_imm (p : A_clones_imm) (K : AV → T → Nat → Bool) : Bool := allB fun r : R_clones_imm => ifB (prB (r.o = p.l ∧ r.o.length = p.l.length)) (K (.sy (.pfix 0 r.o.length r.o.length)) (.node .leaf (some (.prow 45 18 Int r.o encK)) .leaf) 1) true
def pre_clones_imm (p : A_clones_imm) : Prop := p.l.length ≤ 1000000
theorem vf_clones_imm (p : A_clones_imm) (K : AV → T → Nat → Bool) (hpre : p.l.length ≤ 1000000) (hK : out_clones_imm p K = true) : (funE 0 (callX tb_tab nat_clones_psub noLp 600 40) lp_clones_imm 600 ft_clones_imm (I_clones_imm p).1 (I_clones_imm p).2.1 (I_clones_imm p).2.2 K) = true := by
  have e : (funE 0 (callX tb_tab nat_clones_psub noLp 600 40) lp_clones_imm 600 ft_clones_imm (I_clones_imm p).1 (I_clones_imm p).2.1 (I_clones_imm p).2.2 K) = (must (prB ((0 : Int) = 0 ∧ 0 ≤ (p.l.length : Int) ∧ (p.l.length : Int) ≤ 9223372036854775807 ∧ ((104 : Nat) : Int) * (p.l.length : Int) ≤ 140737488355328)) (must (prB (([] : List Unit) = [])) (exB fun p1 : A_l_clones_imm => must (prB (((.cons 11 (.sy (.int 0 0)) (.cons 10 (.sy (.int 0 (p.l.length : Int))) (.cons 9 (.sy (.imm p.h 18 Int p.l encK)) (.cons 3 (.sy (.prow 0 0)) .nil)))), (.node .leaf (some (.prow 45 18 Int ([] : List Int) encK)) .leaf), 1) = I_l_clones_imm p1)) (must (prB (p1.l.length ≤ 1000000 ∧ 0 ≤ p1.i ∧ p1.i ≤ (p1.l.length : Int) ∧ p1.o = p1.l.take p1.i.toNat)) (allB fun r1 : R_l_clones_imm => ifB (prB (r1.o = p1.l ∧ r1.o.length = p1.l.length)) (must (prB (r1.o.length = r1.o.length ∧ (0 : Int) = 0 ∧ (r1.o.length : Int) = (r1.o.length : Int) ∧ (r1.o.length : Int) = (r1.o.length : Int))) (K (.sy (.pfix 0 r1.o.length r1.o.length)) (.node .leaf (some (.prow 45 18 Int r1.o encK)) .leaf) 1)) true))))) := by kernel_rfl
  refine Eq.trans e ?_
  clear e
  have h1 := hpre
  refine mustP (⟨rfl, by omega⟩) ?_
  refine mustP (rfl) ?_
  refine exB_mk (⟨p.h, p.l, ([] : List Int), (0 : Int)⟩ : A_l_clones_imm) ?_
  refine mustP (rfl) ?_
  refine mustP (show p.l.length ≤ 1000000 ∧ 0 ≤ (0 : Int) ∧ (0 : Int) ≤ (p.l.length : Int) ∧ ([] : List Int) = p.l.take (0 : Int).toNat from (by refine ⟨h1, by omega, by omega, rfl⟩)) ?_
  refine allB_mk (fun r1 => ?_)
  refine ifP (fun (hi1 : r1.o = p.l ∧ r1.o.length = p.l.length) => ?_) (fun _ => rfl)
  refine mustP (show r1.o.length = r1.o.length ∧ (0 : Int) = 0 ∧ (r1.o.length : Int) = (r1.o.length : Int) ∧ (r1.o.length : Int) = (r1.o.length : Int) from by first | omega | (simp ; done) | (simp ; omega)) ?_
  exact ifB_use (show r1.o = p.l ∧ r1.o.length = p.l.length from (by assumption)) (allB_ok hK (⟨r1.o⟩ : R_clones_imm))
noncomputable def es_clones_imm : SpecE := fun us M nx K => exB fun p : A_clones_imm => must (prB ((us, M, nx) = I_clones_imm p)) (must (prB (pre_clones_imm p)) (out_clones_imm p K))
theorem na_clones_imm : NatE Try.prog 33 0 es_clones_imm := by
  refine natE_of (xf := ft_clones_imm) (lp := lp_clones_imm) (lf := 600) tb_mix (callX_ok (lp := noLp) (lf := 600) tb_mix tb_all nat_clones_psub_ok 40) ft_clones_imm_ok (by rfl) (fun b j x h => (mem_step lo_l_clones_imm (fun h => (by cases h)) h)) (fun us M nx K h => ?_)
  obtain ⟨p, h⟩ := exB_ok h
  obtain ⟨e, h9⟩ := mustP_ok h
  clear h
  have e1 : us = (I_clones_imm p).1 := congrArg Prod.fst e
  have e2 : M = (I_clones_imm p).2.1 := congrArg (fun x => x.2.1) e
  have e3 : nx = (I_clones_imm p).2.2 := congrArg (fun x => x.2.2) e
  subst e1; subst e2; subst e3
  exact vf_clones_imm p K (mustP_ok h9).1 (mustP_ok h9).2
noncomputable def nat_clones_imm (f : Nat) (vs : List AV) : Option ES := Bool.rec (nat_clones_psub f vs) (some (.mk 0 es_clones_imm)) (hasS f 33 vs [(0, 23)])
theorem nat_clones_imm_ok : ∀ f vs k sp, nat_clones_imm f vs = some (.mk k sp) → NatE Try.prog f k sp := fun f vs k sp h => nat_step na_clones_imm (nat_clones_psub_ok f vs k sp) h
theorem tm10 (z : Int) : -9 ≤ z.tmod 10 ∧ z.tmod 10 ≤ 9 := by have h1 := Int.tmod_lt_of_pos z (show (0 : Int) < 10 by decide) ; have h2 := Int.lt_tmod_of_pos z (show (0 : Int) < 10 by decide) ; omega
theorem tmp (k : Int) (hk : 0 < k) (z : Int) (h : 0 ≤ z) : 0 ≤ z.tmod k ∧ z.tmod k < k := ⟨Int.tmod_nonneg k h, Int.tmod_lt_of_pos z hk⟩
def ft_bounds : XF := .mk 101 (.one 4) (.seq (.reg false 1 (.leaf [.p 0 (some 4) none (.mv (.c (.bool false)))])) (.seq (.reg false 6 (.leaf [.p 0 (some 13) none (.mv (.t 0)), .p 1 (some 14) none (.bin 0 4 (.t 13) (.c (.int 0 (.ofNat 10)))), .p 2 (some 15) none (.bin 0 0 (.t 14) (.c (.int 0 (.ofNat 10)))), .p 3 (some 16) none (.bin 0 4 (.t 15) (.c (.int 0 (.ofNat 10)))), .p 4 (some 17) none (.bin 0 0 (.c (.int 0 (.ofNat 395))) (.t 16)), .p 5 (some 0) none (.mv (.t 17))])) (.seq (.reg false 4 (.leaf [.c 0 (some 18) none 8 [.c (.int 0 (.ofNat 1))], .c 1 (some 19) none 9 [.c (.int 0 (.ofNat 0))], .c 2 (some 20) none 7 [.t 18, .t 19, .c .nilS], .p 3 (some 5) none (.mv (.t 20))])) (.seq (.reg false 1 (.leaf [.p 0 (some 6) none (.mv (.c (.int 0 (.ofNat 0))))])) (.seq (.seq (.reg false 1 (.leaf [.p 0 (some 7) none (.mv (.c (.int 0 (.ofNat 0))))])) (.block 2 (.pre [.can 0 [0, 1, 5, 6, 7], .cell 0 0 5 45 18 Int encK, .up 6, .up 7, .upc 0 0 7, .upm 3, .can 0 [0, 1, 5, 6, 7]] (.inv 0 (.aft (.seq (.seq (.reg false 3 (.leaf [.p 0 (some 21) none (.mv (.t 7)), .p 1 (some 22) none (.mv (.t 0)), .p 2 (some 23) none (.bin 3 0 (.t 21) (.t 22))])) (.cond (.t 23) .skip (.exit 2))) (.seq (.block 3 (.seq (.reg false 6 (.leaf [.p 0 (some 26) none (.mv (.t 5)), .p 1 (some 27) none (.mv (.t 7)), .p 2 (some 28) none (.bin 0 4 (.t 27) (.c (.int 0 (.ofNat 16)))), .c 3 (some 29) none 11 [.t 28], .c 4 (some 30) none 10 [.t 26, .t 29], .p 5 (some 8) none (.mv (.t 30))])) (.seq (.reg false 3 (.leaf [.p 0 (some 31) none (.mv (.t 8)), .c 1 (some 32) none 12 [.t 31], .p 2 (some 33) none (.bin 3 4 (.t 32) (.c (.int 0 (.ofNat 0))))])) (.cond (.t 33) (.reg false 3 (.leaf [.p 0 (some 34) none (.mv (.t 6)), .p 1 (some 35) none (.bin 0 0 (.t 34) (.c (.int 0 (.ofNat 1)))), .p 2 (some 6) none (.mv (.t 35))])) (.seq (.reg false 3 (.leaf [.p 0 (some 36) none (.mv (.t 8)), .c 1 (some 37) none 12 [.t 36], .p 2 (some 38) none (.bin 3 5 (.t 37) (.c (.int 0 (.ofNat 11))))])) (.cond (.t 38) (.seq (.reg false 1 (.leaf [.p 0 (some 4) none (.mv (.c (.bool false)))])) .ret) .skip)))))) (.reg false 3 (.leaf [.p 0 (some 24) none (.mv (.t 7)), .p 1 (some 25) none (.bin 0 0 (.t 24) (.c (.int 0 (.ofNat 1)))), .p 2 (some 7) none (.mv (.t 25))])))) [(0, [.can 0 [0, 1, 5, 6, 7]]), (1, [.can 0 [4]]), (2, [.can 0 [0, 1, 5, 6]])]))))) (.seq (.reg false 1 (.leaf [.p 0 (some 9) none (.mv (.c .nilS))])) (.seq (.seq (.reg false 1 (.leaf [.p 0 (some 10) none (.mv (.c (.int 0 (.ofNat 0))))])) (.block 4 (.pre [.can 0 [0, 1, 5, 6, 9, 10], .born 9 45 18 Int encK, .up 10, .can 0 [0, 1, 5, 6, 9, 10]] (.inv 1 (.aft (.seq (.seq (.reg false 3 (.leaf [.p 0 (some 39) none (.mv (.t 10)), .p 1 (some 40) none (.mv (.t 0)), .p 2 (some 41) none (.bin 3 0 (.t 39) (.t 40))])) (.cond (.t 41) .skip (.exit 4))) (.seq (.block 5 (.reg false 5 (.leaf [.p 0 (some 44) none (.mv (.t 9)), .c 1 (some 45) none 11 [.c (.int 0 (.ofNat 3))], .e 2 (some 46) none (.bsl 45 18 1 [.int 1 (.ofNat 0), .int 1 (.ofNat 0), .int 2 (.ofNat 0), .int 3 (.ofNat 0), .int 1 (.ofNat 0), .int 1 (.ofNat 0), .int 1 (.ofNat 0), .int 1 (.ofNat 0), .int 1 (.ofNat 0), .int 1 (.ofNat 0), .int 1 (.ofNat 0), .int 3 (.ofNat 0), .nilS, .int 1 (.ofNat 0), .str [], .nilS, .int 1 (.ofNat 0), .int 2 (.ofNat 0)] [(0, 18)] [.t 45]), .e 3 (some 47) none (.app 45 18 104 (.t 44) (.t 46)), .p 4 (some 9) none (.mv (.t 47))]))) (.reg false 3 (.leaf [.p 0 (some 42) none (.mv (.t 10)), .p 1 (some 43) none (.bin 0 0 (.t 42) (.c (.int 0 (.ofNat 1)))), .p 2 (some 10) none (.mv (.t 43))])))) [(0, [.can 0 [0, 1, 5, 6, 9, 10]]), (4, [.can 0 [0, 1, 5, 6, 9]])]))))) (.seq (.reg false 4 (.leaf [.c 0 (some 48) none 8 [.c (.int 0 (.ofNat 2))], .c 1 (some 49) none 9 [.c (.int 0 (.ofNat 1))], .c 2 (some 50) none 7 [.t 48, .t 49, .c .nilS], .p 3 (some 11) none (.mv (.t 50))])) (.seq (.pre [.can 0 [0, 1, 5, 6, 9, 11], .cell 2 0 5 45 18 Int encK] (.reg false 5 (.leaf [.p 0 (some 51) none (.mv (.t 11)), .p 1 (some 52) none (.mv (.t 9)), .p 2 (some 53) none (.mv (.t 1)), .c 3 (some 54) none 13 [.t 51, .c (.int 0 (.ofNat 0)), .t 52, .t 53], .p 4 (some 12) none (.mv (.t 54))]))) (.seq (.reg false 47 (.leaf [.p 0 (some 55) none (.mv (.t 6)), .p 1 (some 56) none (.mv (.t 0)), .p 2 (some 57) none (.mx false (.t 56) (.c (.int 0 (.ofNat 400)))), .p 3 (some 58) none (.bin 3 4 (.t 55) (.t 57)), .p 4 (some 59) none (.mv (.t 58)), .p 5 (some 60) (some (59, true)) (.mv (.t 5)), .c 6 (some 61) (some (59, true)) 14 [.t 60], .p 7 (some 62) (some (59, true)) (.mv (.t 6)), .p 8 (some 63) (some (59, true)) (.bin 3 4 (.t 61) (.t 62)), .p 9 (some 64) none (.pick (.t 59) (.t 63) (.c (.bool false))), .p 10 (some 65) none (.mv (.t 64)), .p 11 (some 66) (some (65, true)) (.mv (.t 12)), .p 12 (some 67) (some (65, true)) (.mv (.t 0)), .p 13 (some 68) (some (65, true)) (.bin 3 1 (.t 67) (.c (.int 0 (.ofNat 400)))), .p 14 (some 69) (some (65, true)) (.eqs false 1 .bool (.t 66) (.t 68)), .p 15 (some 70) none (.pick (.t 65) (.t 69) (.c (.bool false))), .p 16 (some 71) none (.mv (.t 70)), .p 17 (some 72) (some (71, true)) (.mv (.t 12)), .p 18 (some 73) (some (71, true)) (.un 0 (.t 72)), .p 19 (some 74) (some (71, true)) (.mv (.t 73)), .p 20 (some 75) (some (74, true)) (.mv (.t 11)), .c 21 (some 76) (some (74, true)) 15 [.t 75], .p 22 (some 77) (some (74, true)) (.bin 3 4 (.t 76) (.c (.int 0 (.ofNat 0)))), .p 23 (some 78) (some (71, true)) (.pick (.t 74) (.t 77) (.c (.bool false))), .p 24 (some 79) (some (71, true)) (.mv (.t 78)), .p 25 (some 80) (some (79, false)) (.mv (.t 12)), .p 26 (some 81) (some (79, false)) (.mv (.t 80)), .p 27 (some 82) (some (81, true)) (.mv (.t 11)), .c 28 (some 83) (some (81, true)) 15 [.t 82], .p 29 (some 84) (some (81, true)) (.mv (.t 0)), .p 30 (some 85) (some (81, true)) (.bin 3 4 (.t 83) (.t 84)), .p 31 (some 86) (some (79, false)) (.pick (.t 81) (.t 85) (.c (.bool false))), .p 32 (some 87) (some (79, false)) (.mv (.t 86)), .p 33 (some 88) (some (87, true)) (.mv (.t 11)), .c 34 (some 89) (some (87, true)) 14 [.t 88], .p 35 (some 90) (some (87, true)) (.mv (.t 0)), .p 36 (some 91) (some (87, true)) (.mv (.t 1)), .p 37 (some 92) (some (87, true)) (.mx false (.t 90) (.t 91)), .p 38 (some 93) (some (87, true)) (.mx true (.c (.int 0 (.ofNat 0))) (.t 92)), .p 39 (some 94) (some (87, true)) (.bin 3 4 (.t 89) (.t 93)), .p 40 (some 95) (some (79, false)) (.pick (.t 87) (.t 94) (.c (.bool false))), .p 41 (some 96) (some (71, true)) (.pick (.t 79) (.c (.bool true)) (.t 95)), .p 42 (some 97) none (.pick (.t 71) (.t 96) (.c (.bool false))), .p 43 (some 98) none (.mv (.t 97)), .c 44 (some 99) (some (98, true)) 16 [], .p 45 (some 100) none (.pick (.t 98) (.t 99) (.c (.bool false))), .p 46 (some 4) none (.mv (.t 100))])) .ret))))))))))
theorem ft_bounds_ok : chkF Try.prog 3 ft_bounds = true := by kernel_rfl
structure A_b0 where
  n : Int
  c : Int
  ok : Int
  com : Int
  cnt : Int
  l : List Int
  i : Int
structure R_b0 where
  ok : Int
  com : Int
  cnt : Int
  l : List Int
noncomputable def I_b0 (p : A_b0) : SL × T × Nat := ((.cons 7 (.sy (.int 0 p.i)) (.cons 6 (.sy (.int 0 p.ok)) (.cons 5 (.ptr 0 0) (.cons 1 (.sy (.int 0 p.c)) (.cons 0 (.sy (.int 0 p.n)) .nil))))), (.node (.node (.node .leaf (some (.map [(.agg [.int 1 (.ofNat 0), .int 2 (.ofNat 1)], .sy (.int 0 p.cnt), 0)] 1)) .leaf) (some (.blk true 31 2 [[.int 1 (.ofNat 0), .int 2 (.ofNat 1)]])) .leaf) (some (.blk false 67 10 [[.int 1 (.ofNat 0), .int 3 (.ofNat 1), .sl 1 0 1 (.rest 0), .int 1 (.ofNat 0), .int 2 (.ofNat 1), .sy (.prow 2 p.l.length), .int 0 (.ofNat 0), .sy (.int 0 p.com), .bool false, .map 3]])) (.node .leaf (some (.prow 45 18 Int p.l encK)) .leaf)), 4)
noncomputable def out_b0 (p : A_b0) (K : Nat → SL → T → Nat → Bool) : Bool := allB fun r : R_b0 => ifB (prB (395 ≤ p.n ∧ p.n ≤ 404 ∧ (r.l.length : Int) = r.ok ∧ r.com = r.ok ∧ r.cnt = r.ok ∧ 0 ≤ p.n ∧ p.n ≤ p.n ∧ r.ok = min p.n 400)) (K 2 (.cons 6 (.sy (.int 0 r.ok)) (.cons 5 (.ptr 0 0) (.cons 1 (.sy (.int 0 p.c)) (.cons 0 (.sy (.int 0 p.n)) .nil)))) (.node (.node (.node .leaf (some (.map [(.agg [.int 1 (.ofNat 0), .int 2 (.ofNat 1)], .sy (.int 0 r.cnt), 0)] 1)) .leaf) (some (.blk true 31 2 [[.int 1 (.ofNat 0), .int 2 (.ofNat 1)]])) .leaf) (some (.blk false 67 10 [[.int 1 (.ofNat 0), .int 3 (.ofNat 1), .sl 1 0 1 (.rest 0), .int 1 (.ofNat 0), .int 2 (.ofNat 1), .sy (.prow 2 r.l.length), .int 0 (.ofNat 0), .sy (.int 0 r.com), .bool false, .map 3]])) (.node .leaf (some (.prow 45 18 Int r.l encK)) .leaf)) 4) true
def pre_b0 (p : A_b0) : Prop := 395 ≤ p.n ∧ p.n ≤ 404 ∧ (p.l.length : Int) = p.ok ∧ p.com = p.ok ∧ p.cnt = p.ok ∧ 0 ≤ p.i ∧ p.i ≤ p.n ∧ p.ok = min p.i 400
noncomputable def sp_b0 (p : A_b0) (K : Nat → SL → T → Nat → Bool) : Bool := must (prB (pre_b0 p)) (out_b0 p K)
structure A_b1 where
  n : Int
  c : Int
  ok : Int
  com : Int
  cnt : Int
  l : List Int
  v : List Int
  i : Int
structure R_b1 where
  v : List Int
noncomputable def I_b1 (p : A_b1) : SL × T × Nat := ((.cons 10 (.sy (.int 0 p.i)) (.cons 9 (.sy (.prow 1 p.v.length)) (.cons 6 (.sy (.int 0 p.ok)) (.cons 5 (.ptr 0 0) (.cons 1 (.sy (.int 0 p.c)) (.cons 0 (.sy (.int 0 p.n)) .nil)))))), (.node (.node (.node .leaf (some (.prow 45 18 Int p.l encK)) .leaf) (some (.prow 45 18 Int p.v encK)) .leaf) (some (.blk false 67 10 [[.int 1 (.ofNat 0), .int 3 (.ofNat 1), .sl 2 0 1 (.rest 0), .int 1 (.ofNat 0), .int 2 (.ofNat 1), .sy (.prow 3 p.l.length), .int 0 (.ofNat 0), .sy (.int 0 p.com), .bool false, .map 4]])) (.node (.node .leaf (some (.map [(.agg [.int 1 (.ofNat 0), .int 2 (.ofNat 1)], .sy (.int 0 p.cnt), 0)] 1)) .leaf) (some (.blk true 31 2 [[.int 1 (.ofNat 0), .int 2 (.ofNat 1)]])) .leaf)), 5)
noncomputable def out_b1 (p : A_b1) (K : Nat → SL → T → Nat → Bool) : Bool := allB fun r : R_b1 => ifB (prB ((r.v.length : Int) = p.n)) (K 4 (.cons 9 (.sy (.prow 1 r.v.length)) (.cons 6 (.sy (.int 0 p.ok)) (.cons 5 (.ptr 0 0) (.cons 1 (.sy (.int 0 p.c)) (.cons 0 (.sy (.int 0 p.n)) .nil))))) (.node (.node (.node .leaf (some (.prow 45 18 Int p.l encK)) .leaf) (some (.prow 45 18 Int r.v encK)) .leaf) (some (.blk false 67 10 [[.int 1 (.ofNat 0), .int 3 (.ofNat 1), .sl 2 0 1 (.rest 0), .int 1 (.ofNat 0), .int 2 (.ofNat 1), .sy (.prow 3 p.l.length), .int 0 (.ofNat 0), .sy (.int 0 p.com), .bool false, .map 4]])) (.node (.node .leaf (some (.map [(.agg [.int 1 (.ofNat 0), .int 2 (.ofNat 1)], .sy (.int 0 p.cnt), 0)] 1)) .leaf) (some (.blk true 31 2 [[.int 1 (.ofNat 0), .int 2 (.ofNat 1)]])) .leaf)) 5) true
def pre_b1 (p : A_b1) : Prop := 0 ≤ p.i ∧ p.i ≤ p.n ∧ p.n ≤ 404 ∧ (p.v.length : Int) = p.i
noncomputable def sp_b1 (p : A_b1) (K : Nat → SL → T → Nat → Bool) : Bool := must (prB (pre_b1 p)) (out_b1 p K)
noncomputable def lp_bounds : LpF := fun j S M nx K => (Bool.rec ((Bool.rec (false) (exB fun p : A_b1 => must (prB ((S, M, nx) = I_b1 p)) (sp_b1 p K)) (Nat.beq j 1))) (exB fun p : A_b0 => must (prB ((S, M, nx) = I_b0 p)) (sp_b0 p K)) (Nat.beq j 0))
def mu_b0 (p : A_b0) : Nat := (p.n - p.i).toNat
def bd_b0 : XC := (.aft (.seq (.seq (.reg false 3 (.leaf [.p 0 (some 21) none (.mv (.t 7)), .p 1 (some 22) none (.mv (.t 0)), .p 2 (some 23) none (.bin 3 0 (.t 21) (.t 22))])) (.cond (.t 23) .skip (.exit 2))) (.seq (.block 3 (.seq (.reg false 6 (.leaf [.p 0 (some 26) none (.mv (.t 5)), .p 1 (some 27) none (.mv (.t 7)), .p 2 (some 28) none (.bin 0 4 (.t 27) (.c (.int 0 (.ofNat 16)))), .c 3 (some 29) none 11 [.t 28], .c 4 (some 30) none 10 [.t 26, .t 29], .p 5 (some 8) none (.mv (.t 30))])) (.seq (.reg false 3 (.leaf [.p 0 (some 31) none (.mv (.t 8)), .c 1 (some 32) none 12 [.t 31], .p 2 (some 33) none (.bin 3 4 (.t 32) (.c (.int 0 (.ofNat 0))))])) (.cond (.t 33) (.reg false 3 (.leaf [.p 0 (some 34) none (.mv (.t 6)), .p 1 (some 35) none (.bin 0 0 (.t 34) (.c (.int 0 (.ofNat 1)))), .p 2 (some 6) none (.mv (.t 35))])) (.seq (.reg false 3 (.leaf [.p 0 (some 36) none (.mv (.t 8)), .c 1 (some 37) none 12 [.t 36], .p 2 (some 38) none (.bin 3 5 (.t 37) (.c (.int 0 (.ofNat 11))))])) (.cond (.t 38) (.seq (.reg false 1 (.leaf [.p 0 (some 4) none (.mv (.c (.bool false)))])) .ret) .skip)))))) (.reg false 3 (.leaf [.p 0 (some 24) none (.mv (.t 7)), .p 1 (some 25) none (.bin 0 0 (.t 24) (.c (.int 0 (.ofNat 1)))), .p 2 (some 7) none (.mv (.t 25))])))) [(0, [.can 0 [0, 1, 5, 6, 7]]), (1, [.can 0 [4]]), (2, [.can 0 [0, 1, 5, 6]])])
theorem vb_b0 (p : A_b0) (K : Nat → SL → T → Nat → Bool) (hpre : 395 ≤ p.n ∧ p.n ≤ 404 ∧ (p.l.length : Int) = p.ok ∧ p.com = p.ok ∧ p.cnt = p.ok ∧ 0 ≤ p.i ∧ p.i ≤ p.n ∧ p.ok = min p.i 400) (hK : out_b0 p K = true) : (codeX (callX tb_tab nat_clones_imm noLp 600 40) lp_bounds 600 bd_b0 (I_b0 p).1 (I_b0 p).2.1 (I_b0 p).2.2 (fun e S M nx => Nat.casesOn e (exB fun q : A_b0 => must (prB ((S, M, nx) = I_b0 q ∧ mu_b0 q < mu_b0 p)) (sp_b0 q K)) (fun e2 => K (Nat.succ e2) S M nx))) = true := by
  have e : (codeX (callX tb_tab nat_clones_imm noLp 600 40) lp_bounds 600 bd_b0 (I_b0 p).1 (I_b0 p).2.1 (I_b0 p).2.2 (fun e S M nx => Nat.casesOn e (exB fun q : A_b0 => must (prB ((S, M, nx) = I_b0 q ∧ mu_b0 q < mu_b0 p)) (sp_b0 q K)) (fun e2 => K (Nat.succ e2) S M nx))) = (ifB (prB (p.i < p.n)) (must (prB ((16 : Int) ≠ 0)) (exB fun p1 : A_kill => must (prB (([.sy (.int 0 (Int.tmod p.i (16 : Int)))], .leaf, 0) = I_kill p1)) (must (prB (0 ≤ p1.n ∧ p1.n < 256)) (ifB (prB (p1.n < (16 : Int))) (ifB (prB ((400 : Int) ≤ (p.l.length : Int))) (must (prB (InR 0 (p.i + (1 : Int)))) (exB fun q1 : A_b0 => must (prB (((.cons 7 (.sy (.int 0 (p.i + (1 : Int)))) (.cons 6 (.sy (.int 0 p.ok)) (.cons 5 (.ptr 0 0) (.cons 1 (.sy (.int 0 p.c)) (.cons 0 (.sy (.int 0 p.n)) .nil))))), (.node (.node (.node .leaf (some (.map [(.agg [.int 1 (.ofNat 0), .int 2 (.ofNat 1)], .sy (.int 0 p.cnt), 0)] 1)) .leaf) (some (.blk true 31 2 [[.int 1 (.ofNat 0), .int 2 (.ofNat 1)]])) .leaf) (some (.blk false 67 10 [[.int 1 (.ofNat 0), .int 3 (.ofNat 1), .sl 1 0 1 (.rest 0), .int 1 (.ofNat 0), .int 2 (.ofNat 1), .sy (.prow 2 p.l.length), .int 0 (.ofNat 0), .sy (.int 0 p.com), .bool false, .map 3]])) (.node .leaf (some (.prow 45 18 Int p.l encK)) .leaf)), 4) = I_b0 q1 ∧ mu_b0 q1 < mu_b0 p)) (sp_b0 q1 K))) (must (prB (((.prow 2 p.l.length) : SY) = (.prow 2 p.l.length))) (must (prB (((.prow 2 p.l.length) : SY) = (.prow 2 p.l.length))) (must (prB (p.l.length = p.l.length)) (exB fun m1 : List Int => must (prB (m1.map encK = [[.int 1 (.ofNat 2), .int 1 (.ofNat 0), .int 2 (.ofNat 0), .int 3 (.ofNat 0), .int 1 (.ofNat 0), .int 1 (.ofNat 0), .int 1 (.ofNat 0), .int 1 (.ofNat 0), .int 1 (.ofNat 0), .int 1 (.ofNat 0), .int 1 (.ofNat 0), .int 3 (.ofNat 0), .nilS, .int 1 (.ofNat 0), .str [], .nilS, .sint 1 p1.n, .int 2 (.ofNat 1)]])) (must (prB (limP 104 (p.l.length + m1.length))) (must (must (prB (((.int 0 p.com) : SY) = (.int 0 p.com))) (must (prB (InR 0 (p.ok + (1 : Int)))) (must (prB (InR 0 (p.i + (1 : Int)))) (exB fun q2 : A_b0 => must (prB (((.cons 7 (.sy (.int 0 (p.i + (1 : Int)))) (.cons 6 (.sy (.int 0 (p.ok + (1 : Int)))) (.cons 5 (.ptr 0 0) (.cons 1 (.sy (.int 0 p.c)) (.cons 0 (.sy (.int 0 p.n)) .nil))))), (.node (.node (.node .leaf (some (.map [(.agg [.int 1 (.ofNat 0), .int 2 (.ofNat 1)], .sy (.int 0 ((p.l ++ m1).length : Int)), 0)] 1)) .leaf) (some (.blk true 31 2 [[.int 1 (.ofNat 0), .int 2 (.ofNat 1)]])) .leaf) (some (.blk false 67 10 [[.int 1 (.ofNat 0), .int 3 (.ofNat 1), .sl 1 0 1 (.rest 0), .int 1 (.ofNat 0), .int 2 (.ofNat 1), .sy (.prow 2 ((p.l ++ m1).length)), .int 0 (.ofNat 0), .sy (.int 0 (max p.com ((p.l ++ m1).length : Int))), .bool false, .map 3]])) (.node .leaf (some (.prow 45 18 Int (p.l ++ m1) encK)) .leaf)), 4) = I_b0 q2 ∧ mu_b0 q2 < mu_b0 p)) (sp_b0 q2 K))))) (true)))))))) (K 1 (.cons 4 (.bool false) .nil) .leaf 0))))) (K 2 (.cons 6 (.sy (.int 0 p.ok)) (.cons 5 (.ptr 0 0) (.cons 1 (.sy (.int 0 p.c)) (.cons 0 (.sy (.int 0 p.n)) .nil)))) (.node (.node (.node .leaf (some (.map [(.agg [.int 1 (.ofNat 0), .int 2 (.ofNat 1)], .sy (.int 0 p.cnt), 0)] 1)) .leaf) (some (.blk true 31 2 [[.int 1 (.ofNat 0), .int 2 (.ofNat 1)]])) .leaf) (some (.blk false 67 10 [[.int 1 (.ofNat 0), .int 3 (.ofNat 1), .sl 1 0 1 (.rest 0), .int 1 (.ofNat 0), .int 2 (.ofNat 1), .sy (.prow 2 p.l.length), .int 0 (.ofNat 0), .sy (.int 0 p.com), .bool false, .map 3]])) (.node .leaf (some (.prow 45 18 Int p.l encK)) .leaf)) 4)) := by kernel_rfl
  refine Eq.trans e ?_
  clear e
  obtain ⟨g0, g1, g2, g3, g4, g5, g6, g7⟩ := hpre
  have g8 := tmp 16 (by decide) p.i g5
  refine ifP (fun (hc1 : p.i < p.n) => ?_) (fun (hc1 : ¬ (p.i < p.n)) => ?_)
  ·
    refine mustP (show (16 : Int) ≠ 0 from by decide) ?_
    refine exB_mk (⟨Int.tmod p.i (16 : Int)⟩ : A_kill) ?_
    refine mustP (rfl) ?_
    refine mustP (show 0 ≤ (Int.tmod p.i (16 : Int)) ∧ (Int.tmod p.i (16 : Int)) < 256 from by omega) ?_
    refine ifP (fun (hc2 : (Int.tmod p.i (16 : Int)) < (16 : Int)) => ?_) (fun (hc2 : ¬ ((Int.tmod p.i (16 : Int)) < (16 : Int))) => ?_)
    ·
      refine ifP (fun (hc3 : (400 : Int) ≤ (p.l.length : Int)) => ?_) (fun (hc3 : ¬ ((400 : Int) ≤ (p.l.length : Int))) => ?_)
      ·
        refine mustP (show InR 0 (p.i + (1 : Int)) from (by simp only [InR] ; omega)) ?_
        refine exB_mk (⟨p.n, p.c, p.ok, p.com, p.cnt, p.l, p.i + (1 : Int)⟩ : A_b0) ?_
        refine mustP (⟨rfl, show (p.n - (p.i + (1 : Int))).toNat < (p.n - p.i).toNat from by omega⟩) ?_
        exact mustP (show 395 ≤ p.n ∧ p.n ≤ 404 ∧ (p.l.length : Int) = p.ok ∧ p.com = p.ok ∧ p.cnt = p.ok ∧ 0 ≤ (p.i + (1 : Int)) ∧ (p.i + (1 : Int)) ≤ p.n ∧ p.ok = min (p.i + (1 : Int)) 400 from (by (first | omega | (simp only [List.length_append, List.length_cons, List.length_nil, limP] ; omega) | (simp ; done) | (simp ; omega)))) hK
      ·
        refine mustP (rfl) ?_
        refine mustP (rfl) ?_
        refine mustP (rfl) ?_
        refine exB_mk [(Int.tmod p.i (16 : Int))] ?_
        refine mustP (rfl) ?_
        refine mustP (show limP 104 (p.l.length + [(Int.tmod p.i (16 : Int))].length) from (by (first | omega | (simp only [List.length_append, List.length_cons, List.length_nil, limP] ; omega) | (simp ; done) | (simp ; omega)))) ?_
        refine must_mk ?_ ?_
        ·
          refine mustP (rfl) ?_
          refine mustP (show InR 0 (p.ok + (1 : Int)) from (by simp only [InR] ; omega)) ?_
          refine mustP (show InR 0 (p.i + (1 : Int)) from (by simp only [InR] ; omega)) ?_
          refine exB_mk (⟨p.n, p.c, p.ok + (1 : Int), max p.com ((p.l ++ [(Int.tmod p.i (16 : Int))]).length : Int), ((p.l ++ [(Int.tmod p.i (16 : Int))]).length : Int), p.l ++ [(Int.tmod p.i (16 : Int))], p.i + (1 : Int)⟩ : A_b0) ?_
          refine mustP (⟨rfl, show (p.n - (p.i + (1 : Int))).toNat < (p.n - p.i).toNat from by omega⟩) ?_
          exact mustP (show 395 ≤ p.n ∧ p.n ≤ 404 ∧ ((p.l ++ [(Int.tmod p.i (16 : Int))]).length : Int) = (p.ok + (1 : Int)) ∧ (max p.com ((p.l ++ [(Int.tmod p.i (16 : Int))]).length : Int)) = (p.ok + (1 : Int)) ∧ ((p.l ++ [(Int.tmod p.i (16 : Int))]).length : Int) = (p.ok + (1 : Int)) ∧ 0 ≤ (p.i + (1 : Int)) ∧ (p.i + (1 : Int)) ≤ p.n ∧ (p.ok + (1 : Int)) = min (p.i + (1 : Int)) 400 from (by (first | omega | (simp only [List.length_append, List.length_cons, List.length_nil, limP] ; omega) | (simp ; done) | (simp ; omega)))) hK
        ·
          rfl
    ·
      exfalso ; omega
  ·
    exact ifB_use (show 395 ≤ p.n ∧ p.n ≤ 404 ∧ (p.l.length : Int) = p.ok ∧ p.com = p.ok ∧ p.cnt = p.ok ∧ 0 ≤ p.n ∧ p.n ≤ p.n ∧ p.ok = min p.n 400 from (by omega)) (allB_ok hK (⟨p.ok, p.com, p.cnt, p.l⟩ : R_b0))
theorem lo_b0 : LpOk Try.prog 101 0 lp_bounds true 0 bd_b0 := by
  exact lp_of (lf := 600) tb_mix (callX_ok (lp := noLp) (lf := 600) tb_mix tb_all nat_clones_imm_ok 40) (by rfl) I_b0 mu_b0 sp_b0 (fun b j x h => by cases h) (fun S M nx K h => by obtain ⟨p, h⟩ := exB_ok h; exact ⟨p, (mustP_ok h).1, (mustP_ok h).2⟩) (fun p K h => vb_b0 p K (mustP_ok h).1 (mustP_ok h).2)
def mu_b1 (p : A_b1) : Nat := (p.n - p.i).toNat
def bd_b1 : XC := (.aft (.seq (.seq (.reg false 3 (.leaf [.p 0 (some 39) none (.mv (.t 10)), .p 1 (some 40) none (.mv (.t 0)), .p 2 (some 41) none (.bin 3 0 (.t 39) (.t 40))])) (.cond (.t 41) .skip (.exit 4))) (.seq (.block 5 (.reg false 5 (.leaf [.p 0 (some 44) none (.mv (.t 9)), .c 1 (some 45) none 11 [.c (.int 0 (.ofNat 3))], .e 2 (some 46) none (.bsl 45 18 1 [.int 1 (.ofNat 0), .int 1 (.ofNat 0), .int 2 (.ofNat 0), .int 3 (.ofNat 0), .int 1 (.ofNat 0), .int 1 (.ofNat 0), .int 1 (.ofNat 0), .int 1 (.ofNat 0), .int 1 (.ofNat 0), .int 1 (.ofNat 0), .int 1 (.ofNat 0), .int 3 (.ofNat 0), .nilS, .int 1 (.ofNat 0), .str [], .nilS, .int 1 (.ofNat 0), .int 2 (.ofNat 0)] [(0, 18)] [.t 45]), .e 3 (some 47) none (.app 45 18 104 (.t 44) (.t 46)), .p 4 (some 9) none (.mv (.t 47))]))) (.reg false 3 (.leaf [.p 0 (some 42) none (.mv (.t 10)), .p 1 (some 43) none (.bin 0 0 (.t 42) (.c (.int 0 (.ofNat 1)))), .p 2 (some 10) none (.mv (.t 43))])))) [(0, [.can 0 [0, 1, 5, 6, 9, 10]]), (4, [.can 0 [0, 1, 5, 6, 9]])])
theorem vb_b1 (p : A_b1) (K : Nat → SL → T → Nat → Bool) (hpre : 0 ≤ p.i ∧ p.i ≤ p.n ∧ p.n ≤ 404 ∧ (p.v.length : Int) = p.i) (hK : out_b1 p K = true) : (codeX (callX tb_tab nat_clones_imm noLp 600 40) lp_bounds 600 bd_b1 (I_b1 p).1 (I_b1 p).2.1 (I_b1 p).2.2 (fun e S M nx => Nat.casesOn e (exB fun q : A_b1 => must (prB ((S, M, nx) = I_b1 q ∧ mu_b1 q < mu_b1 p)) (sp_b1 q K)) (fun e2 => K (Nat.succ e2) S M nx))) = true := by
  have e : (codeX (callX tb_tab nat_clones_imm noLp 600 40) lp_bounds 600 bd_b1 (I_b1 p).1 (I_b1 p).2.1 (I_b1 p).2.2 (fun e S M nx => Nat.casesOn e (exB fun q : A_b1 => must (prB ((S, M, nx) = I_b1 q ∧ mu_b1 q < mu_b1 p)) (sp_b1 q K)) (fun e2 => K (Nat.succ e2) S M nx))) = (ifB (prB (p.i < p.n)) (exB fun p1 : A_killL => must (prB (([.int 0 (.ofNat 3)], .leaf, 0) = I_killL p1)) (must (prB (0 ≤ p1.n ∧ p1.n < 256)) (must (prB (p.v.length = p.v.length)) (exB fun m1 : List Int => must (prB (m1.map encK = [[.int 1 (.ofNat 2), .int 1 (.ofNat 0), .int 2 (.ofNat 0), .int 3 (.ofNat 0), .int 1 (.ofNat 0), .int 1 (.ofNat 0), .int 1 (.ofNat 0), .int 1 (.ofNat 0), .int 1 (.ofNat 0), .int 1 (.ofNat 0), .int 1 (.ofNat 0), .int 3 (.ofNat 0), .nilS, .int 1 (.ofNat 0), .str [], .nilS, .sint 1 p1.n, .int 2 (.ofNat 1)]])) (must (prB (limP 104 (p.v.length + m1.length))) (must (prB (InR 0 (p.i + (1 : Int)))) (exB fun q1 : A_b1 => must (prB (((.cons 10 (.sy (.int 0 (p.i + (1 : Int)))) (.cons 9 (.sy (.prow 1 ((p.v ++ m1).length))) (.cons 6 (.sy (.int 0 p.ok)) (.cons 5 (.ptr 0 0) (.cons 1 (.sy (.int 0 p.c)) (.cons 0 (.sy (.int 0 p.n)) .nil)))))), (.node (.node (.node .leaf (some (.prow 45 18 Int p.l encK)) .leaf) (some (.prow 45 18 Int (p.v ++ m1) encK)) .leaf) (some (.blk false 67 10 [[.int 1 (.ofNat 0), .int 3 (.ofNat 1), .sl 2 0 1 (.rest 0), .int 1 (.ofNat 0), .int 2 (.ofNat 1), .sy (.prow 3 p.l.length), .int 0 (.ofNat 0), .sy (.int 0 p.com), .bool false, .map 4]])) (.node (.node .leaf (some (.map [(.agg [.int 1 (.ofNat 0), .int 2 (.ofNat 1)], .sy (.int 0 p.cnt), 0)] 1)) .leaf) (some (.blk true 31 2 [[.int 1 (.ofNat 0), .int 2 (.ofNat 1)]])) .leaf)), 5) = I_b1 q1 ∧ mu_b1 q1 < mu_b1 p)) (sp_b1 q1 K)))))))) (K 4 (.cons 9 (.sy (.prow 1 p.v.length)) (.cons 6 (.sy (.int 0 p.ok)) (.cons 5 (.ptr 0 0) (.cons 1 (.sy (.int 0 p.c)) (.cons 0 (.sy (.int 0 p.n)) .nil))))) (.node (.node (.node .leaf (some (.prow 45 18 Int p.l encK)) .leaf) (some (.prow 45 18 Int p.v encK)) .leaf) (some (.blk false 67 10 [[.int 1 (.ofNat 0), .int 3 (.ofNat 1), .sl 2 0 1 (.rest 0), .int 1 (.ofNat 0), .int 2 (.ofNat 1), .sy (.prow 3 p.l.length), .int 0 (.ofNat 0), .sy (.int 0 p.com), .bool false, .map 4]])) (.node (.node .leaf (some (.map [(.agg [.int 1 (.ofNat 0), .int 2 (.ofNat 1)], .sy (.int 0 p.cnt), 0)] 1)) .leaf) (some (.blk true 31 2 [[.int 1 (.ofNat 0), .int 2 (.ofNat 1)]])) .leaf)) 5)) := by kernel_rfl
  refine Eq.trans e ?_
  clear e
  obtain ⟨g0, g1, g2, g3⟩ := hpre
  refine ifP (fun (hc1 : p.i < p.n) => ?_) (fun (hc1 : ¬ (p.i < p.n)) => ?_)
  ·
    refine exB_mk (⟨(3 : Int)⟩ : A_killL) ?_
    refine mustP (rfl) ?_
    refine mustP (show 0 ≤ (3 : Int) ∧ (3 : Int) < 256 from by decide) ?_
    refine mustP (rfl) ?_
    refine exB_mk [(3 : Int)] ?_
    refine mustP (rfl) ?_
    refine mustP (show limP 104 (p.v.length + [(3 : Int)].length) from (by (first | omega | (simp only [List.length_append, List.length_cons, List.length_nil, limP] ; omega) | (simp ; done) | (simp ; omega)))) ?_
    refine mustP (show InR 0 (p.i + (1 : Int)) from (by simp only [InR] ; omega)) ?_
    refine exB_mk (⟨p.n, p.c, p.ok, p.com, p.cnt, p.l, p.v ++ [(3 : Int)], p.i + (1 : Int)⟩ : A_b1) ?_
    refine mustP (⟨rfl, show (p.n - (p.i + (1 : Int))).toNat < (p.n - p.i).toNat from by omega⟩) ?_
    exact mustP (show 0 ≤ (p.i + (1 : Int)) ∧ (p.i + (1 : Int)) ≤ p.n ∧ p.n ≤ 404 ∧ ((p.v ++ [(3 : Int)]).length : Int) = (p.i + (1 : Int)) from (by (first | omega | (simp only [List.length_append, List.length_cons, List.length_nil, limP] ; omega) | (simp ; done) | (simp ; omega)))) hK
  ·
    exact ifB_use (show (p.v.length : Int) = p.n from (by omega)) (allB_ok hK (⟨p.v⟩ : R_b1))
theorem lo_b1 : LpOk Try.prog 101 0 lp_bounds true 1 bd_b1 := by
  exact lp_of (lf := 600) tb_mix (callX_ok (lp := noLp) (lf := 600) tb_mix tb_all nat_clones_imm_ok 40) (by rfl) I_b1 mu_b1 sp_b1 (fun b j x h => by cases h) (fun S M nx K h => by obtain ⟨p, h⟩ := exB_ok h; exact ⟨p, (mustP_ok h).1, (mustP_ok h).2⟩) (fun p K h => vb_b1 p K (mustP_ok h).1 (mustP_ok h).2)
structure A_bounds where
  n : Int
  c : Int
structure R_bounds1 where
  q : Prop
noncomputable def I_bounds (p : A_bounds) : List AV × T × Nat := ([.sy (.int 0 p.n), .sy (.int 0 p.c)], .leaf, 0)
noncomputable def out_bounds (p : A_bounds) (K : AV → T → Nat → Bool) : Bool := must (K (.bool true) .leaf 0) (allB fun r : R_bounds1 => ifB (prB (r.q)) (K (.sy (.bool r.q)) .leaf 0) true)
theorem vf_bounds (p : A_bounds) (K : AV → T → Nat → Bool) (hK : out_bounds p K = true) : (funE 0 (callX tb_tab nat_clones_imm noLp 600 40) lp_bounds 600 ft_bounds (I_bounds p).1 (I_bounds p).2.1 (I_bounds p).2.2 K) = true := by
  have e : (funE 0 (callX tb_tab nat_clones_imm noLp 600 40) lp_bounds 600 ft_bounds (I_bounds p).1 (I_bounds p).2.1 (I_bounds p).2.2 K) = (must (prB ((10 : Int) ≠ 0)) (must (prB (InR 0 ((Int.tmod p.n (10 : Int)) + (10 : Int)))) (must (prB ((10 : Int) ≠ 0)) (must (prB (InR 0 ((395 : Int) + (Int.tmod ((Int.tmod p.n (10 : Int)) + (10 : Int)) (10 : Int))))) (must (must (must (prB ((.sl 2 0 0 (.ex 0) : AV) = (.sl 2 0 0 (.ex 0) : AV))) (exB fun p1 : A_b0 => must (prB (((.cons 7 (.sy (.int 0 0)) (.cons 6 (.sy (.int 0 0)) (.cons 5 (.ptr 0 0) (.cons 1 (.sy (.int 0 p.c)) (.cons 0 (.sy (.int 0 ((395 : Int) + (Int.tmod ((Int.tmod p.n (10 : Int)) + (10 : Int)) (10 : Int))))) .nil))))), (.node (.node (.node .leaf (some (.map [(.agg [.int 1 (.ofNat 0), .int 2 (.ofNat 1)], .sy (.int 0 0), 0)] 1)) .leaf) (some (.blk true 31 2 [[.int 1 (.ofNat 0), .int 2 (.ofNat 1)]])) .leaf) (some (.blk false 67 10 [[.int 1 (.ofNat 0), .int 3 (.ofNat 1), .sl 1 0 1 (.rest 0), .int 1 (.ofNat 0), .int 2 (.ofNat 1), .sy (.prow 2 0), .int 0 (.ofNat 0), .sy (.int 0 0), .bool false, .map 3]])) (.node .leaf (some (.prow 45 18 Int ([] : List Int) encK)) .leaf)), 4) = I_b0 p1)) (must (prB (395 ≤ p1.n ∧ p1.n ≤ 404 ∧ (p1.l.length : Int) = p1.ok ∧ p1.com = p1.ok ∧ p1.cnt = p1.ok ∧ 0 ≤ p1.i ∧ p1.i ≤ p1.n ∧ p1.ok = min p1.i 400)) (allB fun r1 : R_b0 => ifB (prB (395 ≤ p1.n ∧ p1.n ≤ 404 ∧ (r1.l.length : Int) = r1.ok ∧ r1.com = r1.ok ∧ r1.cnt = r1.ok ∧ 0 ≤ p1.n ∧ p1.n ≤ p1.n ∧ r1.ok = min p1.n 400)) (exB fun p2 : A_b1 => must (prB (((.cons 10 (.sy (.int 0 0)) (.cons 9 (.sy (.prow 1 0)) (.cons 6 (.sy (.int 0 r1.ok)) (.cons 5 (.ptr 0 0) (.cons 1 (.sy (.int 0 p1.c)) (.cons 0 (.sy (.int 0 p1.n)) .nil)))))), (.node (.node (.node .leaf (some (.prow 45 18 Int r1.l encK)) .leaf) (some (.prow 45 18 Int ([] : List Int) encK)) .leaf) (some (.blk false 67 10 [[.int 1 (.ofNat 0), .int 3 (.ofNat 1), .sl 2 0 1 (.rest 0), .int 1 (.ofNat 0), .int 2 (.ofNat 1), .sy (.prow 3 r1.l.length), .int 0 (.ofNat 0), .sy (.int 0 r1.com), .bool false, .map 4]])) (.node (.node .leaf (some (.map [(.agg [.int 1 (.ofNat 0), .int 2 (.ofNat 1)], .sy (.int 0 r1.cnt), 0)] 1)) .leaf) (some (.blk true 31 2 [[.int 1 (.ofNat 0), .int 2 (.ofNat 1)]])) .leaf)), 5) = I_b1 p2)) (must (prB (0 ≤ p2.i ∧ p2.i ≤ p2.n ∧ p2.n ≤ 404 ∧ (p2.v.length : Int) = p2.i)) (allB fun r2 : R_b1 => ifB (prB ((r2.v.length : Int) = p2.n)) (must (must (must (prB ((.sl 7 0 0 (.ex 0) : AV) = (.sl 7 0 0 (.ex 0) : AV))) (ifB (prB ((0 : Int) < (0 : Int))) (ifB (prB (p2.ok = (min p2.n (400 : Int)))) (ifB (prB (p2.com = p2.ok)) (ifB (prB (p2.n ≤ (400 : Int))) (K (.bool false) .leaf 0) (ifB (prB ((0 : Int) = (0 : Int))) (exB fun p3 : A_knows => must (prB (([], .leaf, 0) = I_knows p3)) (K (.bool true) .leaf 0)) (K (.bool false) .leaf 0))) (K (.bool false) .leaf 0)) (K (.bool false) .leaf 0)) (ifB (prB ((400 : Int) < (r2.v.length : Int))) (ifB (prB (p2.ok = (min p2.n (400 : Int)))) (ifB (prB (p2.com = p2.ok)) (ifB (prB (p2.n ≤ (400 : Int))) (K (.bool false) .leaf 0) (ifB (prB ((0 : Int) = (0 : Int))) (exB fun p4 : A_knows => must (prB (([], .leaf, 0) = I_knows p4)) (K (.bool true) .leaf 0)) (K (.bool false) .leaf 0))) (K (.bool false) .leaf 0)) (K (.bool false) .leaf 0)) (must (prB (InR 0 ((0 : Int) - (0 : Int)))) (ifB (prB (((0 : Int) - (0 : Int)) < (r2.v.length : Int))) (must (prB (r2.v.length = r2.v.length ∧ 0 ≤ ((0 : Int) - (0 : Int)) ∧ ((0 : Int) - (0 : Int)) ≤ (r2.v.length : Int) ∧ (r2.v.length : Int) ≤ (r2.v.length : Int))) (exB fun p5 : A_clones_psub => must (prB (([.sy (.psub 0 18 (((0 : Int) - (0 : Int)).toNat) (r2.v.length - (((0 : Int) - (0 : Int)).toNat)))], (.node .leaf (some (.prow 45 18 Int r2.v encK)) .leaf), 1) = I_clones_psub p5)) (must (prB (p5.a + p5.n ≤ p5.l.length ∧ p5.n ≤ 1000000)) (allB fun r3 : R_clones_psub => ifB (prB (r3.o = (p5.l.drop p5.a).take p5.n ∧ r3.o.length = p5.n)) (must (prB (((.prow 9 0) : SY) = (.prow 9 0))) (must (prB (r3.o.length = r3.o.length)) (must (prB (0 = ([] : List Int).length)) (ifB (prB (r3.o = [])) (ifB (prB (p2.ok = (min p2.n (400 : Int)))) (ifB (prB (p2.com = p2.ok)) (ifB (prB (p2.n ≤ (400 : Int))) (ifB (prB ((0 : Int) = p2.n)) (ifB (prB ((max (0 : Int) (min p2.c (0 : Int))) = (max (0 : Int) (min p2.n p2.c)))) (exB fun p7 : A_knows => must (prB (([], .leaf, 0) = I_knows p7)) (K (.bool true) .leaf 0)) (K (.bool false) .leaf 0)) (K (.bool false) .leaf 0)) (K (.bool false) .leaf 0)) (K (.bool false) .leaf 0)) (K (.bool false) .leaf 0)) (exB fun m1 : List Int => must (prB (m1.map encK = r3.o.map encK)) (must (prB (limP 104 (([] : List Int).length + m1.length))) (ifB (prB (p2.ok = (min p2.n (400 : Int)))) (ifB (prB (p2.com = p2.ok)) (ifB (prB (p2.n ≤ (400 : Int))) (ifB (prB (((([] : List Int) ++ m1).length : Int) = p2.n)) (ifB (prB ((max (0 : Int) (min p2.c ((([] : List Int) ++ m1).length : Int))) = (max (0 : Int) (min p2.n p2.c)))) (exB fun p6 : A_knows => must (prB (([], .leaf, 0) = I_knows p6)) (K (.bool true) .leaf 0)) (K (.bool false) .leaf 0)) (K (.bool false) .leaf 0)) (K (.bool false) .leaf 0)) (K (.bool false) .leaf 0)) (K (.bool false) .leaf 0)))))))) true)))) (ifB (prB (p2.ok = (min p2.n (400 : Int)))) (ifB (prB (p2.com = p2.ok)) (ifB (prB (p2.n ≤ (400 : Int))) (ifB (prB ((0 : Int) = p2.n)) (ifB (prB ((max (0 : Int) (min p2.c (0 : Int))) = (max (0 : Int) (min p2.n p2.c)))) (exB fun p8 : A_knows => must (prB (([], .leaf, 0) = I_knows p8)) (K (.bool true) .leaf 0)) (K (.bool false) .leaf 0)) (K (.bool false) .leaf 0)) (K (.bool false) .leaf 0)) (K (.bool false) .leaf 0)) (K (.bool false) .leaf 0))))))) (must (prB ((.sl 7 0 0 (.ex 0) : AV) = (.sl 7 0 0 (.ex 0) : AV))) (ifB (prB ((0 : Int) < (0 : Int))) (ifB (prB (p2.ok = (min p2.n (400 : Int)))) (ifB (prB (p2.com = p2.ok)) (ifB (prB (p2.n ≤ (400 : Int))) (K (.bool false) .leaf 0) (ifB (prB ((0 : Int) = (0 : Int))) (exB fun p9 : A_knows => must (prB (([], .leaf, 0) = I_knows p9)) (K (.bool true) .leaf 0)) (K (.bool false) .leaf 0))) (K (.bool false) .leaf 0)) (K (.bool false) .leaf 0)) (ifB (prB ((400 : Int) < (r2.v.length : Int))) (ifB (prB (p2.ok = (min p2.n (400 : Int)))) (ifB (prB (p2.com = p2.ok)) (ifB (prB (p2.n ≤ (400 : Int))) (K (.bool false) .leaf 0) (ifB (prB ((0 : Int) = (0 : Int))) (exB fun p10 : A_knows => must (prB (([], .leaf, 0) = I_knows p10)) (K (.bool true) .leaf 0)) (K (.bool false) .leaf 0))) (K (.bool false) .leaf 0)) (K (.bool false) .leaf 0)) (must (prB (InR 0 ((0 : Int) - (0 : Int)))) (ifB (prB (((0 : Int) - (0 : Int)) < (r2.v.length : Int))) (must (prB (r2.v.length = r2.v.length ∧ 0 ≤ ((0 : Int) - (0 : Int)) ∧ ((0 : Int) - (0 : Int)) ≤ (r2.v.length : Int) ∧ (r2.v.length : Int) ≤ (r2.v.length : Int))) (exB fun p11 : A_clones_psub => must (prB (([.sy (.psub 0 18 (((0 : Int) - (0 : Int)).toNat) (r2.v.length - (((0 : Int) - (0 : Int)).toNat)))], (.node .leaf (some (.prow 45 18 Int r2.v encK)) .leaf), 1) = I_clones_psub p11)) (must (prB (p11.a + p11.n ≤ p11.l.length ∧ p11.n ≤ 1000000)) (allB fun r4 : R_clones_psub => ifB (prB (r4.o = (p11.l.drop p11.a).take p11.n ∧ r4.o.length = p11.n)) (must (prB (((.prow 9 0) : SY) = (.prow 9 0))) (must (prB (r4.o.length = r4.o.length)) (must (prB (0 = ([] : List Int).length)) (ifB (prB (r4.o = [])) (ifB (prB (p2.ok = (min p2.n (400 : Int)))) (ifB (prB (p2.com = p2.ok)) (ifB (prB (p2.n ≤ (400 : Int))) (ifB (prB ((0 : Int) = p2.n)) (ifB (prB ((max (0 : Int) (min p2.c (0 : Int))) = (max (0 : Int) (min p2.n p2.c)))) (exB fun p13 : A_knows => must (prB (([], .leaf, 0) = I_knows p13)) (K (.bool true) .leaf 0)) (K (.bool false) .leaf 0)) (K (.bool false) .leaf 0)) (K (.bool false) .leaf 0)) (K (.bool false) .leaf 0)) (K (.bool false) .leaf 0)) (exB fun m2 : List Int => must (prB (m2.map encK = r4.o.map encK)) (must (prB (limP 104 (([] : List Int).length + m2.length))) (ifB (prB (p2.ok = (min p2.n (400 : Int)))) (ifB (prB (p2.com = p2.ok)) (ifB (prB (p2.n ≤ (400 : Int))) (ifB (prB (((([] : List Int) ++ m2).length : Int) = p2.n)) (ifB (prB ((max (0 : Int) (min p2.c ((([] : List Int) ++ m2).length : Int))) = (max (0 : Int) (min p2.n p2.c)))) (exB fun p12 : A_knows => must (prB (([], .leaf, 0) = I_knows p12)) (K (.bool true) .leaf 0)) (K (.bool false) .leaf 0)) (K (.bool false) .leaf 0)) (K (.bool false) .leaf 0)) (K (.bool false) .leaf 0)) (K (.bool false) .leaf 0)))))))) true)))) (ifB (prB (p2.ok = (min p2.n (400 : Int)))) (ifB (prB (p2.com = p2.ok)) (ifB (prB (p2.n ≤ (400 : Int))) (ifB (prB ((0 : Int) = p2.n)) (ifB (prB ((max (0 : Int) (min p2.c (0 : Int))) = (max (0 : Int) (min p2.n p2.c)))) (exB fun p14 : A_knows => must (prB (([], .leaf, 0) = I_knows p14)) (K (.bool true) .leaf 0)) (K (.bool false) .leaf 0)) (K (.bool false) .leaf 0)) (K (.bool false) .leaf 0)) (K (.bool false) .leaf 0)) (K (.bool false) .leaf 0)))))))) (must (prB ((.sl 7 0 0 (.ex 0) : AV) = (.sl 7 0 0 (.ex 0) : AV))) (ifB (prB ((0 : Int) < (0 : Int))) (ifB (prB (p2.ok = (min p2.n (400 : Int)))) (ifB (prB (p2.com = p2.ok)) (ifB (prB (p2.n ≤ (400 : Int))) (K (.bool false) .leaf 0) (ifB (prB ((0 : Int) = (0 : Int))) (exB fun p15 : A_knows => must (prB (([], .leaf, 0) = I_knows p15)) (K (.bool true) .leaf 0)) (K (.bool false) .leaf 0))) (K (.bool false) .leaf 0)) (K (.bool false) .leaf 0)) (ifB (prB ((400 : Int) < (r2.v.length : Int))) (ifB (prB (p2.ok = (min p2.n (400 : Int)))) (ifB (prB (p2.com = p2.ok)) (ifB (prB (p2.n ≤ (400 : Int))) (K (.bool false) .leaf 0) (ifB (prB ((0 : Int) = (0 : Int))) (exB fun p16 : A_knows => must (prB (([], .leaf, 0) = I_knows p16)) (K (.bool true) .leaf 0)) (K (.bool false) .leaf 0))) (K (.bool false) .leaf 0)) (K (.bool false) .leaf 0)) (must (prB (InR 0 ((0 : Int) - (0 : Int)))) (ifB (prB (((0 : Int) - (0 : Int)) < (r2.v.length : Int))) (must (prB (r2.v.length = r2.v.length ∧ 0 ≤ ((0 : Int) - (0 : Int)) ∧ ((0 : Int) - (0 : Int)) ≤ (r2.v.length : Int) ∧ (r2.v.length : Int) ≤ (r2.v.length : Int))) (exB fun p17 : A_clones_psub => must (prB (([.sy (.psub 0 18 (((0 : Int) - (0 : Int)).toNat) (r2.v.length - (((0 : Int) - (0 : Int)).toNat)))], (.node .leaf (some (.prow 45 18 Int r2.v encK)) .leaf), 1) = I_clones_psub p17)) (must (prB (p17.a + p17.n ≤ p17.l.length ∧ p17.n ≤ 1000000)) (allB fun r5 : R_clones_psub => ifB (prB (r5.o = (p17.l.drop p17.a).take p17.n ∧ r5.o.length = p17.n)) (must (prB (((.prow 9 0) : SY) = (.prow 9 0))) (must (prB (r5.o.length = r5.o.length)) (must (prB (0 = ([] : List Int).length)) (ifB (prB (r5.o = [])) (ifB (prB (p2.ok = (min p2.n (400 : Int)))) (ifB (prB (p2.com = p2.ok)) (ifB (prB (p2.n ≤ (400 : Int))) (ifB (prB ((0 : Int) = p2.n)) (ifB (prB ((max (0 : Int) (min p2.c (0 : Int))) = (max (0 : Int) (min p2.n p2.c)))) (exB fun p19 : A_knows => must (prB (([], .leaf, 0) = I_knows p19)) (K (.bool true) .leaf 0)) (K (.bool false) .leaf 0)) (K (.bool false) .leaf 0)) (K (.bool false) .leaf 0)) (K (.bool false) .leaf 0)) (K (.bool false) .leaf 0)) (exB fun m3 : List Int => must (prB (m3.map encK = r5.o.map encK)) (must (prB (limP 104 (([] : List Int).length + m3.length))) (ifB (prB (p2.ok = (min p2.n (400 : Int)))) (ifB (prB (p2.com = p2.ok)) (ifB (prB (p2.n ≤ (400 : Int))) (ifB (prB (((([] : List Int) ++ m3).length : Int) = p2.n)) (ifB (prB ((max (0 : Int) (min p2.c ((([] : List Int) ++ m3).length : Int))) = (max (0 : Int) (min p2.n p2.c)))) (exB fun p18 : A_knows => must (prB (([], .leaf, 0) = I_knows p18)) (K (.bool true) .leaf 0)) (K (.bool false) .leaf 0)) (K (.bool false) .leaf 0)) (K (.bool false) .leaf 0)) (K (.bool false) .leaf 0)) (K (.bool false) .leaf 0)))))))) true)))) (ifB (prB (p2.ok = (min p2.n (400 : Int)))) (ifB (prB (p2.com = p2.ok)) (ifB (prB (p2.n ≤ (400 : Int))) (ifB (prB ((0 : Int) = p2.n)) (ifB (prB ((max (0 : Int) (min p2.c (0 : Int))) = (max (0 : Int) (min p2.n p2.c)))) (exB fun p20 : A_knows => must (prB (([], .leaf, 0) = I_knows p20)) (K (.bool true) .leaf 0)) (K (.bool false) .leaf 0)) (K (.bool false) .leaf 0)) (K (.bool false) .leaf 0)) (K (.bool false) .leaf 0)) (K (.bool false) .leaf 0)))))))) true))) true)))) (must (prB ((.sl 2 0 0 (.ex 0) : AV) = (.sl 2 0 0 (.ex 0) : AV))) (exB fun p21 : A_b0 => must (prB (((.cons 7 (.sy (.int 0 0)) (.cons 6 (.sy (.int 0 0)) (.cons 5 (.ptr 0 0) (.cons 1 (.sy (.int 0 p.c)) (.cons 0 (.sy (.int 0 ((395 : Int) + (Int.tmod ((Int.tmod p.n (10 : Int)) + (10 : Int)) (10 : Int))))) .nil))))), (.node (.node (.node .leaf (some (.map [(.agg [.int 1 (.ofNat 0), .int 2 (.ofNat 1)], .sy (.int 0 0), 0)] 1)) .leaf) (some (.blk true 31 2 [[.int 1 (.ofNat 0), .int 2 (.ofNat 1)]])) .leaf) (some (.blk false 67 10 [[.int 1 (.ofNat 0), .int 3 (.ofNat 1), .sl 1 0 1 (.rest 0), .int 1 (.ofNat 0), .int 2 (.ofNat 1), .sy (.prow 2 0), .int 0 (.ofNat 0), .sy (.int 0 0), .bool false, .map 3]])) (.node .leaf (some (.prow 45 18 Int ([] : List Int) encK)) .leaf)), 4) = I_b0 p21)) (must (prB (395 ≤ p21.n ∧ p21.n ≤ 404 ∧ (p21.l.length : Int) = p21.ok ∧ p21.com = p21.ok ∧ p21.cnt = p21.ok ∧ 0 ≤ p21.i ∧ p21.i ≤ p21.n ∧ p21.ok = min p21.i 400)) (allB fun r6 : R_b0 => ifB (prB (395 ≤ p21.n ∧ p21.n ≤ 404 ∧ (r6.l.length : Int) = r6.ok ∧ r6.com = r6.ok ∧ r6.cnt = r6.ok ∧ 0 ≤ p21.n ∧ p21.n ≤ p21.n ∧ r6.ok = min p21.n 400)) (exB fun p22 : A_b1 => must (prB (((.cons 10 (.sy (.int 0 0)) (.cons 9 (.sy (.prow 1 0)) (.cons 6 (.sy (.int 0 r6.ok)) (.cons 5 (.ptr 0 0) (.cons 1 (.sy (.int 0 p21.c)) (.cons 0 (.sy (.int 0 p21.n)) .nil)))))), (.node (.node (.node .leaf (some (.prow 45 18 Int r6.l encK)) .leaf) (some (.prow 45 18 Int ([] : List Int) encK)) .leaf) (some (.blk false 67 10 [[.int 1 (.ofNat 0), .int 3 (.ofNat 1), .sl 2 0 1 (.rest 0), .int 1 (.ofNat 0), .int 2 (.ofNat 1), .sy (.prow 3 r6.l.length), .int 0 (.ofNat 0), .sy (.int 0 r6.com), .bool false, .map 4]])) (.node (.node .leaf (some (.map [(.agg [.int 1 (.ofNat 0), .int 2 (.ofNat 1)], .sy (.int 0 r6.cnt), 0)] 1)) .leaf) (some (.blk true 31 2 [[.int 1 (.ofNat 0), .int 2 (.ofNat 1)]])) .leaf)), 5) = I_b1 p22)) (must (prB (0 ≤ p22.i ∧ p22.i ≤ p22.n ∧ p22.n ≤ 404 ∧ (p22.v.length : Int) = p22.i)) (allB fun r7 : R_b1 => ifB (prB ((r7.v.length : Int) = p22.n)) (must (must (must (prB ((.sl 7 0 0 (.ex 0) : AV) = (.sl 7 0 0 (.ex 0) : AV))) (ifB (prB ((0 : Int) < (0 : Int))) (ifB (prB (p22.ok = (min p22.n (400 : Int)))) (ifB (prB (p22.com = p22.ok)) (ifB (prB (p22.n ≤ (400 : Int))) (K (.bool false) .leaf 0) (ifB (prB ((0 : Int) = (0 : Int))) (exB fun p23 : A_knows => must (prB (([], .leaf, 0) = I_knows p23)) (K (.bool true) .leaf 0)) (K (.bool false) .leaf 0))) (K (.bool false) .leaf 0)) (K (.bool false) .leaf 0)) (ifB (prB ((400 : Int) < (r7.v.length : Int))) (ifB (prB (p22.ok = (min p22.n (400 : Int)))) (ifB (prB (p22.com = p22.ok)) (ifB (prB (p22.n ≤ (400 : Int))) (K (.bool false) .leaf 0) (ifB (prB ((0 : Int) = (0 : Int))) (exB fun p24 : A_knows => must (prB (([], .leaf, 0) = I_knows p24)) (K (.bool true) .leaf 0)) (K (.bool false) .leaf 0))) (K (.bool false) .leaf 0)) (K (.bool false) .leaf 0)) (must (prB (InR 0 ((0 : Int) - (0 : Int)))) (ifB (prB (((0 : Int) - (0 : Int)) < (r7.v.length : Int))) (must (prB (r7.v.length = r7.v.length ∧ 0 ≤ ((0 : Int) - (0 : Int)) ∧ ((0 : Int) - (0 : Int)) ≤ (r7.v.length : Int) ∧ (r7.v.length : Int) ≤ (r7.v.length : Int))) (exB fun p25 : A_clones_psub => must (prB (([.sy (.psub 0 18 (((0 : Int) - (0 : Int)).toNat) (r7.v.length - (((0 : Int) - (0 : Int)).toNat)))], (.node .leaf (some (.prow 45 18 Int r7.v encK)) .leaf), 1) = I_clones_psub p25)) (must (prB (p25.a + p25.n ≤ p25.l.length ∧ p25.n ≤ 1000000)) (allB fun r8 : R_clones_psub => ifB (prB (r8.o = (p25.l.drop p25.a).take p25.n ∧ r8.o.length = p25.n)) (must (prB (((.prow 9 0) : SY) = (.prow 9 0))) (must (prB (r8.o.length = r8.o.length)) (must (prB (0 = ([] : List Int).length)) (ifB (prB (r8.o = [])) (ifB (prB (p22.ok = (min p22.n (400 : Int)))) (ifB (prB (p22.com = p22.ok)) (ifB (prB (p22.n ≤ (400 : Int))) (ifB (prB ((0 : Int) = p22.n)) (ifB (prB ((max (0 : Int) (min p22.c (0 : Int))) = (max (0 : Int) (min p22.n p22.c)))) (exB fun p27 : A_knows => must (prB (([], .leaf, 0) = I_knows p27)) (K (.bool true) .leaf 0)) (K (.bool false) .leaf 0)) (K (.bool false) .leaf 0)) (K (.bool false) .leaf 0)) (K (.bool false) .leaf 0)) (K (.bool false) .leaf 0)) (exB fun m4 : List Int => must (prB (m4.map encK = r8.o.map encK)) (must (prB (limP 104 (([] : List Int).length + m4.length))) (ifB (prB (p22.ok = (min p22.n (400 : Int)))) (ifB (prB (p22.com = p22.ok)) (ifB (prB (p22.n ≤ (400 : Int))) (ifB (prB (((([] : List Int) ++ m4).length : Int) = p22.n)) (ifB (prB ((max (0 : Int) (min p22.c ((([] : List Int) ++ m4).length : Int))) = (max (0 : Int) (min p22.n p22.c)))) (exB fun p26 : A_knows => must (prB (([], .leaf, 0) = I_knows p26)) (K (.bool true) .leaf 0)) (K (.bool false) .leaf 0)) (K (.bool false) .leaf 0)) (K (.bool false) .leaf 0)) (K (.bool false) .leaf 0)) (K (.bool false) .leaf 0)))))))) true)))) (ifB (prB (p22.ok = (min p22.n (400 : Int)))) (ifB (prB (p22.com = p22.ok)) (ifB (prB (p22.n ≤ (400 : Int))) (ifB (prB ((0 : Int) = p22.n)) (ifB (prB ((max (0 : Int) (min p22.c (0 : Int))) = (max (0 : Int) (min p22.n p22.c)))) (exB fun p28 : A_knows => must (prB (([], .leaf, 0) = I_knows p28)) (K (.bool true) .leaf 0)) (K (.bool false) .leaf 0)) (K (.bool false) .leaf 0)) (K (.bool false) .leaf 0)) (K (.bool false) .leaf 0)) (K (.bool false) .leaf 0))))))) (must (prB ((.sl 7 0 0 (.ex 0) : AV) = (.sl 7 0 0 (.ex 0) : AV))) (ifB (prB ((0 : Int) < (0 : Int))) (ifB (prB (p22.ok = (min p22.n (400 : Int)))) (ifB (prB (p22.com = p22.ok)) (ifB (prB (p22.n ≤ (400 : Int))) (K (.bool false) .leaf 0) (ifB (prB ((0 : Int) = (0 : Int))) (exB fun p29 : A_knows => must (prB (([], .leaf, 0) = I_knows p29)) (K (.bool true) .leaf 0)) (K (.bool false) .leaf 0))) (K (.bool false) .leaf 0)) (K (.bool false) .leaf 0)) (ifB (prB ((400 : Int) < (r7.v.length : Int))) (ifB (prB (p22.ok = (min p22.n (400 : Int)))) (ifB (prB (p22.com = p22.ok)) (ifB (prB (p22.n ≤ (400 : Int))) (K (.bool false) .leaf 0) (ifB (prB ((0 : Int) = (0 : Int))) (exB fun p30 : A_knows => must (prB (([], .leaf, 0) = I_knows p30)) (K (.bool true) .leaf 0)) (K (.bool false) .leaf 0))) (K (.bool false) .leaf 0)) (K (.bool false) .leaf 0)) (must (prB (InR 0 ((0 : Int) - (0 : Int)))) (ifB (prB (((0 : Int) - (0 : Int)) < (r7.v.length : Int))) (must (prB (r7.v.length = r7.v.length ∧ 0 ≤ ((0 : Int) - (0 : Int)) ∧ ((0 : Int) - (0 : Int)) ≤ (r7.v.length : Int) ∧ (r7.v.length : Int) ≤ (r7.v.length : Int))) (exB fun p31 : A_clones_psub => must (prB (([.sy (.psub 0 18 (((0 : Int) - (0 : Int)).toNat) (r7.v.length - (((0 : Int) - (0 : Int)).toNat)))], (.node .leaf (some (.prow 45 18 Int r7.v encK)) .leaf), 1) = I_clones_psub p31)) (must (prB (p31.a + p31.n ≤ p31.l.length ∧ p31.n ≤ 1000000)) (allB fun r9 : R_clones_psub => ifB (prB (r9.o = (p31.l.drop p31.a).take p31.n ∧ r9.o.length = p31.n)) (must (prB (((.prow 9 0) : SY) = (.prow 9 0))) (must (prB (r9.o.length = r9.o.length)) (must (prB (0 = ([] : List Int).length)) (ifB (prB (r9.o = [])) (ifB (prB (p22.ok = (min p22.n (400 : Int)))) (ifB (prB (p22.com = p22.ok)) (ifB (prB (p22.n ≤ (400 : Int))) (ifB (prB ((0 : Int) = p22.n)) (ifB (prB ((max (0 : Int) (min p22.c (0 : Int))) = (max (0 : Int) (min p22.n p22.c)))) (exB fun p33 : A_knows => must (prB (([], .leaf, 0) = I_knows p33)) (K (.bool true) .leaf 0)) (K (.bool false) .leaf 0)) (K (.bool false) .leaf 0)) (K (.bool false) .leaf 0)) (K (.bool false) .leaf 0)) (K (.bool false) .leaf 0)) (exB fun m5 : List Int => must (prB (m5.map encK = r9.o.map encK)) (must (prB (limP 104 (([] : List Int).length + m5.length))) (ifB (prB (p22.ok = (min p22.n (400 : Int)))) (ifB (prB (p22.com = p22.ok)) (ifB (prB (p22.n ≤ (400 : Int))) (ifB (prB (((([] : List Int) ++ m5).length : Int) = p22.n)) (ifB (prB ((max (0 : Int) (min p22.c ((([] : List Int) ++ m5).length : Int))) = (max (0 : Int) (min p22.n p22.c)))) (exB fun p32 : A_knows => must (prB (([], .leaf, 0) = I_knows p32)) (K (.bool true) .leaf 0)) (K (.bool false) .leaf 0)) (K (.bool false) .leaf 0)) (K (.bool false) .leaf 0)) (K (.bool false) .leaf 0)) (K (.bool false) .leaf 0)))))))) true)))) (ifB (prB (p22.ok = (min p22.n (400 : Int)))) (ifB (prB (p22.com = p22.ok)) (ifB (prB (p22.n ≤ (400 : Int))) (ifB (prB ((0 : Int) = p22.n)) (ifB (prB ((max (0 : Int) (min p22.c (0 : Int))) = (max (0 : Int) (min p22.n p22.c)))) (exB fun p34 : A_knows => must (prB (([], .leaf, 0) = I_knows p34)) (K (.bool true) .leaf 0)) (K (.bool false) .leaf 0)) (K (.bool false) .leaf 0)) (K (.bool false) .leaf 0)) (K (.bool false) .leaf 0)) (K (.bool false) .leaf 0)))))))) (must (prB ((.sl 7 0 0 (.ex 0) : AV) = (.sl 7 0 0 (.ex 0) : AV))) (ifB (prB ((0 : Int) < (0 : Int))) (ifB (prB (p22.ok = (min p22.n (400 : Int)))) (ifB (prB (p22.com = p22.ok)) (ifB (prB (p22.n ≤ (400 : Int))) (K (.bool false) .leaf 0) (ifB (prB ((0 : Int) = (0 : Int))) (exB fun p35 : A_knows => must (prB (([], .leaf, 0) = I_knows p35)) (K (.bool true) .leaf 0)) (K (.bool false) .leaf 0))) (K (.bool false) .leaf 0)) (K (.bool false) .leaf 0)) (ifB (prB ((400 : Int) < (r7.v.length : Int))) (ifB (prB (p22.ok = (min p22.n (400 : Int)))) (ifB (prB (p22.com = p22.ok)) (ifB (prB (p22.n ≤ (400 : Int))) (K (.bool false) .leaf 0) (ifB (prB ((0 : Int) = (0 : Int))) (exB fun p36 : A_knows => must (prB (([], .leaf, 0) = I_knows p36)) (K (.bool true) .leaf 0)) (K (.bool false) .leaf 0))) (K (.bool false) .leaf 0)) (K (.bool false) .leaf 0)) (must (prB (InR 0 ((0 : Int) - (0 : Int)))) (ifB (prB (((0 : Int) - (0 : Int)) < (r7.v.length : Int))) (must (prB (r7.v.length = r7.v.length ∧ 0 ≤ ((0 : Int) - (0 : Int)) ∧ ((0 : Int) - (0 : Int)) ≤ (r7.v.length : Int) ∧ (r7.v.length : Int) ≤ (r7.v.length : Int))) (exB fun p37 : A_clones_psub => must (prB (([.sy (.psub 0 18 (((0 : Int) - (0 : Int)).toNat) (r7.v.length - (((0 : Int) - (0 : Int)).toNat)))], (.node .leaf (some (.prow 45 18 Int r7.v encK)) .leaf), 1) = I_clones_psub p37)) (must (prB (p37.a + p37.n ≤ p37.l.length ∧ p37.n ≤ 1000000)) (allB fun r10 : R_clones_psub => ifB (prB (r10.o = (p37.l.drop p37.a).take p37.n ∧ r10.o.length = p37.n)) (must (prB (((.prow 9 0) : SY) = (.prow 9 0))) (must (prB (r10.o.length = r10.o.length)) (must (prB (0 = ([] : List Int).length)) (ifB (prB (r10.o = [])) (ifB (prB (p22.ok = (min p22.n (400 : Int)))) (ifB (prB (p22.com = p22.ok)) (ifB (prB (p22.n ≤ (400 : Int))) (ifB (prB ((0 : Int) = p22.n)) (ifB (prB ((max (0 : Int) (min p22.c (0 : Int))) = (max (0 : Int) (min p22.n p22.c)))) (exB fun p39 : A_knows => must (prB (([], .leaf, 0) = I_knows p39)) (K (.bool true) .leaf 0)) (K (.bool false) .leaf 0)) (K (.bool false) .leaf 0)) (K (.bool false) .leaf 0)) (K (.bool false) .leaf 0)) (K (.bool false) .leaf 0)) (exB fun m6 : List Int => must (prB (m6.map encK = r10.o.map encK)) (must (prB (limP 104 (([] : List Int).length + m6.length))) (ifB (prB (p22.ok = (min p22.n (400 : Int)))) (ifB (prB (p22.com = p22.ok)) (ifB (prB (p22.n ≤ (400 : Int))) (ifB (prB (((([] : List Int) ++ m6).length : Int) = p22.n)) (ifB (prB ((max (0 : Int) (min p22.c ((([] : List Int) ++ m6).length : Int))) = (max (0 : Int) (min p22.n p22.c)))) (exB fun p38 : A_knows => must (prB (([], .leaf, 0) = I_knows p38)) (K (.bool true) .leaf 0)) (K (.bool false) .leaf 0)) (K (.bool false) .leaf 0)) (K (.bool false) .leaf 0)) (K (.bool false) .leaf 0)) (K (.bool false) .leaf 0)))))))) true)))) (ifB (prB (p22.ok = (min p22.n (400 : Int)))) (ifB (prB (p22.com = p22.ok)) (ifB (prB (p22.n ≤ (400 : Int))) (ifB (prB ((0 : Int) = p22.n)) (ifB (prB ((max (0 : Int) (min p22.c (0 : Int))) = (max (0 : Int) (min p22.n p22.c)))) (exB fun p40 : A_knows => must (prB (([], .leaf, 0) = I_knows p40)) (K (.bool true) .leaf 0)) (K (.bool false) .leaf 0)) (K (.bool false) .leaf 0)) (K (.bool false) .leaf 0)) (K (.bool false) .leaf 0)) (K (.bool false) .leaf 0)))))))) true))) true))))) (must (prB ((.sl 2 0 0 (.ex 0) : AV) = (.sl 2 0 0 (.ex 0) : AV))) (exB fun p41 : A_b0 => must (prB (((.cons 7 (.sy (.int 0 0)) (.cons 6 (.sy (.int 0 0)) (.cons 5 (.ptr 0 0) (.cons 1 (.sy (.int 0 p.c)) (.cons 0 (.sy (.int 0 ((395 : Int) + (Int.tmod ((Int.tmod p.n (10 : Int)) + (10 : Int)) (10 : Int))))) .nil))))), (.node (.node (.node .leaf (some (.map [(.agg [.int 1 (.ofNat 0), .int 2 (.ofNat 1)], .sy (.int 0 0), 0)] 1)) .leaf) (some (.blk true 31 2 [[.int 1 (.ofNat 0), .int 2 (.ofNat 1)]])) .leaf) (some (.blk false 67 10 [[.int 1 (.ofNat 0), .int 3 (.ofNat 1), .sl 1 0 1 (.rest 0), .int 1 (.ofNat 0), .int 2 (.ofNat 1), .sy (.prow 2 0), .int 0 (.ofNat 0), .sy (.int 0 0), .bool false, .map 3]])) (.node .leaf (some (.prow 45 18 Int ([] : List Int) encK)) .leaf)), 4) = I_b0 p41)) (must (prB (395 ≤ p41.n ∧ p41.n ≤ 404 ∧ (p41.l.length : Int) = p41.ok ∧ p41.com = p41.ok ∧ p41.cnt = p41.ok ∧ 0 ≤ p41.i ∧ p41.i ≤ p41.n ∧ p41.ok = min p41.i 400)) (allB fun r11 : R_b0 => ifB (prB (395 ≤ p41.n ∧ p41.n ≤ 404 ∧ (r11.l.length : Int) = r11.ok ∧ r11.com = r11.ok ∧ r11.cnt = r11.ok ∧ 0 ≤ p41.n ∧ p41.n ≤ p41.n ∧ r11.ok = min p41.n 400)) (exB fun p42 : A_b1 => must (prB (((.cons 10 (.sy (.int 0 0)) (.cons 9 (.sy (.prow 1 0)) (.cons 6 (.sy (.int 0 r11.ok)) (.cons 5 (.ptr 0 0) (.cons 1 (.sy (.int 0 p41.c)) (.cons 0 (.sy (.int 0 p41.n)) .nil)))))), (.node (.node (.node .leaf (some (.prow 45 18 Int r11.l encK)) .leaf) (some (.prow 45 18 Int ([] : List Int) encK)) .leaf) (some (.blk false 67 10 [[.int 1 (.ofNat 0), .int 3 (.ofNat 1), .sl 2 0 1 (.rest 0), .int 1 (.ofNat 0), .int 2 (.ofNat 1), .sy (.prow 3 r11.l.length), .int 0 (.ofNat 0), .sy (.int 0 r11.com), .bool false, .map 4]])) (.node (.node .leaf (some (.map [(.agg [.int 1 (.ofNat 0), .int 2 (.ofNat 1)], .sy (.int 0 r11.cnt), 0)] 1)) .leaf) (some (.blk true 31 2 [[.int 1 (.ofNat 0), .int 2 (.ofNat 1)]])) .leaf)), 5) = I_b1 p42)) (must (prB (0 ≤ p42.i ∧ p42.i ≤ p42.n ∧ p42.n ≤ 404 ∧ (p42.v.length : Int) = p42.i)) (allB fun r12 : R_b1 => ifB (prB ((r12.v.length : Int) = p42.n)) (must (must (must (prB ((.sl 7 0 0 (.ex 0) : AV) = (.sl 7 0 0 (.ex 0) : AV))) (ifB (prB ((0 : Int) < (0 : Int))) (ifB (prB (p42.ok = (min p42.n (400 : Int)))) (ifB (prB (p42.com = p42.ok)) (ifB (prB (p42.n ≤ (400 : Int))) (K (.bool false) .leaf 0) (ifB (prB ((0 : Int) = (0 : Int))) (exB fun p43 : A_knows => must (prB (([], .leaf, 0) = I_knows p43)) (K (.bool true) .leaf 0)) (K (.bool false) .leaf 0))) (K (.bool false) .leaf 0)) (K (.bool false) .leaf 0)) (ifB (prB ((400 : Int) < (r12.v.length : Int))) (ifB (prB (p42.ok = (min p42.n (400 : Int)))) (ifB (prB (p42.com = p42.ok)) (ifB (prB (p42.n ≤ (400 : Int))) (K (.bool false) .leaf 0) (ifB (prB ((0 : Int) = (0 : Int))) (exB fun p44 : A_knows => must (prB (([], .leaf, 0) = I_knows p44)) (K (.bool true) .leaf 0)) (K (.bool false) .leaf 0))) (K (.bool false) .leaf 0)) (K (.bool false) .leaf 0)) (must (prB (InR 0 ((0 : Int) - (0 : Int)))) (ifB (prB (((0 : Int) - (0 : Int)) < (r12.v.length : Int))) (must (prB (r12.v.length = r12.v.length ∧ 0 ≤ ((0 : Int) - (0 : Int)) ∧ ((0 : Int) - (0 : Int)) ≤ (r12.v.length : Int) ∧ (r12.v.length : Int) ≤ (r12.v.length : Int))) (exB fun p45 : A_clones_psub => must (prB (([.sy (.psub 0 18 (((0 : Int) - (0 : Int)).toNat) (r12.v.length - (((0 : Int) - (0 : Int)).toNat)))], (.node .leaf (some (.prow 45 18 Int r12.v encK)) .leaf), 1) = I_clones_psub p45)) (must (prB (p45.a + p45.n ≤ p45.l.length ∧ p45.n ≤ 1000000)) (allB fun r13 : R_clones_psub => ifB (prB (r13.o = (p45.l.drop p45.a).take p45.n ∧ r13.o.length = p45.n)) (must (prB (((.prow 9 0) : SY) = (.prow 9 0))) (must (prB (r13.o.length = r13.o.length)) (must (prB (0 = ([] : List Int).length)) (ifB (prB (r13.o = [])) (ifB (prB (p42.ok = (min p42.n (400 : Int)))) (ifB (prB (p42.com = p42.ok)) (ifB (prB (p42.n ≤ (400 : Int))) (ifB (prB ((0 : Int) = p42.n)) (ifB (prB ((max (0 : Int) (min p42.c (0 : Int))) = (max (0 : Int) (min p42.n p42.c)))) (exB fun p47 : A_knows => must (prB (([], .leaf, 0) = I_knows p47)) (K (.bool true) .leaf 0)) (K (.bool false) .leaf 0)) (K (.bool false) .leaf 0)) (K (.bool false) .leaf 0)) (K (.bool false) .leaf 0)) (K (.bool false) .leaf 0)) (exB fun m7 : List Int => must (prB (m7.map encK = r13.o.map encK)) (must (prB (limP 104 (([] : List Int).length + m7.length))) (ifB (prB (p42.ok = (min p42.n (400 : Int)))) (ifB (prB (p42.com = p42.ok)) (ifB (prB (p42.n ≤ (400 : Int))) (ifB (prB (((([] : List Int) ++ m7).length : Int) = p42.n)) (ifB (prB ((max (0 : Int) (min p42.c ((([] : List Int) ++ m7).length : Int))) = (max (0 : Int) (min p42.n p42.c)))) (exB fun p46 : A_knows => must (prB (([], .leaf, 0) = I_knows p46)) (K (.bool true) .leaf 0)) (K (.bool false) .leaf 0)) (K (.bool false) .leaf 0)) (K (.bool false) .leaf 0)) (K (.bool false) .leaf 0)) (K (.bool false) .leaf 0)))))))) true)))) (ifB (prB (p42.ok = (min p42.n (400 : Int)))) (ifB (prB (p42.com = p42.ok)) (ifB (prB (p42.n ≤ (400 : Int))) (ifB (prB ((0 : Int) = p42.n)) (ifB (prB ((max (0 : Int) (min p42.c (0 : Int))) = (max (0 : Int) (min p42.n p42.c)))) (exB fun p48 : A_knows => must (prB (([], .leaf, 0) = I_knows p48)) (K (.bool true) .leaf 0)) (K (.bool false) .leaf 0)) (K (.bool false) .leaf 0)) (K (.bool false) .leaf 0)) (K (.bool false) .leaf 0)) (K (.bool false) .leaf 0))))))) (must (prB ((.sl 7 0 0 (.ex 0) : AV) = (.sl 7 0 0 (.ex 0) : AV))) (ifB (prB ((0 : Int) < (0 : Int))) (ifB (prB (p42.ok = (min p42.n (400 : Int)))) (ifB (prB (p42.com = p42.ok)) (ifB (prB (p42.n ≤ (400 : Int))) (K (.bool false) .leaf 0) (ifB (prB ((0 : Int) = (0 : Int))) (exB fun p49 : A_knows => must (prB (([], .leaf, 0) = I_knows p49)) (K (.bool true) .leaf 0)) (K (.bool false) .leaf 0))) (K (.bool false) .leaf 0)) (K (.bool false) .leaf 0)) (ifB (prB ((400 : Int) < (r12.v.length : Int))) (ifB (prB (p42.ok = (min p42.n (400 : Int)))) (ifB (prB (p42.com = p42.ok)) (ifB (prB (p42.n ≤ (400 : Int))) (K (.bool false) .leaf 0) (ifB (prB ((0 : Int) = (0 : Int))) (exB fun p50 : A_knows => must (prB (([], .leaf, 0) = I_knows p50)) (K (.bool true) .leaf 0)) (K (.bool false) .leaf 0))) (K (.bool false) .leaf 0)) (K (.bool false) .leaf 0)) (must (prB (InR 0 ((0 : Int) - (0 : Int)))) (ifB (prB (((0 : Int) - (0 : Int)) < (r12.v.length : Int))) (must (prB (r12.v.length = r12.v.length ∧ 0 ≤ ((0 : Int) - (0 : Int)) ∧ ((0 : Int) - (0 : Int)) ≤ (r12.v.length : Int) ∧ (r12.v.length : Int) ≤ (r12.v.length : Int))) (exB fun p51 : A_clones_psub => must (prB (([.sy (.psub 0 18 (((0 : Int) - (0 : Int)).toNat) (r12.v.length - (((0 : Int) - (0 : Int)).toNat)))], (.node .leaf (some (.prow 45 18 Int r12.v encK)) .leaf), 1) = I_clones_psub p51)) (must (prB (p51.a + p51.n ≤ p51.l.length ∧ p51.n ≤ 1000000)) (allB fun r14 : R_clones_psub => ifB (prB (r14.o = (p51.l.drop p51.a).take p51.n ∧ r14.o.length = p51.n)) (must (prB (((.prow 9 0) : SY) = (.prow 9 0))) (must (prB (r14.o.length = r14.o.length)) (must (prB (0 = ([] : List Int).length)) (ifB (prB (r14.o = [])) (ifB (prB (p42.ok = (min p42.n (400 : Int)))) (ifB (prB (p42.com = p42.ok)) (ifB (prB (p42.n ≤ (400 : Int))) (ifB (prB ((0 : Int) = p42.n)) (ifB (prB ((max (0 : Int) (min p42.c (0 : Int))) = (max (0 : Int) (min p42.n p42.c)))) (exB fun p53 : A_knows => must (prB (([], .leaf, 0) = I_knows p53)) (K (.bool true) .leaf 0)) (K (.bool false) .leaf 0)) (K (.bool false) .leaf 0)) (K (.bool false) .leaf 0)) (K (.bool false) .leaf 0)) (K (.bool false) .leaf 0)) (exB fun m8 : List Int => must (prB (m8.map encK = r14.o.map encK)) (must (prB (limP 104 (([] : List Int).length + m8.length))) (ifB (prB (p42.ok = (min p42.n (400 : Int)))) (ifB (prB (p42.com = p42.ok)) (ifB (prB (p42.n ≤ (400 : Int))) (ifB (prB (((([] : List Int) ++ m8).length : Int) = p42.n)) (ifB (prB ((max (0 : Int) (min p42.c ((([] : List Int) ++ m8).length : Int))) = (max (0 : Int) (min p42.n p42.c)))) (exB fun p52 : A_knows => must (prB (([], .leaf, 0) = I_knows p52)) (K (.bool true) .leaf 0)) (K (.bool false) .leaf 0)) (K (.bool false) .leaf 0)) (K (.bool false) .leaf 0)) (K (.bool false) .leaf 0)) (K (.bool false) .leaf 0)))))))) true)))) (ifB (prB (p42.ok = (min p42.n (400 : Int)))) (ifB (prB (p42.com = p42.ok)) (ifB (prB (p42.n ≤ (400 : Int))) (ifB (prB ((0 : Int) = p42.n)) (ifB (prB ((max (0 : Int) (min p42.c (0 : Int))) = (max (0 : Int) (min p42.n p42.c)))) (exB fun p54 : A_knows => must (prB (([], .leaf, 0) = I_knows p54)) (K (.bool true) .leaf 0)) (K (.bool false) .leaf 0)) (K (.bool false) .leaf 0)) (K (.bool false) .leaf 0)) (K (.bool false) .leaf 0)) (K (.bool false) .leaf 0)))))))) (must (prB ((.sl 7 0 0 (.ex 0) : AV) = (.sl 7 0 0 (.ex 0) : AV))) (ifB (prB ((0 : Int) < (0 : Int))) (ifB (prB (p42.ok = (min p42.n (400 : Int)))) (ifB (prB (p42.com = p42.ok)) (ifB (prB (p42.n ≤ (400 : Int))) (K (.bool false) .leaf 0) (ifB (prB ((0 : Int) = (0 : Int))) (exB fun p55 : A_knows => must (prB (([], .leaf, 0) = I_knows p55)) (K (.bool true) .leaf 0)) (K (.bool false) .leaf 0))) (K (.bool false) .leaf 0)) (K (.bool false) .leaf 0)) (ifB (prB ((400 : Int) < (r12.v.length : Int))) (ifB (prB (p42.ok = (min p42.n (400 : Int)))) (ifB (prB (p42.com = p42.ok)) (ifB (prB (p42.n ≤ (400 : Int))) (K (.bool false) .leaf 0) (ifB (prB ((0 : Int) = (0 : Int))) (exB fun p56 : A_knows => must (prB (([], .leaf, 0) = I_knows p56)) (K (.bool true) .leaf 0)) (K (.bool false) .leaf 0))) (K (.bool false) .leaf 0)) (K (.bool false) .leaf 0)) (must (prB (InR 0 ((0 : Int) - (0 : Int)))) (ifB (prB (((0 : Int) - (0 : Int)) < (r12.v.length : Int))) (must (prB (r12.v.length = r12.v.length ∧ 0 ≤ ((0 : Int) - (0 : Int)) ∧ ((0 : Int) - (0 : Int)) ≤ (r12.v.length : Int) ∧ (r12.v.length : Int) ≤ (r12.v.length : Int))) (exB fun p57 : A_clones_psub => must (prB (([.sy (.psub 0 18 (((0 : Int) - (0 : Int)).toNat) (r12.v.length - (((0 : Int) - (0 : Int)).toNat)))], (.node .leaf (some (.prow 45 18 Int r12.v encK)) .leaf), 1) = I_clones_psub p57)) (must (prB (p57.a + p57.n ≤ p57.l.length ∧ p57.n ≤ 1000000)) (allB fun r15 : R_clones_psub => ifB (prB (r15.o = (p57.l.drop p57.a).take p57.n ∧ r15.o.length = p57.n)) (must (prB (((.prow 9 0) : SY) = (.prow 9 0))) (must (prB (r15.o.length = r15.o.length)) (must (prB (0 = ([] : List Int).length)) (ifB (prB (r15.o = [])) (ifB (prB (p42.ok = (min p42.n (400 : Int)))) (ifB (prB (p42.com = p42.ok)) (ifB (prB (p42.n ≤ (400 : Int))) (ifB (prB ((0 : Int) = p42.n)) (ifB (prB ((max (0 : Int) (min p42.c (0 : Int))) = (max (0 : Int) (min p42.n p42.c)))) (exB fun p59 : A_knows => must (prB (([], .leaf, 0) = I_knows p59)) (K (.bool true) .leaf 0)) (K (.bool false) .leaf 0)) (K (.bool false) .leaf 0)) (K (.bool false) .leaf 0)) (K (.bool false) .leaf 0)) (K (.bool false) .leaf 0)) (exB fun m9 : List Int => must (prB (m9.map encK = r15.o.map encK)) (must (prB (limP 104 (([] : List Int).length + m9.length))) (ifB (prB (p42.ok = (min p42.n (400 : Int)))) (ifB (prB (p42.com = p42.ok)) (ifB (prB (p42.n ≤ (400 : Int))) (ifB (prB (((([] : List Int) ++ m9).length : Int) = p42.n)) (ifB (prB ((max (0 : Int) (min p42.c ((([] : List Int) ++ m9).length : Int))) = (max (0 : Int) (min p42.n p42.c)))) (exB fun p58 : A_knows => must (prB (([], .leaf, 0) = I_knows p58)) (K (.bool true) .leaf 0)) (K (.bool false) .leaf 0)) (K (.bool false) .leaf 0)) (K (.bool false) .leaf 0)) (K (.bool false) .leaf 0)) (K (.bool false) .leaf 0)))))))) true)))) (ifB (prB (p42.ok = (min p42.n (400 : Int)))) (ifB (prB (p42.com = p42.ok)) (ifB (prB (p42.n ≤ (400 : Int))) (ifB (prB ((0 : Int) = p42.n)) (ifB (prB ((max (0 : Int) (min p42.c (0 : Int))) = (max (0 : Int) (min p42.n p42.c)))) (exB fun p60 : A_knows => must (prB (([], .leaf, 0) = I_knows p60)) (K (.bool true) .leaf 0)) (K (.bool false) .leaf 0)) (K (.bool false) .leaf 0)) (K (.bool false) .leaf 0)) (K (.bool false) .leaf 0)) (K (.bool false) .leaf 0)))))))) true))) true))))))))) := by kernel_rfl
  refine Eq.trans e ?_
  clear e
  obtain ⟨hK0, hKr0⟩ := must_ok hK
  have hK1 := hKr0
  have t1 := tm10 p.n
  have t2 := tm10 (p.n.tmod 10 + 10)
  have t3 := tmp 10 (by decide) (p.n.tmod 10 + 10) (by omega)
  refine mustP (show (10 : Int) ≠ 0 from by decide) ?_
  refine mustP (show InR 0 ((Int.tmod p.n (10 : Int)) + (10 : Int)) from (by simp only [InR] ; omega)) ?_
  refine mustP (show (10 : Int) ≠ 0 from by decide) ?_
  refine mustP (show InR 0 ((395 : Int) + (Int.tmod ((Int.tmod p.n (10 : Int)) + (10 : Int)) (10 : Int))) from (by simp only [InR] ; omega)) ?_
  refine must_mk ?_ ?_
  ·
    refine must_mk ?_ ?_
    ·
      refine mustP (rfl) ?_
      refine exB_mk (⟨(395 : Int) + (Int.tmod ((Int.tmod p.n (10 : Int)) + (10 : Int)) (10 : Int)), p.c, (0 : Int), (0 : Int), (0 : Int), ([] : List Int), (0 : Int)⟩ : A_b0) ?_
      refine mustP (rfl) ?_
      refine mustP (show 395 ≤ ((395 : Int) + (Int.tmod ((Int.tmod p.n (10 : Int)) + (10 : Int)) (10 : Int))) ∧ ((395 : Int) + (Int.tmod ((Int.tmod p.n (10 : Int)) + (10 : Int)) (10 : Int))) ≤ 404 ∧ (([] : List Int).length : Int) = (0 : Int) ∧ (0 : Int) = (0 : Int) ∧ (0 : Int) = (0 : Int) ∧ 0 ≤ (0 : Int) ∧ (0 : Int) ≤ ((395 : Int) + (Int.tmod ((Int.tmod p.n (10 : Int)) + (10 : Int)) (10 : Int))) ∧ (0 : Int) = min (0 : Int) 400 from (by (first | omega | (simp only [List.length_append, List.length_cons, List.length_nil, limP] ; omega) | (simp ; done) | (simp ; omega)))) ?_
      refine allB_mk (fun r1 => ?_)
      refine ifP (fun (hi1 : 395 ≤ ((395 : Int) + (Int.tmod ((Int.tmod p.n (10 : Int)) + (10 : Int)) (10 : Int))) ∧ ((395 : Int) + (Int.tmod ((Int.tmod p.n (10 : Int)) + (10 : Int)) (10 : Int))) ≤ 404 ∧ (r1.l.length : Int) = r1.ok ∧ r1.com = r1.ok ∧ r1.cnt = r1.ok ∧ 0 ≤ ((395 : Int) + (Int.tmod ((Int.tmod p.n (10 : Int)) + (10 : Int)) (10 : Int))) ∧ ((395 : Int) + (Int.tmod ((Int.tmod p.n (10 : Int)) + (10 : Int)) (10 : Int))) ≤ ((395 : Int) + (Int.tmod ((Int.tmod p.n (10 : Int)) + (10 : Int)) (10 : Int))) ∧ r1.ok = min ((395 : Int) + (Int.tmod ((Int.tmod p.n (10 : Int)) + (10 : Int)) (10 : Int))) 400) => ?_) (fun _ => rfl)
      refine exB_mk (⟨((395 : Int) + (Int.tmod ((Int.tmod p.n (10 : Int)) + (10 : Int)) (10 : Int))), p.c, r1.ok, r1.com, r1.cnt, r1.l, ([] : List Int), (0 : Int)⟩ : A_b1) ?_
      refine mustP (rfl) ?_
      refine mustP (show 0 ≤ (0 : Int) ∧ (0 : Int) ≤ ((395 : Int) + (Int.tmod ((Int.tmod p.n (10 : Int)) + (10 : Int)) (10 : Int))) ∧ ((395 : Int) + (Int.tmod ((Int.tmod p.n (10 : Int)) + (10 : Int)) (10 : Int))) ≤ 404 ∧ (([] : List Int).length : Int) = (0 : Int) from (by (first | omega | (simp only [List.length_append, List.length_cons, List.length_nil, limP] ; omega) | (simp ; done) | (simp ; omega)))) ?_
      refine allB_mk (fun r2 => ?_)
      refine ifP (fun (hi2 : (r2.v.length : Int) = ((395 : Int) + (Int.tmod ((Int.tmod p.n (10 : Int)) + (10 : Int)) (10 : Int)))) => ?_) (fun _ => rfl)
      refine must_mk ?_ ?_
      ·
        refine must_mk ?_ ?_
        ·
          refine mustP (rfl) ?_
          refine ifP (fun (hc3 : (0 : Int) < (0 : Int)) => ?_) (fun (hc3 : ¬ ((0 : Int) < (0 : Int))) => ?_)
          ·
            refine ifP (fun (hc4 : r1.ok = (min ((395 : Int) + (Int.tmod ((Int.tmod p.n (10 : Int)) + (10 : Int)) (10 : Int))) (400 : Int))) => ?_) (fun (hc4 : ¬ (r1.ok = (min ((395 : Int) + (Int.tmod ((Int.tmod p.n (10 : Int)) + (10 : Int)) (10 : Int))) (400 : Int)))) => ?_)
            ·
              refine ifP (fun (hc5 : r1.com = r1.ok) => ?_) (fun (hc5 : ¬ (r1.com = r1.ok)) => ?_)
              ·
                refine ifP (fun (hc6 : ((395 : Int) + (Int.tmod ((Int.tmod p.n (10 : Int)) + (10 : Int)) (10 : Int))) ≤ (400 : Int)) => ?_) (fun (hc6 : ¬ (((395 : Int) + (Int.tmod ((Int.tmod p.n (10 : Int)) + (10 : Int)) (10 : Int))) ≤ (400 : Int))) => ?_)
                ·
                  first | (exfalso ; omega) | (exfalso ; simp_all ; done) | (exfalso ; simp_all ; omega)
                ·
                  refine ifP (fun (hc7 : (0 : Int) = (0 : Int)) => ?_) (fun (hc7 : ¬ ((0 : Int) = (0 : Int))) => ?_)
                  ·
                    refine exB_mk ⟨⟩ ?_
                    refine mustP (rfl) ?_
                    exact hK0
                  ·
                    first | (exfalso ; omega) | (exfalso ; simp_all ; done) | (exfalso ; simp_all ; omega)
              ·
                first | (exfalso ; omega) | (exfalso ; simp_all ; done) | (exfalso ; simp_all ; omega)
            ·
              first | (exfalso ; omega) | (exfalso ; simp_all ; done) | (exfalso ; simp_all ; omega)
          ·
            refine ifP (fun (hc8 : (400 : Int) < (r2.v.length : Int)) => ?_) (fun (hc8 : ¬ ((400 : Int) < (r2.v.length : Int))) => ?_)
            ·
              refine ifP (fun (hc9 : r1.ok = (min ((395 : Int) + (Int.tmod ((Int.tmod p.n (10 : Int)) + (10 : Int)) (10 : Int))) (400 : Int))) => ?_) (fun (hc9 : ¬ (r1.ok = (min ((395 : Int) + (Int.tmod ((Int.tmod p.n (10 : Int)) + (10 : Int)) (10 : Int))) (400 : Int)))) => ?_)
              ·
                refine ifP (fun (hc10 : r1.com = r1.ok) => ?_) (fun (hc10 : ¬ (r1.com = r1.ok)) => ?_)
                ·
                  refine ifP (fun (hc11 : ((395 : Int) + (Int.tmod ((Int.tmod p.n (10 : Int)) + (10 : Int)) (10 : Int))) ≤ (400 : Int)) => ?_) (fun (hc11 : ¬ (((395 : Int) + (Int.tmod ((Int.tmod p.n (10 : Int)) + (10 : Int)) (10 : Int))) ≤ (400 : Int))) => ?_)
                  ·
                    first | (exfalso ; omega) | (exfalso ; simp_all ; done) | (exfalso ; simp_all ; omega)
                  ·
                    refine ifP (fun (hc12 : (0 : Int) = (0 : Int)) => ?_) (fun (hc12 : ¬ ((0 : Int) = (0 : Int))) => ?_)
                    ·
                      refine exB_mk ⟨⟩ ?_
                      refine mustP (rfl) ?_
                      exact hK0
                    ·
                      first | (exfalso ; omega) | (exfalso ; simp_all ; done) | (exfalso ; simp_all ; omega)
                ·
                  first | (exfalso ; omega) | (exfalso ; simp_all ; done) | (exfalso ; simp_all ; omega)
              ·
                first | (exfalso ; omega) | (exfalso ; simp_all ; done) | (exfalso ; simp_all ; omega)
            ·
              refine mustP (show InR 0 ((0 : Int) - (0 : Int)) from (by simp only [InR] ; omega)) ?_
              refine ifP (fun (hc13 : ((0 : Int) - (0 : Int)) < (r2.v.length : Int)) => ?_) (fun (hc13 : ¬ (((0 : Int) - (0 : Int)) < (r2.v.length : Int))) => ?_)
              ·
                refine mustP (show r2.v.length = r2.v.length ∧ 0 ≤ ((0 : Int) - (0 : Int)) ∧ ((0 : Int) - (0 : Int)) ≤ (r2.v.length : Int) ∧ (r2.v.length : Int) ≤ (r2.v.length : Int) from (by (first | omega | (simp only [List.length_append, List.length_cons, List.length_nil, limP] ; omega) | (simp ; done) | (simp ; omega)))) ?_
                refine exB_mk (⟨r2.v, ((0 : Int) - (0 : Int)).toNat, r2.v.length - (((0 : Int) - (0 : Int)).toNat)⟩ : A_clones_psub) ?_
                refine mustP (rfl) ?_
                refine mustP (show (((0 : Int) - (0 : Int)).toNat) + (r2.v.length - (((0 : Int) - (0 : Int)).toNat)) ≤ r2.v.length ∧ (r2.v.length - (((0 : Int) - (0 : Int)).toNat)) ≤ 1000000 from by omega) ?_
                refine allB_mk (fun r3 => ?_)
                refine ifP (fun (hi14 : r3.o = (r2.v.drop (((0 : Int) - (0 : Int)).toNat)).take (r2.v.length - (((0 : Int) - (0 : Int)).toNat)) ∧ r3.o.length = (r2.v.length - (((0 : Int) - (0 : Int)).toNat))) => ?_) (fun _ => rfl)
                refine mustP (rfl) ?_
                refine mustP (show r3.o.length = r3.o.length from (by (first | omega | (simp only [List.length_append, List.length_cons, List.length_nil, limP] ; omega) | (simp ; done) | (simp ; omega)))) ?_
                refine mustP (rfl) ?_
                refine ifP (fun (hc15 : r3.o = []) => ?_) (fun (hc15 : ¬ (r3.o = [])) => ?_)
                ·
                  have hc15l : (r3.o).length = 0 := (by rw [hc15] ; rfl)
                  refine ifP (fun (hc16 : r1.ok = (min ((395 : Int) + (Int.tmod ((Int.tmod p.n (10 : Int)) + (10 : Int)) (10 : Int))) (400 : Int))) => ?_) (fun (hc16 : ¬ (r1.ok = (min ((395 : Int) + (Int.tmod ((Int.tmod p.n (10 : Int)) + (10 : Int)) (10 : Int))) (400 : Int)))) => ?_)
                  ·
                    refine ifP (fun (hc17 : r1.com = r1.ok) => ?_) (fun (hc17 : ¬ (r1.com = r1.ok)) => ?_)
                    ·
                      refine ifP (fun (hc18 : ((395 : Int) + (Int.tmod ((Int.tmod p.n (10 : Int)) + (10 : Int)) (10 : Int))) ≤ (400 : Int)) => ?_) (fun (hc18 : ¬ (((395 : Int) + (Int.tmod ((Int.tmod p.n (10 : Int)) + (10 : Int)) (10 : Int))) ≤ (400 : Int))) => ?_)
                      ·
                        refine ifP (fun (hc19 : (0 : Int) = ((395 : Int) + (Int.tmod ((Int.tmod p.n (10 : Int)) + (10 : Int)) (10 : Int)))) => ?_) (fun (hc19 : ¬ ((0 : Int) = ((395 : Int) + (Int.tmod ((Int.tmod p.n (10 : Int)) + (10 : Int)) (10 : Int))))) => ?_)
                        ·
                          refine ifP (fun (hc20 : (max (0 : Int) (min p.c (0 : Int))) = (max (0 : Int) (min ((395 : Int) + (Int.tmod ((Int.tmod p.n (10 : Int)) + (10 : Int)) (10 : Int))) p.c))) => ?_) (fun (hc20 : ¬ ((max (0 : Int) (min p.c (0 : Int))) = (max (0 : Int) (min ((395 : Int) + (Int.tmod ((Int.tmod p.n (10 : Int)) + (10 : Int)) (10 : Int))) p.c)))) => ?_)
                          ·
                            refine exB_mk ⟨⟩ ?_
                            refine mustP (rfl) ?_
                            exact hK0
                          ·
                            first | (exfalso ; omega) | (exfalso ; simp_all ; done) | (exfalso ; simp_all ; omega)
                        ·
                          first | (exfalso ; omega) | (exfalso ; simp_all ; done) | (exfalso ; simp_all ; omega)
                      ·
                        first | (exfalso ; omega) | (exfalso ; simp_all ; done) | (exfalso ; simp_all ; omega)
                    ·
                      first | (exfalso ; omega) | (exfalso ; simp_all ; done) | (exfalso ; simp_all ; omega)
                  ·
                    first | (exfalso ; omega) | (exfalso ; simp_all ; done) | (exfalso ; simp_all ; omega)
                ·
                  have hc15l : 0 < (r3.o).length := List.length_pos_iff.2 hc15
                  refine exB_mk r3.o ?_
                  refine mustP (rfl) ?_
                  refine mustP (show limP 104 (([] : List Int).length + r3.o.length) from (by (first | omega | (simp only [List.length_append, List.length_cons, List.length_nil, limP] ; omega) | (simp ; done) | (simp ; omega)))) ?_
                  refine ifP (fun (hc21 : r1.ok = (min ((395 : Int) + (Int.tmod ((Int.tmod p.n (10 : Int)) + (10 : Int)) (10 : Int))) (400 : Int))) => ?_) (fun (hc21 : ¬ (r1.ok = (min ((395 : Int) + (Int.tmod ((Int.tmod p.n (10 : Int)) + (10 : Int)) (10 : Int))) (400 : Int)))) => ?_)
                  ·
                    refine ifP (fun (hc22 : r1.com = r1.ok) => ?_) (fun (hc22 : ¬ (r1.com = r1.ok)) => ?_)
                    ·
                      refine ifP (fun (hc23 : ((395 : Int) + (Int.tmod ((Int.tmod p.n (10 : Int)) + (10 : Int)) (10 : Int))) ≤ (400 : Int)) => ?_) (fun (hc23 : ¬ (((395 : Int) + (Int.tmod ((Int.tmod p.n (10 : Int)) + (10 : Int)) (10 : Int))) ≤ (400 : Int))) => ?_)
                      ·
                        refine ifP (fun (hc24 : ((([] : List Int) ++ r3.o).length : Int) = ((395 : Int) + (Int.tmod ((Int.tmod p.n (10 : Int)) + (10 : Int)) (10 : Int)))) => ?_) (fun (hc24 : ¬ (((([] : List Int) ++ r3.o).length : Int) = ((395 : Int) + (Int.tmod ((Int.tmod p.n (10 : Int)) + (10 : Int)) (10 : Int))))) => ?_)
                        ·
                          refine ifP (fun (hc25 : (max (0 : Int) (min p.c ((([] : List Int) ++ r3.o).length : Int))) = (max (0 : Int) (min ((395 : Int) + (Int.tmod ((Int.tmod p.n (10 : Int)) + (10 : Int)) (10 : Int))) p.c))) => ?_) (fun (hc25 : ¬ ((max (0 : Int) (min p.c ((([] : List Int) ++ r3.o).length : Int))) = (max (0 : Int) (min ((395 : Int) + (Int.tmod ((Int.tmod p.n (10 : Int)) + (10 : Int)) (10 : Int))) p.c)))) => ?_)
                          ·
                            refine exB_mk ⟨⟩ ?_
                            refine mustP (rfl) ?_
                            exact hK0
                          ·
                            first | (exfalso ; omega) | (exfalso ; simp_all ; done) | (exfalso ; simp_all ; omega)
                        ·
                          first | (exfalso ; omega) | (exfalso ; simp_all ; done) | (exfalso ; simp_all ; omega)
                      ·
                        first | (exfalso ; omega) | (exfalso ; simp_all ; done) | (exfalso ; simp_all ; omega)
                    ·
                      first | (exfalso ; omega) | (exfalso ; simp_all ; done) | (exfalso ; simp_all ; omega)
                  ·
                    first | (exfalso ; omega) | (exfalso ; simp_all ; done) | (exfalso ; simp_all ; omega)
              ·
                refine ifP (fun (hc26 : r1.ok = (min ((395 : Int) + (Int.tmod ((Int.tmod p.n (10 : Int)) + (10 : Int)) (10 : Int))) (400 : Int))) => ?_) (fun (hc26 : ¬ (r1.ok = (min ((395 : Int) + (Int.tmod ((Int.tmod p.n (10 : Int)) + (10 : Int)) (10 : Int))) (400 : Int)))) => ?_)
                ·
                  refine ifP (fun (hc27 : r1.com = r1.ok) => ?_) (fun (hc27 : ¬ (r1.com = r1.ok)) => ?_)
                  ·
                    refine ifP (fun (hc28 : ((395 : Int) + (Int.tmod ((Int.tmod p.n (10 : Int)) + (10 : Int)) (10 : Int))) ≤ (400 : Int)) => ?_) (fun (hc28 : ¬ (((395 : Int) + (Int.tmod ((Int.tmod p.n (10 : Int)) + (10 : Int)) (10 : Int))) ≤ (400 : Int))) => ?_)
                    ·
                      refine ifP (fun (hc29 : (0 : Int) = ((395 : Int) + (Int.tmod ((Int.tmod p.n (10 : Int)) + (10 : Int)) (10 : Int)))) => ?_) (fun (hc29 : ¬ ((0 : Int) = ((395 : Int) + (Int.tmod ((Int.tmod p.n (10 : Int)) + (10 : Int)) (10 : Int))))) => ?_)
                      ·
                        refine ifP (fun (hc30 : (max (0 : Int) (min p.c (0 : Int))) = (max (0 : Int) (min ((395 : Int) + (Int.tmod ((Int.tmod p.n (10 : Int)) + (10 : Int)) (10 : Int))) p.c))) => ?_) (fun (hc30 : ¬ ((max (0 : Int) (min p.c (0 : Int))) = (max (0 : Int) (min ((395 : Int) + (Int.tmod ((Int.tmod p.n (10 : Int)) + (10 : Int)) (10 : Int))) p.c)))) => ?_)
                        ·
                          refine exB_mk ⟨⟩ ?_
                          refine mustP (rfl) ?_
                          exact hK0
                        ·
                          first | (exfalso ; omega) | (exfalso ; simp_all ; done) | (exfalso ; simp_all ; omega)
                      ·
                        first | (exfalso ; omega) | (exfalso ; simp_all ; done) | (exfalso ; simp_all ; omega)
                    ·
                      first | (exfalso ; omega) | (exfalso ; simp_all ; done) | (exfalso ; simp_all ; omega)
                  ·
                    first | (exfalso ; omega) | (exfalso ; simp_all ; done) | (exfalso ; simp_all ; omega)
                ·
                  first | (exfalso ; omega) | (exfalso ; simp_all ; done) | (exfalso ; simp_all ; omega)
        ·
          refine mustP (rfl) ?_
          refine ifP (fun (hc31 : (0 : Int) < (0 : Int)) => ?_) (fun (hc31 : ¬ ((0 : Int) < (0 : Int))) => ?_)
          ·
            refine ifP (fun (hc32 : r1.ok = (min ((395 : Int) + (Int.tmod ((Int.tmod p.n (10 : Int)) + (10 : Int)) (10 : Int))) (400 : Int))) => ?_) (fun (hc32 : ¬ (r1.ok = (min ((395 : Int) + (Int.tmod ((Int.tmod p.n (10 : Int)) + (10 : Int)) (10 : Int))) (400 : Int)))) => ?_)
            ·
              refine ifP (fun (hc33 : r1.com = r1.ok) => ?_) (fun (hc33 : ¬ (r1.com = r1.ok)) => ?_)
              ·
                refine ifP (fun (hc34 : ((395 : Int) + (Int.tmod ((Int.tmod p.n (10 : Int)) + (10 : Int)) (10 : Int))) ≤ (400 : Int)) => ?_) (fun (hc34 : ¬ (((395 : Int) + (Int.tmod ((Int.tmod p.n (10 : Int)) + (10 : Int)) (10 : Int))) ≤ (400 : Int))) => ?_)
                ·
                  first | (exfalso ; omega) | (exfalso ; simp_all ; done) | (exfalso ; simp_all ; omega)
                ·
                  refine ifP (fun (hc35 : (0 : Int) = (0 : Int)) => ?_) (fun (hc35 : ¬ ((0 : Int) = (0 : Int))) => ?_)
                  ·
                    refine exB_mk ⟨⟩ ?_
                    refine mustP (rfl) ?_
                    exact hK0
                  ·
                    first | (exfalso ; omega) | (exfalso ; simp_all ; done) | (exfalso ; simp_all ; omega)
              ·
                first | (exfalso ; omega) | (exfalso ; simp_all ; done) | (exfalso ; simp_all ; omega)
            ·
              first | (exfalso ; omega) | (exfalso ; simp_all ; done) | (exfalso ; simp_all ; omega)
          ·
            refine ifP (fun (hc36 : (400 : Int) < (r2.v.length : Int)) => ?_) (fun (hc36 : ¬ ((400 : Int) < (r2.v.length : Int))) => ?_)
            ·
              refine ifP (fun (hc37 : r1.ok = (min ((395 : Int) + (Int.tmod ((Int.tmod p.n (10 : Int)) + (10 : Int)) (10 : Int))) (400 : Int))) => ?_) (fun (hc37 : ¬ (r1.ok = (min ((395 : Int) + (Int.tmod ((Int.tmod p.n (10 : Int)) + (10 : Int)) (10 : Int))) (400 : Int)))) => ?_)
              ·
                refine ifP (fun (hc38 : r1.com = r1.ok) => ?_) (fun (hc38 : ¬ (r1.com = r1.ok)) => ?_)
                ·
                  refine ifP (fun (hc39 : ((395 : Int) + (Int.tmod ((Int.tmod p.n (10 : Int)) + (10 : Int)) (10 : Int))) ≤ (400 : Int)) => ?_) (fun (hc39 : ¬ (((395 : Int) + (Int.tmod ((Int.tmod p.n (10 : Int)) + (10 : Int)) (10 : Int))) ≤ (400 : Int))) => ?_)
                  ·
                    first | (exfalso ; omega) | (exfalso ; simp_all ; done) | (exfalso ; simp_all ; omega)
                  ·
                    refine ifP (fun (hc40 : (0 : Int) = (0 : Int)) => ?_) (fun (hc40 : ¬ ((0 : Int) = (0 : Int))) => ?_)
                    ·
                      refine exB_mk ⟨⟩ ?_
                      refine mustP (rfl) ?_
                      exact hK0
                    ·
                      first | (exfalso ; omega) | (exfalso ; simp_all ; done) | (exfalso ; simp_all ; omega)
                ·
                  first | (exfalso ; omega) | (exfalso ; simp_all ; done) | (exfalso ; simp_all ; omega)
              ·
                first | (exfalso ; omega) | (exfalso ; simp_all ; done) | (exfalso ; simp_all ; omega)
            ·
              refine mustP (show InR 0 ((0 : Int) - (0 : Int)) from (by simp only [InR] ; omega)) ?_
              refine ifP (fun (hc41 : ((0 : Int) - (0 : Int)) < (r2.v.length : Int)) => ?_) (fun (hc41 : ¬ (((0 : Int) - (0 : Int)) < (r2.v.length : Int))) => ?_)
              ·
                refine mustP (show r2.v.length = r2.v.length ∧ 0 ≤ ((0 : Int) - (0 : Int)) ∧ ((0 : Int) - (0 : Int)) ≤ (r2.v.length : Int) ∧ (r2.v.length : Int) ≤ (r2.v.length : Int) from (by (first | omega | (simp only [List.length_append, List.length_cons, List.length_nil, limP] ; omega) | (simp ; done) | (simp ; omega)))) ?_
                refine exB_mk (⟨r2.v, ((0 : Int) - (0 : Int)).toNat, r2.v.length - (((0 : Int) - (0 : Int)).toNat)⟩ : A_clones_psub) ?_
                refine mustP (rfl) ?_
                refine mustP (show (((0 : Int) - (0 : Int)).toNat) + (r2.v.length - (((0 : Int) - (0 : Int)).toNat)) ≤ r2.v.length ∧ (r2.v.length - (((0 : Int) - (0 : Int)).toNat)) ≤ 1000000 from by omega) ?_
                refine allB_mk (fun r4 => ?_)
                refine ifP (fun (hi42 : r4.o = (r2.v.drop (((0 : Int) - (0 : Int)).toNat)).take (r2.v.length - (((0 : Int) - (0 : Int)).toNat)) ∧ r4.o.length = (r2.v.length - (((0 : Int) - (0 : Int)).toNat))) => ?_) (fun _ => rfl)
                refine mustP (rfl) ?_
                refine mustP (show r4.o.length = r4.o.length from (by (first | omega | (simp only [List.length_append, List.length_cons, List.length_nil, limP] ; omega) | (simp ; done) | (simp ; omega)))) ?_
                refine mustP (rfl) ?_
                refine ifP (fun (hc43 : r4.o = []) => ?_) (fun (hc43 : ¬ (r4.o = [])) => ?_)
                ·
                  have hc43l : (r4.o).length = 0 := (by rw [hc43] ; rfl)
                  refine ifP (fun (hc44 : r1.ok = (min ((395 : Int) + (Int.tmod ((Int.tmod p.n (10 : Int)) + (10 : Int)) (10 : Int))) (400 : Int))) => ?_) (fun (hc44 : ¬ (r1.ok = (min ((395 : Int) + (Int.tmod ((Int.tmod p.n (10 : Int)) + (10 : Int)) (10 : Int))) (400 : Int)))) => ?_)
                  ·
                    refine ifP (fun (hc45 : r1.com = r1.ok) => ?_) (fun (hc45 : ¬ (r1.com = r1.ok)) => ?_)
                    ·
                      refine ifP (fun (hc46 : ((395 : Int) + (Int.tmod ((Int.tmod p.n (10 : Int)) + (10 : Int)) (10 : Int))) ≤ (400 : Int)) => ?_) (fun (hc46 : ¬ (((395 : Int) + (Int.tmod ((Int.tmod p.n (10 : Int)) + (10 : Int)) (10 : Int))) ≤ (400 : Int))) => ?_)
                      ·
                        refine ifP (fun (hc47 : (0 : Int) = ((395 : Int) + (Int.tmod ((Int.tmod p.n (10 : Int)) + (10 : Int)) (10 : Int)))) => ?_) (fun (hc47 : ¬ ((0 : Int) = ((395 : Int) + (Int.tmod ((Int.tmod p.n (10 : Int)) + (10 : Int)) (10 : Int))))) => ?_)
                        ·
                          refine ifP (fun (hc48 : (max (0 : Int) (min p.c (0 : Int))) = (max (0 : Int) (min ((395 : Int) + (Int.tmod ((Int.tmod p.n (10 : Int)) + (10 : Int)) (10 : Int))) p.c))) => ?_) (fun (hc48 : ¬ ((max (0 : Int) (min p.c (0 : Int))) = (max (0 : Int) (min ((395 : Int) + (Int.tmod ((Int.tmod p.n (10 : Int)) + (10 : Int)) (10 : Int))) p.c)))) => ?_)
                          ·
                            refine exB_mk ⟨⟩ ?_
                            refine mustP (rfl) ?_
                            exact hK0
                          ·
                            first | (exfalso ; omega) | (exfalso ; simp_all ; done) | (exfalso ; simp_all ; omega)
                        ·
                          first | (exfalso ; omega) | (exfalso ; simp_all ; done) | (exfalso ; simp_all ; omega)
                      ·
                        first | (exfalso ; omega) | (exfalso ; simp_all ; done) | (exfalso ; simp_all ; omega)
                    ·
                      first | (exfalso ; omega) | (exfalso ; simp_all ; done) | (exfalso ; simp_all ; omega)
                  ·
                    first | (exfalso ; omega) | (exfalso ; simp_all ; done) | (exfalso ; simp_all ; omega)
                ·
                  have hc43l : 0 < (r4.o).length := List.length_pos_iff.2 hc43
                  refine exB_mk r4.o ?_
                  refine mustP (rfl) ?_
                  refine mustP (show limP 104 (([] : List Int).length + r4.o.length) from (by (first | omega | (simp only [List.length_append, List.length_cons, List.length_nil, limP] ; omega) | (simp ; done) | (simp ; omega)))) ?_
                  refine ifP (fun (hc49 : r1.ok = (min ((395 : Int) + (Int.tmod ((Int.tmod p.n (10 : Int)) + (10 : Int)) (10 : Int))) (400 : Int))) => ?_) (fun (hc49 : ¬ (r1.ok = (min ((395 : Int) + (Int.tmod ((Int.tmod p.n (10 : Int)) + (10 : Int)) (10 : Int))) (400 : Int)))) => ?_)
                  ·
                    refine ifP (fun (hc50 : r1.com = r1.ok) => ?_) (fun (hc50 : ¬ (r1.com = r1.ok)) => ?_)
                    ·
                      refine ifP (fun (hc51 : ((395 : Int) + (Int.tmod ((Int.tmod p.n (10 : Int)) + (10 : Int)) (10 : Int))) ≤ (400 : Int)) => ?_) (fun (hc51 : ¬ (((395 : Int) + (Int.tmod ((Int.tmod p.n (10 : Int)) + (10 : Int)) (10 : Int))) ≤ (400 : Int))) => ?_)
                      ·
                        refine ifP (fun (hc52 : ((([] : List Int) ++ r4.o).length : Int) = ((395 : Int) + (Int.tmod ((Int.tmod p.n (10 : Int)) + (10 : Int)) (10 : Int)))) => ?_) (fun (hc52 : ¬ (((([] : List Int) ++ r4.o).length : Int) = ((395 : Int) + (Int.tmod ((Int.tmod p.n (10 : Int)) + (10 : Int)) (10 : Int))))) => ?_)
                        ·
                          refine ifP (fun (hc53 : (max (0 : Int) (min p.c ((([] : List Int) ++ r4.o).length : Int))) = (max (0 : Int) (min ((395 : Int) + (Int.tmod ((Int.tmod p.n (10 : Int)) + (10 : Int)) (10 : Int))) p.c))) => ?_) (fun (hc53 : ¬ ((max (0 : Int) (min p.c ((([] : List Int) ++ r4.o).length : Int))) = (max (0 : Int) (min ((395 : Int) + (Int.tmod ((Int.tmod p.n (10 : Int)) + (10 : Int)) (10 : Int))) p.c)))) => ?_)
                          ·
                            refine exB_mk ⟨⟩ ?_
                            refine mustP (rfl) ?_
                            exact hK0
                          ·
                            first | (exfalso ; omega) | (exfalso ; simp_all ; done) | (exfalso ; simp_all ; omega)
                        ·
                          first | (exfalso ; omega) | (exfalso ; simp_all ; done) | (exfalso ; simp_all ; omega)
                      ·
                        first | (exfalso ; omega) | (exfalso ; simp_all ; done) | (exfalso ; simp_all ; omega)
                    ·
                      first | (exfalso ; omega) | (exfalso ; simp_all ; done) | (exfalso ; simp_all ; omega)
                  ·
                    first | (exfalso ; omega) | (exfalso ; simp_all ; done) | (exfalso ; simp_all ; omega)
              ·
                refine ifP (fun (hc54 : r1.ok = (min ((395 : Int) + (Int.tmod ((Int.tmod p.n (10 : Int)) + (10 : Int)) (10 : Int))) (400 : Int))) => ?_) (fun (hc54 : ¬ (r1.ok = (min ((395 : Int) + (Int.tmod ((Int.tmod p.n (10 : Int)) + (10 : Int)) (10 : Int))) (400 : Int)))) => ?_)
                ·
                  refine ifP (fun (hc55 : r1.com = r1.ok) => ?_) (fun (hc55 : ¬ (r1.com = r1.ok)) => ?_)
                  ·
                    refine ifP (fun (hc56 : ((395 : Int) + (Int.tmod ((Int.tmod p.n (10 : Int)) + (10 : Int)) (10 : Int))) ≤ (400 : Int)) => ?_) (fun (hc56 : ¬ (((395 : Int) + (Int.tmod ((Int.tmod p.n (10 : Int)) + (10 : Int)) (10 : Int))) ≤ (400 : Int))) => ?_)
                    ·
                      refine ifP (fun (hc57 : (0 : Int) = ((395 : Int) + (Int.tmod ((Int.tmod p.n (10 : Int)) + (10 : Int)) (10 : Int)))) => ?_) (fun (hc57 : ¬ ((0 : Int) = ((395 : Int) + (Int.tmod ((Int.tmod p.n (10 : Int)) + (10 : Int)) (10 : Int))))) => ?_)
                      ·
                        refine ifP (fun (hc58 : (max (0 : Int) (min p.c (0 : Int))) = (max (0 : Int) (min ((395 : Int) + (Int.tmod ((Int.tmod p.n (10 : Int)) + (10 : Int)) (10 : Int))) p.c))) => ?_) (fun (hc58 : ¬ ((max (0 : Int) (min p.c (0 : Int))) = (max (0 : Int) (min ((395 : Int) + (Int.tmod ((Int.tmod p.n (10 : Int)) + (10 : Int)) (10 : Int))) p.c)))) => ?_)
                        ·
                          refine exB_mk ⟨⟩ ?_
                          refine mustP (rfl) ?_
                          exact hK0
                        ·
                          first | (exfalso ; omega) | (exfalso ; simp_all ; done) | (exfalso ; simp_all ; omega)
                      ·
                        first | (exfalso ; omega) | (exfalso ; simp_all ; done) | (exfalso ; simp_all ; omega)
                    ·
                      first | (exfalso ; omega) | (exfalso ; simp_all ; done) | (exfalso ; simp_all ; omega)
                  ·
                    first | (exfalso ; omega) | (exfalso ; simp_all ; done) | (exfalso ; simp_all ; omega)
                ·
                  first | (exfalso ; omega) | (exfalso ; simp_all ; done) | (exfalso ; simp_all ; omega)
      ·
        refine mustP (rfl) ?_
        refine ifP (fun (hc59 : (0 : Int) < (0 : Int)) => ?_) (fun (hc59 : ¬ ((0 : Int) < (0 : Int))) => ?_)
        ·
          refine ifP (fun (hc60 : r1.ok = (min ((395 : Int) + (Int.tmod ((Int.tmod p.n (10 : Int)) + (10 : Int)) (10 : Int))) (400 : Int))) => ?_) (fun (hc60 : ¬ (r1.ok = (min ((395 : Int) + (Int.tmod ((Int.tmod p.n (10 : Int)) + (10 : Int)) (10 : Int))) (400 : Int)))) => ?_)
          ·
            refine ifP (fun (hc61 : r1.com = r1.ok) => ?_) (fun (hc61 : ¬ (r1.com = r1.ok)) => ?_)
            ·
              refine ifP (fun (hc62 : ((395 : Int) + (Int.tmod ((Int.tmod p.n (10 : Int)) + (10 : Int)) (10 : Int))) ≤ (400 : Int)) => ?_) (fun (hc62 : ¬ (((395 : Int) + (Int.tmod ((Int.tmod p.n (10 : Int)) + (10 : Int)) (10 : Int))) ≤ (400 : Int))) => ?_)
              ·
                first | (exfalso ; omega) | (exfalso ; simp_all ; done) | (exfalso ; simp_all ; omega)
              ·
                refine ifP (fun (hc63 : (0 : Int) = (0 : Int)) => ?_) (fun (hc63 : ¬ ((0 : Int) = (0 : Int))) => ?_)
                ·
                  refine exB_mk ⟨⟩ ?_
                  refine mustP (rfl) ?_
                  exact hK0
                ·
                  first | (exfalso ; omega) | (exfalso ; simp_all ; done) | (exfalso ; simp_all ; omega)
            ·
              first | (exfalso ; omega) | (exfalso ; simp_all ; done) | (exfalso ; simp_all ; omega)
          ·
            first | (exfalso ; omega) | (exfalso ; simp_all ; done) | (exfalso ; simp_all ; omega)
        ·
          refine ifP (fun (hc64 : (400 : Int) < (r2.v.length : Int)) => ?_) (fun (hc64 : ¬ ((400 : Int) < (r2.v.length : Int))) => ?_)
          ·
            refine ifP (fun (hc65 : r1.ok = (min ((395 : Int) + (Int.tmod ((Int.tmod p.n (10 : Int)) + (10 : Int)) (10 : Int))) (400 : Int))) => ?_) (fun (hc65 : ¬ (r1.ok = (min ((395 : Int) + (Int.tmod ((Int.tmod p.n (10 : Int)) + (10 : Int)) (10 : Int))) (400 : Int)))) => ?_)
            ·
              refine ifP (fun (hc66 : r1.com = r1.ok) => ?_) (fun (hc66 : ¬ (r1.com = r1.ok)) => ?_)
              ·
                refine ifP (fun (hc67 : ((395 : Int) + (Int.tmod ((Int.tmod p.n (10 : Int)) + (10 : Int)) (10 : Int))) ≤ (400 : Int)) => ?_) (fun (hc67 : ¬ (((395 : Int) + (Int.tmod ((Int.tmod p.n (10 : Int)) + (10 : Int)) (10 : Int))) ≤ (400 : Int))) => ?_)
                ·
                  first | (exfalso ; omega) | (exfalso ; simp_all ; done) | (exfalso ; simp_all ; omega)
                ·
                  refine ifP (fun (hc68 : (0 : Int) = (0 : Int)) => ?_) (fun (hc68 : ¬ ((0 : Int) = (0 : Int))) => ?_)
                  ·
                    refine exB_mk ⟨⟩ ?_
                    refine mustP (rfl) ?_
                    exact hK0
                  ·
                    first | (exfalso ; omega) | (exfalso ; simp_all ; done) | (exfalso ; simp_all ; omega)
              ·
                first | (exfalso ; omega) | (exfalso ; simp_all ; done) | (exfalso ; simp_all ; omega)
            ·
              first | (exfalso ; omega) | (exfalso ; simp_all ; done) | (exfalso ; simp_all ; omega)
          ·
            refine mustP (show InR 0 ((0 : Int) - (0 : Int)) from (by simp only [InR] ; omega)) ?_
            refine ifP (fun (hc69 : ((0 : Int) - (0 : Int)) < (r2.v.length : Int)) => ?_) (fun (hc69 : ¬ (((0 : Int) - (0 : Int)) < (r2.v.length : Int))) => ?_)
            ·
              refine mustP (show r2.v.length = r2.v.length ∧ 0 ≤ ((0 : Int) - (0 : Int)) ∧ ((0 : Int) - (0 : Int)) ≤ (r2.v.length : Int) ∧ (r2.v.length : Int) ≤ (r2.v.length : Int) from (by (first | omega | (simp only [List.length_append, List.length_cons, List.length_nil, limP] ; omega) | (simp ; done) | (simp ; omega)))) ?_
              refine exB_mk (⟨r2.v, ((0 : Int) - (0 : Int)).toNat, r2.v.length - (((0 : Int) - (0 : Int)).toNat)⟩ : A_clones_psub) ?_
              refine mustP (rfl) ?_
              refine mustP (show (((0 : Int) - (0 : Int)).toNat) + (r2.v.length - (((0 : Int) - (0 : Int)).toNat)) ≤ r2.v.length ∧ (r2.v.length - (((0 : Int) - (0 : Int)).toNat)) ≤ 1000000 from by omega) ?_
              refine allB_mk (fun r5 => ?_)
              refine ifP (fun (hi70 : r5.o = (r2.v.drop (((0 : Int) - (0 : Int)).toNat)).take (r2.v.length - (((0 : Int) - (0 : Int)).toNat)) ∧ r5.o.length = (r2.v.length - (((0 : Int) - (0 : Int)).toNat))) => ?_) (fun _ => rfl)
              refine mustP (rfl) ?_
              refine mustP (show r5.o.length = r5.o.length from (by (first | omega | (simp only [List.length_append, List.length_cons, List.length_nil, limP] ; omega) | (simp ; done) | (simp ; omega)))) ?_
              refine mustP (rfl) ?_
              refine ifP (fun (hc71 : r5.o = []) => ?_) (fun (hc71 : ¬ (r5.o = [])) => ?_)
              ·
                have hc71l : (r5.o).length = 0 := (by rw [hc71] ; rfl)
                refine ifP (fun (hc72 : r1.ok = (min ((395 : Int) + (Int.tmod ((Int.tmod p.n (10 : Int)) + (10 : Int)) (10 : Int))) (400 : Int))) => ?_) (fun (hc72 : ¬ (r1.ok = (min ((395 : Int) + (Int.tmod ((Int.tmod p.n (10 : Int)) + (10 : Int)) (10 : Int))) (400 : Int)))) => ?_)
                ·
                  refine ifP (fun (hc73 : r1.com = r1.ok) => ?_) (fun (hc73 : ¬ (r1.com = r1.ok)) => ?_)
                  ·
                    refine ifP (fun (hc74 : ((395 : Int) + (Int.tmod ((Int.tmod p.n (10 : Int)) + (10 : Int)) (10 : Int))) ≤ (400 : Int)) => ?_) (fun (hc74 : ¬ (((395 : Int) + (Int.tmod ((Int.tmod p.n (10 : Int)) + (10 : Int)) (10 : Int))) ≤ (400 : Int))) => ?_)
                    ·
                      refine ifP (fun (hc75 : (0 : Int) = ((395 : Int) + (Int.tmod ((Int.tmod p.n (10 : Int)) + (10 : Int)) (10 : Int)))) => ?_) (fun (hc75 : ¬ ((0 : Int) = ((395 : Int) + (Int.tmod ((Int.tmod p.n (10 : Int)) + (10 : Int)) (10 : Int))))) => ?_)
                      ·
                        refine ifP (fun (hc76 : (max (0 : Int) (min p.c (0 : Int))) = (max (0 : Int) (min ((395 : Int) + (Int.tmod ((Int.tmod p.n (10 : Int)) + (10 : Int)) (10 : Int))) p.c))) => ?_) (fun (hc76 : ¬ ((max (0 : Int) (min p.c (0 : Int))) = (max (0 : Int) (min ((395 : Int) + (Int.tmod ((Int.tmod p.n (10 : Int)) + (10 : Int)) (10 : Int))) p.c)))) => ?_)
                        ·
                          refine exB_mk ⟨⟩ ?_
                          refine mustP (rfl) ?_
                          exact hK0
                        ·
                          first | (exfalso ; omega) | (exfalso ; simp_all ; done) | (exfalso ; simp_all ; omega)
                      ·
                        first | (exfalso ; omega) | (exfalso ; simp_all ; done) | (exfalso ; simp_all ; omega)
                    ·
                      first | (exfalso ; omega) | (exfalso ; simp_all ; done) | (exfalso ; simp_all ; omega)
                  ·
                    first | (exfalso ; omega) | (exfalso ; simp_all ; done) | (exfalso ; simp_all ; omega)
                ·
                  first | (exfalso ; omega) | (exfalso ; simp_all ; done) | (exfalso ; simp_all ; omega)
              ·
                have hc71l : 0 < (r5.o).length := List.length_pos_iff.2 hc71
                refine exB_mk r5.o ?_
                refine mustP (rfl) ?_
                refine mustP (show limP 104 (([] : List Int).length + r5.o.length) from (by (first | omega | (simp only [List.length_append, List.length_cons, List.length_nil, limP] ; omega) | (simp ; done) | (simp ; omega)))) ?_
                refine ifP (fun (hc77 : r1.ok = (min ((395 : Int) + (Int.tmod ((Int.tmod p.n (10 : Int)) + (10 : Int)) (10 : Int))) (400 : Int))) => ?_) (fun (hc77 : ¬ (r1.ok = (min ((395 : Int) + (Int.tmod ((Int.tmod p.n (10 : Int)) + (10 : Int)) (10 : Int))) (400 : Int)))) => ?_)
                ·
                  refine ifP (fun (hc78 : r1.com = r1.ok) => ?_) (fun (hc78 : ¬ (r1.com = r1.ok)) => ?_)
                  ·
                    refine ifP (fun (hc79 : ((395 : Int) + (Int.tmod ((Int.tmod p.n (10 : Int)) + (10 : Int)) (10 : Int))) ≤ (400 : Int)) => ?_) (fun (hc79 : ¬ (((395 : Int) + (Int.tmod ((Int.tmod p.n (10 : Int)) + (10 : Int)) (10 : Int))) ≤ (400 : Int))) => ?_)
                    ·
                      refine ifP (fun (hc80 : ((([] : List Int) ++ r5.o).length : Int) = ((395 : Int) + (Int.tmod ((Int.tmod p.n (10 : Int)) + (10 : Int)) (10 : Int)))) => ?_) (fun (hc80 : ¬ (((([] : List Int) ++ r5.o).length : Int) = ((395 : Int) + (Int.tmod ((Int.tmod p.n (10 : Int)) + (10 : Int)) (10 : Int))))) => ?_)
                      ·
                        refine ifP (fun (hc81 : (max (0 : Int) (min p.c ((([] : List Int) ++ r5.o).length : Int))) = (max (0 : Int) (min ((395 : Int) + (Int.tmod ((Int.tmod p.n (10 : Int)) + (10 : Int)) (10 : Int))) p.c))) => ?_) (fun (hc81 : ¬ ((max (0 : Int) (min p.c ((([] : List Int) ++ r5.o).length : Int))) = (max (0 : Int) (min ((395 : Int) + (Int.tmod ((Int.tmod p.n (10 : Int)) + (10 : Int)) (10 : Int))) p.c)))) => ?_)
                        ·
                          refine exB_mk ⟨⟩ ?_
                          refine mustP (rfl) ?_
                          exact hK0
                        ·
                          first | (exfalso ; omega) | (exfalso ; simp_all ; done) | (exfalso ; simp_all ; omega)
                      ·
                        first | (exfalso ; omega) | (exfalso ; simp_all ; done) | (exfalso ; simp_all ; omega)
                    ·
                      first | (exfalso ; omega) | (exfalso ; simp_all ; done) | (exfalso ; simp_all ; omega)
                  ·
                    first | (exfalso ; omega) | (exfalso ; simp_all ; done) | (exfalso ; simp_all ; omega)
                ·
                  first | (exfalso ; omega) | (exfalso ; simp_all ; done) | (exfalso ; simp_all ; omega)
            ·
              refine ifP (fun (hc82 : r1.ok = (min ((395 : Int) + (Int.tmod ((Int.tmod p.n (10 : Int)) + (10 : Int)) (10 : Int))) (400 : Int))) => ?_) (fun (hc82 : ¬ (r1.ok = (min ((395 : Int) + (Int.tmod ((Int.tmod p.n (10 : Int)) + (10 : Int)) (10 : Int))) (400 : Int)))) => ?_)
              ·
                refine ifP (fun (hc83 : r1.com = r1.ok) => ?_) (fun (hc83 : ¬ (r1.com = r1.ok)) => ?_)
                ·
                  refine ifP (fun (hc84 : ((395 : Int) + (Int.tmod ((Int.tmod p.n (10 : Int)) + (10 : Int)) (10 : Int))) ≤ (400 : Int)) => ?_) (fun (hc84 : ¬ (((395 : Int) + (Int.tmod ((Int.tmod p.n (10 : Int)) + (10 : Int)) (10 : Int))) ≤ (400 : Int))) => ?_)
                  ·
                    refine ifP (fun (hc85 : (0 : Int) = ((395 : Int) + (Int.tmod ((Int.tmod p.n (10 : Int)) + (10 : Int)) (10 : Int)))) => ?_) (fun (hc85 : ¬ ((0 : Int) = ((395 : Int) + (Int.tmod ((Int.tmod p.n (10 : Int)) + (10 : Int)) (10 : Int))))) => ?_)
                    ·
                      refine ifP (fun (hc86 : (max (0 : Int) (min p.c (0 : Int))) = (max (0 : Int) (min ((395 : Int) + (Int.tmod ((Int.tmod p.n (10 : Int)) + (10 : Int)) (10 : Int))) p.c))) => ?_) (fun (hc86 : ¬ ((max (0 : Int) (min p.c (0 : Int))) = (max (0 : Int) (min ((395 : Int) + (Int.tmod ((Int.tmod p.n (10 : Int)) + (10 : Int)) (10 : Int))) p.c)))) => ?_)
                      ·
                        refine exB_mk ⟨⟩ ?_
                        refine mustP (rfl) ?_
                        exact hK0
                      ·
                        first | (exfalso ; omega) | (exfalso ; simp_all ; done) | (exfalso ; simp_all ; omega)
                    ·
                      first | (exfalso ; omega) | (exfalso ; simp_all ; done) | (exfalso ; simp_all ; omega)
                  ·
                    first | (exfalso ; omega) | (exfalso ; simp_all ; done) | (exfalso ; simp_all ; omega)
                ·
                  first | (exfalso ; omega) | (exfalso ; simp_all ; done) | (exfalso ; simp_all ; omega)
              ·
                first | (exfalso ; omega) | (exfalso ; simp_all ; done) | (exfalso ; simp_all ; omega)
    ·
      refine mustP (rfl) ?_
      refine exB_mk (⟨(395 : Int) + (Int.tmod ((Int.tmod p.n (10 : Int)) + (10 : Int)) (10 : Int)), p.c, (0 : Int), (0 : Int), (0 : Int), ([] : List Int), (0 : Int)⟩ : A_b0) ?_
      refine mustP (rfl) ?_
      refine mustP (show 395 ≤ ((395 : Int) + (Int.tmod ((Int.tmod p.n (10 : Int)) + (10 : Int)) (10 : Int))) ∧ ((395 : Int) + (Int.tmod ((Int.tmod p.n (10 : Int)) + (10 : Int)) (10 : Int))) ≤ 404 ∧ (([] : List Int).length : Int) = (0 : Int) ∧ (0 : Int) = (0 : Int) ∧ (0 : Int) = (0 : Int) ∧ 0 ≤ (0 : Int) ∧ (0 : Int) ≤ ((395 : Int) + (Int.tmod ((Int.tmod p.n (10 : Int)) + (10 : Int)) (10 : Int))) ∧ (0 : Int) = min (0 : Int) 400 from (by (first | omega | (simp only [List.length_append, List.length_cons, List.length_nil, limP] ; omega) | (simp ; done) | (simp ; omega)))) ?_
      refine allB_mk (fun r6 => ?_)
      refine ifP (fun (hi87 : 395 ≤ ((395 : Int) + (Int.tmod ((Int.tmod p.n (10 : Int)) + (10 : Int)) (10 : Int))) ∧ ((395 : Int) + (Int.tmod ((Int.tmod p.n (10 : Int)) + (10 : Int)) (10 : Int))) ≤ 404 ∧ (r6.l.length : Int) = r6.ok ∧ r6.com = r6.ok ∧ r6.cnt = r6.ok ∧ 0 ≤ ((395 : Int) + (Int.tmod ((Int.tmod p.n (10 : Int)) + (10 : Int)) (10 : Int))) ∧ ((395 : Int) + (Int.tmod ((Int.tmod p.n (10 : Int)) + (10 : Int)) (10 : Int))) ≤ ((395 : Int) + (Int.tmod ((Int.tmod p.n (10 : Int)) + (10 : Int)) (10 : Int))) ∧ r6.ok = min ((395 : Int) + (Int.tmod ((Int.tmod p.n (10 : Int)) + (10 : Int)) (10 : Int))) 400) => ?_) (fun _ => rfl)
      refine exB_mk (⟨((395 : Int) + (Int.tmod ((Int.tmod p.n (10 : Int)) + (10 : Int)) (10 : Int))), p.c, r6.ok, r6.com, r6.cnt, r6.l, ([] : List Int), (0 : Int)⟩ : A_b1) ?_
      refine mustP (rfl) ?_
      refine mustP (show 0 ≤ (0 : Int) ∧ (0 : Int) ≤ ((395 : Int) + (Int.tmod ((Int.tmod p.n (10 : Int)) + (10 : Int)) (10 : Int))) ∧ ((395 : Int) + (Int.tmod ((Int.tmod p.n (10 : Int)) + (10 : Int)) (10 : Int))) ≤ 404 ∧ (([] : List Int).length : Int) = (0 : Int) from (by (first | omega | (simp only [List.length_append, List.length_cons, List.length_nil, limP] ; omega) | (simp ; done) | (simp ; omega)))) ?_
      refine allB_mk (fun r7 => ?_)
      refine ifP (fun (hi88 : (r7.v.length : Int) = ((395 : Int) + (Int.tmod ((Int.tmod p.n (10 : Int)) + (10 : Int)) (10 : Int)))) => ?_) (fun _ => rfl)
      refine must_mk ?_ ?_
      ·
        refine must_mk ?_ ?_
        ·
          refine mustP (rfl) ?_
          refine ifP (fun (hc89 : (0 : Int) < (0 : Int)) => ?_) (fun (hc89 : ¬ ((0 : Int) < (0 : Int))) => ?_)
          ·
            refine ifP (fun (hc90 : r6.ok = (min ((395 : Int) + (Int.tmod ((Int.tmod p.n (10 : Int)) + (10 : Int)) (10 : Int))) (400 : Int))) => ?_) (fun (hc90 : ¬ (r6.ok = (min ((395 : Int) + (Int.tmod ((Int.tmod p.n (10 : Int)) + (10 : Int)) (10 : Int))) (400 : Int)))) => ?_)
            ·
              refine ifP (fun (hc91 : r6.com = r6.ok) => ?_) (fun (hc91 : ¬ (r6.com = r6.ok)) => ?_)
              ·
                refine ifP (fun (hc92 : ((395 : Int) + (Int.tmod ((Int.tmod p.n (10 : Int)) + (10 : Int)) (10 : Int))) ≤ (400 : Int)) => ?_) (fun (hc92 : ¬ (((395 : Int) + (Int.tmod ((Int.tmod p.n (10 : Int)) + (10 : Int)) (10 : Int))) ≤ (400 : Int))) => ?_)
                ·
                  first | (exfalso ; omega) | (exfalso ; simp_all ; done) | (exfalso ; simp_all ; omega)
                ·
                  refine ifP (fun (hc93 : (0 : Int) = (0 : Int)) => ?_) (fun (hc93 : ¬ ((0 : Int) = (0 : Int))) => ?_)
                  ·
                    refine exB_mk ⟨⟩ ?_
                    refine mustP (rfl) ?_
                    exact hK0
                  ·
                    first | (exfalso ; omega) | (exfalso ; simp_all ; done) | (exfalso ; simp_all ; omega)
              ·
                first | (exfalso ; omega) | (exfalso ; simp_all ; done) | (exfalso ; simp_all ; omega)
            ·
              first | (exfalso ; omega) | (exfalso ; simp_all ; done) | (exfalso ; simp_all ; omega)
          ·
            refine ifP (fun (hc94 : (400 : Int) < (r7.v.length : Int)) => ?_) (fun (hc94 : ¬ ((400 : Int) < (r7.v.length : Int))) => ?_)
            ·
              refine ifP (fun (hc95 : r6.ok = (min ((395 : Int) + (Int.tmod ((Int.tmod p.n (10 : Int)) + (10 : Int)) (10 : Int))) (400 : Int))) => ?_) (fun (hc95 : ¬ (r6.ok = (min ((395 : Int) + (Int.tmod ((Int.tmod p.n (10 : Int)) + (10 : Int)) (10 : Int))) (400 : Int)))) => ?_)
              ·
                refine ifP (fun (hc96 : r6.com = r6.ok) => ?_) (fun (hc96 : ¬ (r6.com = r6.ok)) => ?_)
                ·
                  refine ifP (fun (hc97 : ((395 : Int) + (Int.tmod ((Int.tmod p.n (10 : Int)) + (10 : Int)) (10 : Int))) ≤ (400 : Int)) => ?_) (fun (hc97 : ¬ (((395 : Int) + (Int.tmod ((Int.tmod p.n (10 : Int)) + (10 : Int)) (10 : Int))) ≤ (400 : Int))) => ?_)
                  ·
                    first | (exfalso ; omega) | (exfalso ; simp_all ; done) | (exfalso ; simp_all ; omega)
                  ·
                    refine ifP (fun (hc98 : (0 : Int) = (0 : Int)) => ?_) (fun (hc98 : ¬ ((0 : Int) = (0 : Int))) => ?_)
                    ·
                      refine exB_mk ⟨⟩ ?_
                      refine mustP (rfl) ?_
                      exact hK0
                    ·
                      first | (exfalso ; omega) | (exfalso ; simp_all ; done) | (exfalso ; simp_all ; omega)
                ·
                  first | (exfalso ; omega) | (exfalso ; simp_all ; done) | (exfalso ; simp_all ; omega)
              ·
                first | (exfalso ; omega) | (exfalso ; simp_all ; done) | (exfalso ; simp_all ; omega)
            ·
              refine mustP (show InR 0 ((0 : Int) - (0 : Int)) from (by simp only [InR] ; omega)) ?_
              refine ifP (fun (hc99 : ((0 : Int) - (0 : Int)) < (r7.v.length : Int)) => ?_) (fun (hc99 : ¬ (((0 : Int) - (0 : Int)) < (r7.v.length : Int))) => ?_)
              ·
                refine mustP (show r7.v.length = r7.v.length ∧ 0 ≤ ((0 : Int) - (0 : Int)) ∧ ((0 : Int) - (0 : Int)) ≤ (r7.v.length : Int) ∧ (r7.v.length : Int) ≤ (r7.v.length : Int) from (by (first | omega | (simp only [List.length_append, List.length_cons, List.length_nil, limP] ; omega) | (simp ; done) | (simp ; omega)))) ?_
                refine exB_mk (⟨r7.v, ((0 : Int) - (0 : Int)).toNat, r7.v.length - (((0 : Int) - (0 : Int)).toNat)⟩ : A_clones_psub) ?_
                refine mustP (rfl) ?_
                refine mustP (show (((0 : Int) - (0 : Int)).toNat) + (r7.v.length - (((0 : Int) - (0 : Int)).toNat)) ≤ r7.v.length ∧ (r7.v.length - (((0 : Int) - (0 : Int)).toNat)) ≤ 1000000 from by omega) ?_
                refine allB_mk (fun r8 => ?_)
                refine ifP (fun (hi100 : r8.o = (r7.v.drop (((0 : Int) - (0 : Int)).toNat)).take (r7.v.length - (((0 : Int) - (0 : Int)).toNat)) ∧ r8.o.length = (r7.v.length - (((0 : Int) - (0 : Int)).toNat))) => ?_) (fun _ => rfl)
                refine mustP (rfl) ?_
                refine mustP (show r8.o.length = r8.o.length from (by (first | omega | (simp only [List.length_append, List.length_cons, List.length_nil, limP] ; omega) | (simp ; done) | (simp ; omega)))) ?_
                refine mustP (rfl) ?_
                refine ifP (fun (hc101 : r8.o = []) => ?_) (fun (hc101 : ¬ (r8.o = [])) => ?_)
                ·
                  have hc101l : (r8.o).length = 0 := (by rw [hc101] ; rfl)
                  refine ifP (fun (hc102 : r6.ok = (min ((395 : Int) + (Int.tmod ((Int.tmod p.n (10 : Int)) + (10 : Int)) (10 : Int))) (400 : Int))) => ?_) (fun (hc102 : ¬ (r6.ok = (min ((395 : Int) + (Int.tmod ((Int.tmod p.n (10 : Int)) + (10 : Int)) (10 : Int))) (400 : Int)))) => ?_)
                  ·
                    refine ifP (fun (hc103 : r6.com = r6.ok) => ?_) (fun (hc103 : ¬ (r6.com = r6.ok)) => ?_)
                    ·
                      refine ifP (fun (hc104 : ((395 : Int) + (Int.tmod ((Int.tmod p.n (10 : Int)) + (10 : Int)) (10 : Int))) ≤ (400 : Int)) => ?_) (fun (hc104 : ¬ (((395 : Int) + (Int.tmod ((Int.tmod p.n (10 : Int)) + (10 : Int)) (10 : Int))) ≤ (400 : Int))) => ?_)
                      ·
                        refine ifP (fun (hc105 : (0 : Int) = ((395 : Int) + (Int.tmod ((Int.tmod p.n (10 : Int)) + (10 : Int)) (10 : Int)))) => ?_) (fun (hc105 : ¬ ((0 : Int) = ((395 : Int) + (Int.tmod ((Int.tmod p.n (10 : Int)) + (10 : Int)) (10 : Int))))) => ?_)
                        ·
                          refine ifP (fun (hc106 : (max (0 : Int) (min p.c (0 : Int))) = (max (0 : Int) (min ((395 : Int) + (Int.tmod ((Int.tmod p.n (10 : Int)) + (10 : Int)) (10 : Int))) p.c))) => ?_) (fun (hc106 : ¬ ((max (0 : Int) (min p.c (0 : Int))) = (max (0 : Int) (min ((395 : Int) + (Int.tmod ((Int.tmod p.n (10 : Int)) + (10 : Int)) (10 : Int))) p.c)))) => ?_)
                          ·
                            refine exB_mk ⟨⟩ ?_
                            refine mustP (rfl) ?_
                            exact hK0
                          ·
                            first | (exfalso ; omega) | (exfalso ; simp_all ; done) | (exfalso ; simp_all ; omega)
                        ·
                          first | (exfalso ; omega) | (exfalso ; simp_all ; done) | (exfalso ; simp_all ; omega)
                      ·
                        first | (exfalso ; omega) | (exfalso ; simp_all ; done) | (exfalso ; simp_all ; omega)
                    ·
                      first | (exfalso ; omega) | (exfalso ; simp_all ; done) | (exfalso ; simp_all ; omega)
                  ·
                    first | (exfalso ; omega) | (exfalso ; simp_all ; done) | (exfalso ; simp_all ; omega)
                ·
                  have hc101l : 0 < (r8.o).length := List.length_pos_iff.2 hc101
                  refine exB_mk r8.o ?_
                  refine mustP (rfl) ?_
                  refine mustP (show limP 104 (([] : List Int).length + r8.o.length) from (by (first | omega | (simp only [List.length_append, List.length_cons, List.length_nil, limP] ; omega) | (simp ; done) | (simp ; omega)))) ?_
                  refine ifP (fun (hc107 : r6.ok = (min ((395 : Int) + (Int.tmod ((Int.tmod p.n (10 : Int)) + (10 : Int)) (10 : Int))) (400 : Int))) => ?_) (fun (hc107 : ¬ (r6.ok = (min ((395 : Int) + (Int.tmod ((Int.tmod p.n (10 : Int)) + (10 : Int)) (10 : Int))) (400 : Int)))) => ?_)
                  ·
                    refine ifP (fun (hc108 : r6.com = r6.ok) => ?_) (fun (hc108 : ¬ (r6.com = r6.ok)) => ?_)
                    ·
                      refine ifP (fun (hc109 : ((395 : Int) + (Int.tmod ((Int.tmod p.n (10 : Int)) + (10 : Int)) (10 : Int))) ≤ (400 : Int)) => ?_) (fun (hc109 : ¬ (((395 : Int) + (Int.tmod ((Int.tmod p.n (10 : Int)) + (10 : Int)) (10 : Int))) ≤ (400 : Int))) => ?_)
                      ·
                        refine ifP (fun (hc110 : ((([] : List Int) ++ r8.o).length : Int) = ((395 : Int) + (Int.tmod ((Int.tmod p.n (10 : Int)) + (10 : Int)) (10 : Int)))) => ?_) (fun (hc110 : ¬ (((([] : List Int) ++ r8.o).length : Int) = ((395 : Int) + (Int.tmod ((Int.tmod p.n (10 : Int)) + (10 : Int)) (10 : Int))))) => ?_)
                        ·
                          refine ifP (fun (hc111 : (max (0 : Int) (min p.c ((([] : List Int) ++ r8.o).length : Int))) = (max (0 : Int) (min ((395 : Int) + (Int.tmod ((Int.tmod p.n (10 : Int)) + (10 : Int)) (10 : Int))) p.c))) => ?_) (fun (hc111 : ¬ ((max (0 : Int) (min p.c ((([] : List Int) ++ r8.o).length : Int))) = (max (0 : Int) (min ((395 : Int) + (Int.tmod ((Int.tmod p.n (10 : Int)) + (10 : Int)) (10 : Int))) p.c)))) => ?_)
                          ·
                            refine exB_mk ⟨⟩ ?_
                            refine mustP (rfl) ?_
                            exact hK0
                          ·
                            first | (exfalso ; omega) | (exfalso ; simp_all ; done) | (exfalso ; simp_all ; omega)
                        ·
                          first | (exfalso ; omega) | (exfalso ; simp_all ; done) | (exfalso ; simp_all ; omega)
                      ·
                        first | (exfalso ; omega) | (exfalso ; simp_all ; done) | (exfalso ; simp_all ; omega)
                    ·
                      first | (exfalso ; omega) | (exfalso ; simp_all ; done) | (exfalso ; simp_all ; omega)
                  ·
                    first | (exfalso ; omega) | (exfalso ; simp_all ; done) | (exfalso ; simp_all ; omega)
              ·
                refine ifP (fun (hc112 : r6.ok = (min ((395 : Int) + (Int.tmod ((Int.tmod p.n (10 : Int)) + (10 : Int)) (10 : Int))) (400 : Int))) => ?_) (fun (hc112 : ¬ (r6.ok = (min ((395 : Int) + (Int.tmod ((Int.tmod p.n (10 : Int)) + (10 : Int)) (10 : Int))) (400 : Int)))) => ?_)
                ·
                  refine ifP (fun (hc113 : r6.com = r6.ok) => ?_) (fun (hc113 : ¬ (r6.com = r6.ok)) => ?_)
                  ·
                    refine ifP (fun (hc114 : ((395 : Int) + (Int.tmod ((Int.tmod p.n (10 : Int)) + (10 : Int)) (10 : Int))) ≤ (400 : Int)) => ?_) (fun (hc114 : ¬ (((395 : Int) + (Int.tmod ((Int.tmod p.n (10 : Int)) + (10 : Int)) (10 : Int))) ≤ (400 : Int))) => ?_)
                    ·
                      refine ifP (fun (hc115 : (0 : Int) = ((395 : Int) + (Int.tmod ((Int.tmod p.n (10 : Int)) + (10 : Int)) (10 : Int)))) => ?_) (fun (hc115 : ¬ ((0 : Int) = ((395 : Int) + (Int.tmod ((Int.tmod p.n (10 : Int)) + (10 : Int)) (10 : Int))))) => ?_)
                      ·
                        refine ifP (fun (hc116 : (max (0 : Int) (min p.c (0 : Int))) = (max (0 : Int) (min ((395 : Int) + (Int.tmod ((Int.tmod p.n (10 : Int)) + (10 : Int)) (10 : Int))) p.c))) => ?_) (fun (hc116 : ¬ ((max (0 : Int) (min p.c (0 : Int))) = (max (0 : Int) (min ((395 : Int) + (Int.tmod ((Int.tmod p.n (10 : Int)) + (10 : Int)) (10 : Int))) p.c)))) => ?_)
                        ·
                          refine exB_mk ⟨⟩ ?_
                          refine mustP (rfl) ?_
                          exact hK0
                        ·
                          first | (exfalso ; omega) | (exfalso ; simp_all ; done) | (exfalso ; simp_all ; omega)
                      ·
                        first | (exfalso ; omega) | (exfalso ; simp_all ; done) | (exfalso ; simp_all ; omega)
                    ·
                      first | (exfalso ; omega) | (exfalso ; simp_all ; done) | (exfalso ; simp_all ; omega)
                  ·
                    first | (exfalso ; omega) | (exfalso ; simp_all ; done) | (exfalso ; simp_all ; omega)
                ·
                  first | (exfalso ; omega) | (exfalso ; simp_all ; done) | (exfalso ; simp_all ; omega)
        ·
          refine mustP (rfl) ?_
          refine ifP (fun (hc117 : (0 : Int) < (0 : Int)) => ?_) (fun (hc117 : ¬ ((0 : Int) < (0 : Int))) => ?_)
          ·
            refine ifP (fun (hc118 : r6.ok = (min ((395 : Int) + (Int.tmod ((Int.tmod p.n (10 : Int)) + (10 : Int)) (10 : Int))) (400 : Int))) => ?_) (fun (hc118 : ¬ (r6.ok = (min ((395 : Int) + (Int.tmod ((Int.tmod p.n (10 : Int)) + (10 : Int)) (10 : Int))) (400 : Int)))) => ?_)
            ·
              refine ifP (fun (hc119 : r6.com = r6.ok) => ?_) (fun (hc119 : ¬ (r6.com = r6.ok)) => ?_)
              ·
                refine ifP (fun (hc120 : ((395 : Int) + (Int.tmod ((Int.tmod p.n (10 : Int)) + (10 : Int)) (10 : Int))) ≤ (400 : Int)) => ?_) (fun (hc120 : ¬ (((395 : Int) + (Int.tmod ((Int.tmod p.n (10 : Int)) + (10 : Int)) (10 : Int))) ≤ (400 : Int))) => ?_)
                ·
                  first | (exfalso ; omega) | (exfalso ; simp_all ; done) | (exfalso ; simp_all ; omega)
                ·
                  refine ifP (fun (hc121 : (0 : Int) = (0 : Int)) => ?_) (fun (hc121 : ¬ ((0 : Int) = (0 : Int))) => ?_)
                  ·
                    refine exB_mk ⟨⟩ ?_
                    refine mustP (rfl) ?_
                    exact hK0
                  ·
                    first | (exfalso ; omega) | (exfalso ; simp_all ; done) | (exfalso ; simp_all ; omega)
              ·
                first | (exfalso ; omega) | (exfalso ; simp_all ; done) | (exfalso ; simp_all ; omega)
            ·
              first | (exfalso ; omega) | (exfalso ; simp_all ; done) | (exfalso ; simp_all ; omega)
          ·
            refine ifP (fun (hc122 : (400 : Int) < (r7.v.length : Int)) => ?_) (fun (hc122 : ¬ ((400 : Int) < (r7.v.length : Int))) => ?_)
            ·
              refine ifP (fun (hc123 : r6.ok = (min ((395 : Int) + (Int.tmod ((Int.tmod p.n (10 : Int)) + (10 : Int)) (10 : Int))) (400 : Int))) => ?_) (fun (hc123 : ¬ (r6.ok = (min ((395 : Int) + (Int.tmod ((Int.tmod p.n (10 : Int)) + (10 : Int)) (10 : Int))) (400 : Int)))) => ?_)
              ·
                refine ifP (fun (hc124 : r6.com = r6.ok) => ?_) (fun (hc124 : ¬ (r6.com = r6.ok)) => ?_)
                ·
                  refine ifP (fun (hc125 : ((395 : Int) + (Int.tmod ((Int.tmod p.n (10 : Int)) + (10 : Int)) (10 : Int))) ≤ (400 : Int)) => ?_) (fun (hc125 : ¬ (((395 : Int) + (Int.tmod ((Int.tmod p.n (10 : Int)) + (10 : Int)) (10 : Int))) ≤ (400 : Int))) => ?_)
                  ·
                    first | (exfalso ; omega) | (exfalso ; simp_all ; done) | (exfalso ; simp_all ; omega)
                  ·
                    refine ifP (fun (hc126 : (0 : Int) = (0 : Int)) => ?_) (fun (hc126 : ¬ ((0 : Int) = (0 : Int))) => ?_)
                    ·
                      refine exB_mk ⟨⟩ ?_
                      refine mustP (rfl) ?_
                      exact hK0
                    ·
                      first | (exfalso ; omega) | (exfalso ; simp_all ; done) | (exfalso ; simp_all ; omega)
                ·
                  first | (exfalso ; omega) | (exfalso ; simp_all ; done) | (exfalso ; simp_all ; omega)
              ·
                first | (exfalso ; omega) | (exfalso ; simp_all ; done) | (exfalso ; simp_all ; omega)
            ·
              refine mustP (show InR 0 ((0 : Int) - (0 : Int)) from (by simp only [InR] ; omega)) ?_
              refine ifP (fun (hc127 : ((0 : Int) - (0 : Int)) < (r7.v.length : Int)) => ?_) (fun (hc127 : ¬ (((0 : Int) - (0 : Int)) < (r7.v.length : Int))) => ?_)
              ·
                refine mustP (show r7.v.length = r7.v.length ∧ 0 ≤ ((0 : Int) - (0 : Int)) ∧ ((0 : Int) - (0 : Int)) ≤ (r7.v.length : Int) ∧ (r7.v.length : Int) ≤ (r7.v.length : Int) from (by (first | omega | (simp only [List.length_append, List.length_cons, List.length_nil, limP] ; omega) | (simp ; done) | (simp ; omega)))) ?_
                refine exB_mk (⟨r7.v, ((0 : Int) - (0 : Int)).toNat, r7.v.length - (((0 : Int) - (0 : Int)).toNat)⟩ : A_clones_psub) ?_
                refine mustP (rfl) ?_
                refine mustP (show (((0 : Int) - (0 : Int)).toNat) + (r7.v.length - (((0 : Int) - (0 : Int)).toNat)) ≤ r7.v.length ∧ (r7.v.length - (((0 : Int) - (0 : Int)).toNat)) ≤ 1000000 from by omega) ?_
                refine allB_mk (fun r9 => ?_)
                refine ifP (fun (hi128 : r9.o = (r7.v.drop (((0 : Int) - (0 : Int)).toNat)).take (r7.v.length - (((0 : Int) - (0 : Int)).toNat)) ∧ r9.o.length = (r7.v.length - (((0 : Int) - (0 : Int)).toNat))) => ?_) (fun _ => rfl)
                refine mustP (rfl) ?_
                refine mustP (show r9.o.length = r9.o.length from (by (first | omega | (simp only [List.length_append, List.length_cons, List.length_nil, limP] ; omega) | (simp ; done) | (simp ; omega)))) ?_
                refine mustP (rfl) ?_
                refine ifP (fun (hc129 : r9.o = []) => ?_) (fun (hc129 : ¬ (r9.o = [])) => ?_)
                ·
                  have hc129l : (r9.o).length = 0 := (by rw [hc129] ; rfl)
                  refine ifP (fun (hc130 : r6.ok = (min ((395 : Int) + (Int.tmod ((Int.tmod p.n (10 : Int)) + (10 : Int)) (10 : Int))) (400 : Int))) => ?_) (fun (hc130 : ¬ (r6.ok = (min ((395 : Int) + (Int.tmod ((Int.tmod p.n (10 : Int)) + (10 : Int)) (10 : Int))) (400 : Int)))) => ?_)
                  ·
                    refine ifP (fun (hc131 : r6.com = r6.ok) => ?_) (fun (hc131 : ¬ (r6.com = r6.ok)) => ?_)
                    ·
                      refine ifP (fun (hc132 : ((395 : Int) + (Int.tmod ((Int.tmod p.n (10 : Int)) + (10 : Int)) (10 : Int))) ≤ (400 : Int)) => ?_) (fun (hc132 : ¬ (((395 : Int) + (Int.tmod ((Int.tmod p.n (10 : Int)) + (10 : Int)) (10 : Int))) ≤ (400 : Int))) => ?_)
                      ·
                        refine ifP (fun (hc133 : (0 : Int) = ((395 : Int) + (Int.tmod ((Int.tmod p.n (10 : Int)) + (10 : Int)) (10 : Int)))) => ?_) (fun (hc133 : ¬ ((0 : Int) = ((395 : Int) + (Int.tmod ((Int.tmod p.n (10 : Int)) + (10 : Int)) (10 : Int))))) => ?_)
                        ·
                          refine ifP (fun (hc134 : (max (0 : Int) (min p.c (0 : Int))) = (max (0 : Int) (min ((395 : Int) + (Int.tmod ((Int.tmod p.n (10 : Int)) + (10 : Int)) (10 : Int))) p.c))) => ?_) (fun (hc134 : ¬ ((max (0 : Int) (min p.c (0 : Int))) = (max (0 : Int) (min ((395 : Int) + (Int.tmod ((Int.tmod p.n (10 : Int)) + (10 : Int)) (10 : Int))) p.c)))) => ?_)
                          ·
                            refine exB_mk ⟨⟩ ?_
                            refine mustP (rfl) ?_
                            exact hK0
                          ·
                            first | (exfalso ; omega) | (exfalso ; simp_all ; done) | (exfalso ; simp_all ; omega)
                        ·
                          first | (exfalso ; omega) | (exfalso ; simp_all ; done) | (exfalso ; simp_all ; omega)
                      ·
                        first | (exfalso ; omega) | (exfalso ; simp_all ; done) | (exfalso ; simp_all ; omega)
                    ·
                      first | (exfalso ; omega) | (exfalso ; simp_all ; done) | (exfalso ; simp_all ; omega)
                  ·
                    first | (exfalso ; omega) | (exfalso ; simp_all ; done) | (exfalso ; simp_all ; omega)
                ·
                  have hc129l : 0 < (r9.o).length := List.length_pos_iff.2 hc129
                  refine exB_mk r9.o ?_
                  refine mustP (rfl) ?_
                  refine mustP (show limP 104 (([] : List Int).length + r9.o.length) from (by (first | omega | (simp only [List.length_append, List.length_cons, List.length_nil, limP] ; omega) | (simp ; done) | (simp ; omega)))) ?_
                  refine ifP (fun (hc135 : r6.ok = (min ((395 : Int) + (Int.tmod ((Int.tmod p.n (10 : Int)) + (10 : Int)) (10 : Int))) (400 : Int))) => ?_) (fun (hc135 : ¬ (r6.ok = (min ((395 : Int) + (Int.tmod ((Int.tmod p.n (10 : Int)) + (10 : Int)) (10 : Int))) (400 : Int)))) => ?_)
                  ·
                    refine ifP (fun (hc136 : r6.com = r6.ok) => ?_) (fun (hc136 : ¬ (r6.com = r6.ok)) => ?_)
                    ·
                      refine ifP (fun (hc137 : ((395 : Int) + (Int.tmod ((Int.tmod p.n (10 : Int)) + (10 : Int)) (10 : Int))) ≤ (400 : Int)) => ?_) (fun (hc137 : ¬ (((395 : Int) + (Int.tmod ((Int.tmod p.n (10 : Int)) + (10 : Int)) (10 : Int))) ≤ (400 : Int))) => ?_)
                      ·
                        refine ifP (fun (hc138 : ((([] : List Int) ++ r9.o).length : Int) = ((395 : Int) + (Int.tmod ((Int.tmod p.n (10 : Int)) + (10 : Int)) (10 : Int)))) => ?_) (fun (hc138 : ¬ (((([] : List Int) ++ r9.o).length : Int) = ((395 : Int) + (Int.tmod ((Int.tmod p.n (10 : Int)) + (10 : Int)) (10 : Int))))) => ?_)
                        ·
                          refine ifP (fun (hc139 : (max (0 : Int) (min p.c ((([] : List Int) ++ r9.o).length : Int))) = (max (0 : Int) (min ((395 : Int) + (Int.tmod ((Int.tmod p.n (10 : Int)) + (10 : Int)) (10 : Int))) p.c))) => ?_) (fun (hc139 : ¬ ((max (0 : Int) (min p.c ((([] : List Int) ++ r9.o).length : Int))) = (max (0 : Int) (min ((395 : Int) + (Int.tmod ((Int.tmod p.n (10 : Int)) + (10 : Int)) (10 : Int))) p.c)))) => ?_)
                          ·
                            refine exB_mk ⟨⟩ ?_
                            refine mustP (rfl) ?_
                            exact hK0
                          ·
                            first | (exfalso ; omega) | (exfalso ; simp_all ; done) | (exfalso ; simp_all ; omega)
                        ·
                          first | (exfalso ; omega) | (exfalso ; simp_all ; done) | (exfalso ; simp_all ; omega)
                      ·
                        first | (exfalso ; omega) | (exfalso ; simp_all ; done) | (exfalso ; simp_all ; omega)
                    ·
                      first | (exfalso ; omega) | (exfalso ; simp_all ; done) | (exfalso ; simp_all ; omega)
                  ·
                    first | (exfalso ; omega) | (exfalso ; simp_all ; done) | (exfalso ; simp_all ; omega)
              ·
                refine ifP (fun (hc140 : r6.ok = (min ((395 : Int) + (Int.tmod ((Int.tmod p.n (10 : Int)) + (10 : Int)) (10 : Int))) (400 : Int))) => ?_) (fun (hc140 : ¬ (r6.ok = (min ((395 : Int) + (Int.tmod ((Int.tmod p.n (10 : Int)) + (10 : Int)) (10 : Int))) (400 : Int)))) => ?_)
                ·
                  refine ifP (fun (hc141 : r6.com = r6.ok) => ?_) (fun (hc141 : ¬ (r6.com = r6.ok)) => ?_)
                  ·
                    refine ifP (fun (hc142 : ((395 : Int) + (Int.tmod ((Int.tmod p.n (10 : Int)) + (10 : Int)) (10 : Int))) ≤ (400 : Int)) => ?_) (fun (hc142 : ¬ (((395 : Int) + (Int.tmod ((Int.tmod p.n (10 : Int)) + (10 : Int)) (10 : Int))) ≤ (400 : Int))) => ?_)
                    ·
                      refine ifP (fun (hc143 : (0 : Int) = ((395 : Int) + (Int.tmod ((Int.tmod p.n (10 : Int)) + (10 : Int)) (10 : Int)))) => ?_) (fun (hc143 : ¬ ((0 : Int) = ((395 : Int) + (Int.tmod ((Int.tmod p.n (10 : Int)) + (10 : Int)) (10 : Int))))) => ?_)
                      ·
                        refine ifP (fun (hc144 : (max (0 : Int) (min p.c (0 : Int))) = (max (0 : Int) (min ((395 : Int) + (Int.tmod ((Int.tmod p.n (10 : Int)) + (10 : Int)) (10 : Int))) p.c))) => ?_) (fun (hc144 : ¬ ((max (0 : Int) (min p.c (0 : Int))) = (max (0 : Int) (min ((395 : Int) + (Int.tmod ((Int.tmod p.n (10 : Int)) + (10 : Int)) (10 : Int))) p.c)))) => ?_)
                        ·
                          refine exB_mk ⟨⟩ ?_
                          refine mustP (rfl) ?_
                          exact hK0
                        ·
                          first | (exfalso ; omega) | (exfalso ; simp_all ; done) | (exfalso ; simp_all ; omega)
                      ·
                        first | (exfalso ; omega) | (exfalso ; simp_all ; done) | (exfalso ; simp_all ; omega)
                    ·
                      first | (exfalso ; omega) | (exfalso ; simp_all ; done) | (exfalso ; simp_all ; omega)
                  ·
                    first | (exfalso ; omega) | (exfalso ; simp_all ; done) | (exfalso ; simp_all ; omega)
                ·
                  first | (exfalso ; omega) | (exfalso ; simp_all ; done) | (exfalso ; simp_all ; omega)
      ·
        refine mustP (rfl) ?_
        refine ifP (fun (hc145 : (0 : Int) < (0 : Int)) => ?_) (fun (hc145 : ¬ ((0 : Int) < (0 : Int))) => ?_)
        ·
          refine ifP (fun (hc146 : r6.ok = (min ((395 : Int) + (Int.tmod ((Int.tmod p.n (10 : Int)) + (10 : Int)) (10 : Int))) (400 : Int))) => ?_) (fun (hc146 : ¬ (r6.ok = (min ((395 : Int) + (Int.tmod ((Int.tmod p.n (10 : Int)) + (10 : Int)) (10 : Int))) (400 : Int)))) => ?_)
          ·
            refine ifP (fun (hc147 : r6.com = r6.ok) => ?_) (fun (hc147 : ¬ (r6.com = r6.ok)) => ?_)
            ·
              refine ifP (fun (hc148 : ((395 : Int) + (Int.tmod ((Int.tmod p.n (10 : Int)) + (10 : Int)) (10 : Int))) ≤ (400 : Int)) => ?_) (fun (hc148 : ¬ (((395 : Int) + (Int.tmod ((Int.tmod p.n (10 : Int)) + (10 : Int)) (10 : Int))) ≤ (400 : Int))) => ?_)
              ·
                first | (exfalso ; omega) | (exfalso ; simp_all ; done) | (exfalso ; simp_all ; omega)
              ·
                refine ifP (fun (hc149 : (0 : Int) = (0 : Int)) => ?_) (fun (hc149 : ¬ ((0 : Int) = (0 : Int))) => ?_)
                ·
                  refine exB_mk ⟨⟩ ?_
                  refine mustP (rfl) ?_
                  exact hK0
                ·
                  first | (exfalso ; omega) | (exfalso ; simp_all ; done) | (exfalso ; simp_all ; omega)
            ·
              first | (exfalso ; omega) | (exfalso ; simp_all ; done) | (exfalso ; simp_all ; omega)
          ·
            first | (exfalso ; omega) | (exfalso ; simp_all ; done) | (exfalso ; simp_all ; omega)
        ·
          refine ifP (fun (hc150 : (400 : Int) < (r7.v.length : Int)) => ?_) (fun (hc150 : ¬ ((400 : Int) < (r7.v.length : Int))) => ?_)
          ·
            refine ifP (fun (hc151 : r6.ok = (min ((395 : Int) + (Int.tmod ((Int.tmod p.n (10 : Int)) + (10 : Int)) (10 : Int))) (400 : Int))) => ?_) (fun (hc151 : ¬ (r6.ok = (min ((395 : Int) + (Int.tmod ((Int.tmod p.n (10 : Int)) + (10 : Int)) (10 : Int))) (400 : Int)))) => ?_)
            ·
              refine ifP (fun (hc152 : r6.com = r6.ok) => ?_) (fun (hc152 : ¬ (r6.com = r6.ok)) => ?_)
              ·
                refine ifP (fun (hc153 : ((395 : Int) + (Int.tmod ((Int.tmod p.n (10 : Int)) + (10 : Int)) (10 : Int))) ≤ (400 : Int)) => ?_) (fun (hc153 : ¬ (((395 : Int) + (Int.tmod ((Int.tmod p.n (10 : Int)) + (10 : Int)) (10 : Int))) ≤ (400 : Int))) => ?_)
                ·
                  first | (exfalso ; omega) | (exfalso ; simp_all ; done) | (exfalso ; simp_all ; omega)
                ·
                  refine ifP (fun (hc154 : (0 : Int) = (0 : Int)) => ?_) (fun (hc154 : ¬ ((0 : Int) = (0 : Int))) => ?_)
                  ·
                    refine exB_mk ⟨⟩ ?_
                    refine mustP (rfl) ?_
                    exact hK0
                  ·
                    first | (exfalso ; omega) | (exfalso ; simp_all ; done) | (exfalso ; simp_all ; omega)
              ·
                first | (exfalso ; omega) | (exfalso ; simp_all ; done) | (exfalso ; simp_all ; omega)
            ·
              first | (exfalso ; omega) | (exfalso ; simp_all ; done) | (exfalso ; simp_all ; omega)
          ·
            refine mustP (show InR 0 ((0 : Int) - (0 : Int)) from (by simp only [InR] ; omega)) ?_
            refine ifP (fun (hc155 : ((0 : Int) - (0 : Int)) < (r7.v.length : Int)) => ?_) (fun (hc155 : ¬ (((0 : Int) - (0 : Int)) < (r7.v.length : Int))) => ?_)
            ·
              refine mustP (show r7.v.length = r7.v.length ∧ 0 ≤ ((0 : Int) - (0 : Int)) ∧ ((0 : Int) - (0 : Int)) ≤ (r7.v.length : Int) ∧ (r7.v.length : Int) ≤ (r7.v.length : Int) from (by (first | omega | (simp only [List.length_append, List.length_cons, List.length_nil, limP] ; omega) | (simp ; done) | (simp ; omega)))) ?_
              refine exB_mk (⟨r7.v, ((0 : Int) - (0 : Int)).toNat, r7.v.length - (((0 : Int) - (0 : Int)).toNat)⟩ : A_clones_psub) ?_
              refine mustP (rfl) ?_
              refine mustP (show (((0 : Int) - (0 : Int)).toNat) + (r7.v.length - (((0 : Int) - (0 : Int)).toNat)) ≤ r7.v.length ∧ (r7.v.length - (((0 : Int) - (0 : Int)).toNat)) ≤ 1000000 from by omega) ?_
              refine allB_mk (fun r10 => ?_)
              refine ifP (fun (hi156 : r10.o = (r7.v.drop (((0 : Int) - (0 : Int)).toNat)).take (r7.v.length - (((0 : Int) - (0 : Int)).toNat)) ∧ r10.o.length = (r7.v.length - (((0 : Int) - (0 : Int)).toNat))) => ?_) (fun _ => rfl)
              refine mustP (rfl) ?_
              refine mustP (show r10.o.length = r10.o.length from (by (first | omega | (simp only [List.length_append, List.length_cons, List.length_nil, limP] ; omega) | (simp ; done) | (simp ; omega)))) ?_
              refine mustP (rfl) ?_
              refine ifP (fun (hc157 : r10.o = []) => ?_) (fun (hc157 : ¬ (r10.o = [])) => ?_)
              ·
                have hc157l : (r10.o).length = 0 := (by rw [hc157] ; rfl)
                refine ifP (fun (hc158 : r6.ok = (min ((395 : Int) + (Int.tmod ((Int.tmod p.n (10 : Int)) + (10 : Int)) (10 : Int))) (400 : Int))) => ?_) (fun (hc158 : ¬ (r6.ok = (min ((395 : Int) + (Int.tmod ((Int.tmod p.n (10 : Int)) + (10 : Int)) (10 : Int))) (400 : Int)))) => ?_)
                ·
                  refine ifP (fun (hc159 : r6.com = r6.ok) => ?_) (fun (hc159 : ¬ (r6.com = r6.ok)) => ?_)
                  ·
                    refine ifP (fun (hc160 : ((395 : Int) + (Int.tmod ((Int.tmod p.n (10 : Int)) + (10 : Int)) (10 : Int))) ≤ (400 : Int)) => ?_) (fun (hc160 : ¬ (((395 : Int) + (Int.tmod ((Int.tmod p.n (10 : Int)) + (10 : Int)) (10 : Int))) ≤ (400 : Int))) => ?_)
                    ·
                      refine ifP (fun (hc161 : (0 : Int) = ((395 : Int) + (Int.tmod ((Int.tmod p.n (10 : Int)) + (10 : Int)) (10 : Int)))) => ?_) (fun (hc161 : ¬ ((0 : Int) = ((395 : Int) + (Int.tmod ((Int.tmod p.n (10 : Int)) + (10 : Int)) (10 : Int))))) => ?_)
                      ·
                        refine ifP (fun (hc162 : (max (0 : Int) (min p.c (0 : Int))) = (max (0 : Int) (min ((395 : Int) + (Int.tmod ((Int.tmod p.n (10 : Int)) + (10 : Int)) (10 : Int))) p.c))) => ?_) (fun (hc162 : ¬ ((max (0 : Int) (min p.c (0 : Int))) = (max (0 : Int) (min ((395 : Int) + (Int.tmod ((Int.tmod p.n (10 : Int)) + (10 : Int)) (10 : Int))) p.c)))) => ?_)
                        ·
                          refine exB_mk ⟨⟩ ?_
                          refine mustP (rfl) ?_
                          exact hK0
                        ·
                          first | (exfalso ; omega) | (exfalso ; simp_all ; done) | (exfalso ; simp_all ; omega)
                      ·
                        first | (exfalso ; omega) | (exfalso ; simp_all ; done) | (exfalso ; simp_all ; omega)
                    ·
                      first | (exfalso ; omega) | (exfalso ; simp_all ; done) | (exfalso ; simp_all ; omega)
                  ·
                    first | (exfalso ; omega) | (exfalso ; simp_all ; done) | (exfalso ; simp_all ; omega)
                ·
                  first | (exfalso ; omega) | (exfalso ; simp_all ; done) | (exfalso ; simp_all ; omega)
              ·
                have hc157l : 0 < (r10.o).length := List.length_pos_iff.2 hc157
                refine exB_mk r10.o ?_
                refine mustP (rfl) ?_
                refine mustP (show limP 104 (([] : List Int).length + r10.o.length) from (by (first | omega | (simp only [List.length_append, List.length_cons, List.length_nil, limP] ; omega) | (simp ; done) | (simp ; omega)))) ?_
                refine ifP (fun (hc163 : r6.ok = (min ((395 : Int) + (Int.tmod ((Int.tmod p.n (10 : Int)) + (10 : Int)) (10 : Int))) (400 : Int))) => ?_) (fun (hc163 : ¬ (r6.ok = (min ((395 : Int) + (Int.tmod ((Int.tmod p.n (10 : Int)) + (10 : Int)) (10 : Int))) (400 : Int)))) => ?_)
                ·
                  refine ifP (fun (hc164 : r6.com = r6.ok) => ?_) (fun (hc164 : ¬ (r6.com = r6.ok)) => ?_)
                  ·
                    refine ifP (fun (hc165 : ((395 : Int) + (Int.tmod ((Int.tmod p.n (10 : Int)) + (10 : Int)) (10 : Int))) ≤ (400 : Int)) => ?_) (fun (hc165 : ¬ (((395 : Int) + (Int.tmod ((Int.tmod p.n (10 : Int)) + (10 : Int)) (10 : Int))) ≤ (400 : Int))) => ?_)
                    ·
                      refine ifP (fun (hc166 : ((([] : List Int) ++ r10.o).length : Int) = ((395 : Int) + (Int.tmod ((Int.tmod p.n (10 : Int)) + (10 : Int)) (10 : Int)))) => ?_) (fun (hc166 : ¬ (((([] : List Int) ++ r10.o).length : Int) = ((395 : Int) + (Int.tmod ((Int.tmod p.n (10 : Int)) + (10 : Int)) (10 : Int))))) => ?_)
                      ·
                        refine ifP (fun (hc167 : (max (0 : Int) (min p.c ((([] : List Int) ++ r10.o).length : Int))) = (max (0 : Int) (min ((395 : Int) + (Int.tmod ((Int.tmod p.n (10 : Int)) + (10 : Int)) (10 : Int))) p.c))) => ?_) (fun (hc167 : ¬ ((max (0 : Int) (min p.c ((([] : List Int) ++ r10.o).length : Int))) = (max (0 : Int) (min ((395 : Int) + (Int.tmod ((Int.tmod p.n (10 : Int)) + (10 : Int)) (10 : Int))) p.c)))) => ?_)
                        ·
                          refine exB_mk ⟨⟩ ?_
                          refine mustP (rfl) ?_
                          exact hK0
                        ·
                          first | (exfalso ; omega) | (exfalso ; simp_all ; done) | (exfalso ; simp_all ; omega)
                      ·
                        first | (exfalso ; omega) | (exfalso ; simp_all ; done) | (exfalso ; simp_all ; omega)
                    ·
                      first | (exfalso ; omega) | (exfalso ; simp_all ; done) | (exfalso ; simp_all ; omega)
                  ·
                    first | (exfalso ; omega) | (exfalso ; simp_all ; done) | (exfalso ; simp_all ; omega)
                ·
                  first | (exfalso ; omega) | (exfalso ; simp_all ; done) | (exfalso ; simp_all ; omega)
            ·
              refine ifP (fun (hc168 : r6.ok = (min ((395 : Int) + (Int.tmod ((Int.tmod p.n (10 : Int)) + (10 : Int)) (10 : Int))) (400 : Int))) => ?_) (fun (hc168 : ¬ (r6.ok = (min ((395 : Int) + (Int.tmod ((Int.tmod p.n (10 : Int)) + (10 : Int)) (10 : Int))) (400 : Int)))) => ?_)
              ·
                refine ifP (fun (hc169 : r6.com = r6.ok) => ?_) (fun (hc169 : ¬ (r6.com = r6.ok)) => ?_)
                ·
                  refine ifP (fun (hc170 : ((395 : Int) + (Int.tmod ((Int.tmod p.n (10 : Int)) + (10 : Int)) (10 : Int))) ≤ (400 : Int)) => ?_) (fun (hc170 : ¬ (((395 : Int) + (Int.tmod ((Int.tmod p.n (10 : Int)) + (10 : Int)) (10 : Int))) ≤ (400 : Int))) => ?_)
                  ·
                    refine ifP (fun (hc171 : (0 : Int) = ((395 : Int) + (Int.tmod ((Int.tmod p.n (10 : Int)) + (10 : Int)) (10 : Int)))) => ?_) (fun (hc171 : ¬ ((0 : Int) = ((395 : Int) + (Int.tmod ((Int.tmod p.n (10 : Int)) + (10 : Int)) (10 : Int))))) => ?_)
                    ·
                      refine ifP (fun (hc172 : (max (0 : Int) (min p.c (0 : Int))) = (max (0 : Int) (min ((395 : Int) + (Int.tmod ((Int.tmod p.n (10 : Int)) + (10 : Int)) (10 : Int))) p.c))) => ?_) (fun (hc172 : ¬ ((max (0 : Int) (min p.c (0 : Int))) = (max (0 : Int) (min ((395 : Int) + (Int.tmod ((Int.tmod p.n (10 : Int)) + (10 : Int)) (10 : Int))) p.c)))) => ?_)
                      ·
                        refine exB_mk ⟨⟩ ?_
                        refine mustP (rfl) ?_
                        exact hK0
                      ·
                        first | (exfalso ; omega) | (exfalso ; simp_all ; done) | (exfalso ; simp_all ; omega)
                    ·
                      first | (exfalso ; omega) | (exfalso ; simp_all ; done) | (exfalso ; simp_all ; omega)
                  ·
                    first | (exfalso ; omega) | (exfalso ; simp_all ; done) | (exfalso ; simp_all ; omega)
                ·
                  first | (exfalso ; omega) | (exfalso ; simp_all ; done) | (exfalso ; simp_all ; omega)
              ·
                first | (exfalso ; omega) | (exfalso ; simp_all ; done) | (exfalso ; simp_all ; omega)
  ·
    refine mustP (rfl) ?_
    refine exB_mk (⟨(395 : Int) + (Int.tmod ((Int.tmod p.n (10 : Int)) + (10 : Int)) (10 : Int)), p.c, (0 : Int), (0 : Int), (0 : Int), ([] : List Int), (0 : Int)⟩ : A_b0) ?_
    refine mustP (rfl) ?_
    refine mustP (show 395 ≤ ((395 : Int) + (Int.tmod ((Int.tmod p.n (10 : Int)) + (10 : Int)) (10 : Int))) ∧ ((395 : Int) + (Int.tmod ((Int.tmod p.n (10 : Int)) + (10 : Int)) (10 : Int))) ≤ 404 ∧ (([] : List Int).length : Int) = (0 : Int) ∧ (0 : Int) = (0 : Int) ∧ (0 : Int) = (0 : Int) ∧ 0 ≤ (0 : Int) ∧ (0 : Int) ≤ ((395 : Int) + (Int.tmod ((Int.tmod p.n (10 : Int)) + (10 : Int)) (10 : Int))) ∧ (0 : Int) = min (0 : Int) 400 from (by (first | omega | (simp only [List.length_append, List.length_cons, List.length_nil, limP] ; omega) | (simp ; done) | (simp ; omega)))) ?_
    refine allB_mk (fun r11 => ?_)
    refine ifP (fun (hi173 : 395 ≤ ((395 : Int) + (Int.tmod ((Int.tmod p.n (10 : Int)) + (10 : Int)) (10 : Int))) ∧ ((395 : Int) + (Int.tmod ((Int.tmod p.n (10 : Int)) + (10 : Int)) (10 : Int))) ≤ 404 ∧ (r11.l.length : Int) = r11.ok ∧ r11.com = r11.ok ∧ r11.cnt = r11.ok ∧ 0 ≤ ((395 : Int) + (Int.tmod ((Int.tmod p.n (10 : Int)) + (10 : Int)) (10 : Int))) ∧ ((395 : Int) + (Int.tmod ((Int.tmod p.n (10 : Int)) + (10 : Int)) (10 : Int))) ≤ ((395 : Int) + (Int.tmod ((Int.tmod p.n (10 : Int)) + (10 : Int)) (10 : Int))) ∧ r11.ok = min ((395 : Int) + (Int.tmod ((Int.tmod p.n (10 : Int)) + (10 : Int)) (10 : Int))) 400) => ?_) (fun _ => rfl)
    refine exB_mk (⟨((395 : Int) + (Int.tmod ((Int.tmod p.n (10 : Int)) + (10 : Int)) (10 : Int))), p.c, r11.ok, r11.com, r11.cnt, r11.l, ([] : List Int), (0 : Int)⟩ : A_b1) ?_
    refine mustP (rfl) ?_
    refine mustP (show 0 ≤ (0 : Int) ∧ (0 : Int) ≤ ((395 : Int) + (Int.tmod ((Int.tmod p.n (10 : Int)) + (10 : Int)) (10 : Int))) ∧ ((395 : Int) + (Int.tmod ((Int.tmod p.n (10 : Int)) + (10 : Int)) (10 : Int))) ≤ 404 ∧ (([] : List Int).length : Int) = (0 : Int) from (by (first | omega | (simp only [List.length_append, List.length_cons, List.length_nil, limP] ; omega) | (simp ; done) | (simp ; omega)))) ?_
    refine allB_mk (fun r12 => ?_)
    refine ifP (fun (hi174 : (r12.v.length : Int) = ((395 : Int) + (Int.tmod ((Int.tmod p.n (10 : Int)) + (10 : Int)) (10 : Int)))) => ?_) (fun _ => rfl)
    refine must_mk ?_ ?_
    ·
      refine must_mk ?_ ?_
      ·
        refine mustP (rfl) ?_
        refine ifP (fun (hc175 : (0 : Int) < (0 : Int)) => ?_) (fun (hc175 : ¬ ((0 : Int) < (0 : Int))) => ?_)
        ·
          refine ifP (fun (hc176 : r11.ok = (min ((395 : Int) + (Int.tmod ((Int.tmod p.n (10 : Int)) + (10 : Int)) (10 : Int))) (400 : Int))) => ?_) (fun (hc176 : ¬ (r11.ok = (min ((395 : Int) + (Int.tmod ((Int.tmod p.n (10 : Int)) + (10 : Int)) (10 : Int))) (400 : Int)))) => ?_)
          ·
            refine ifP (fun (hc177 : r11.com = r11.ok) => ?_) (fun (hc177 : ¬ (r11.com = r11.ok)) => ?_)
            ·
              refine ifP (fun (hc178 : ((395 : Int) + (Int.tmod ((Int.tmod p.n (10 : Int)) + (10 : Int)) (10 : Int))) ≤ (400 : Int)) => ?_) (fun (hc178 : ¬ (((395 : Int) + (Int.tmod ((Int.tmod p.n (10 : Int)) + (10 : Int)) (10 : Int))) ≤ (400 : Int))) => ?_)
              ·
                first | (exfalso ; omega) | (exfalso ; simp_all ; done) | (exfalso ; simp_all ; omega)
              ·
                refine ifP (fun (hc179 : (0 : Int) = (0 : Int)) => ?_) (fun (hc179 : ¬ ((0 : Int) = (0 : Int))) => ?_)
                ·
                  refine exB_mk ⟨⟩ ?_
                  refine mustP (rfl) ?_
                  exact hK0
                ·
                  first | (exfalso ; omega) | (exfalso ; simp_all ; done) | (exfalso ; simp_all ; omega)
            ·
              first | (exfalso ; omega) | (exfalso ; simp_all ; done) | (exfalso ; simp_all ; omega)
          ·
            first | (exfalso ; omega) | (exfalso ; simp_all ; done) | (exfalso ; simp_all ; omega)
        ·
          refine ifP (fun (hc180 : (400 : Int) < (r12.v.length : Int)) => ?_) (fun (hc180 : ¬ ((400 : Int) < (r12.v.length : Int))) => ?_)
          ·
            refine ifP (fun (hc181 : r11.ok = (min ((395 : Int) + (Int.tmod ((Int.tmod p.n (10 : Int)) + (10 : Int)) (10 : Int))) (400 : Int))) => ?_) (fun (hc181 : ¬ (r11.ok = (min ((395 : Int) + (Int.tmod ((Int.tmod p.n (10 : Int)) + (10 : Int)) (10 : Int))) (400 : Int)))) => ?_)
            ·
              refine ifP (fun (hc182 : r11.com = r11.ok) => ?_) (fun (hc182 : ¬ (r11.com = r11.ok)) => ?_)
              ·
                refine ifP (fun (hc183 : ((395 : Int) + (Int.tmod ((Int.tmod p.n (10 : Int)) + (10 : Int)) (10 : Int))) ≤ (400 : Int)) => ?_) (fun (hc183 : ¬ (((395 : Int) + (Int.tmod ((Int.tmod p.n (10 : Int)) + (10 : Int)) (10 : Int))) ≤ (400 : Int))) => ?_)
                ·
                  first | (exfalso ; omega) | (exfalso ; simp_all ; done) | (exfalso ; simp_all ; omega)
                ·
                  refine ifP (fun (hc184 : (0 : Int) = (0 : Int)) => ?_) (fun (hc184 : ¬ ((0 : Int) = (0 : Int))) => ?_)
                  ·
                    refine exB_mk ⟨⟩ ?_
                    refine mustP (rfl) ?_
                    exact hK0
                  ·
                    first | (exfalso ; omega) | (exfalso ; simp_all ; done) | (exfalso ; simp_all ; omega)
              ·
                first | (exfalso ; omega) | (exfalso ; simp_all ; done) | (exfalso ; simp_all ; omega)
            ·
              first | (exfalso ; omega) | (exfalso ; simp_all ; done) | (exfalso ; simp_all ; omega)
          ·
            refine mustP (show InR 0 ((0 : Int) - (0 : Int)) from (by simp only [InR] ; omega)) ?_
            refine ifP (fun (hc185 : ((0 : Int) - (0 : Int)) < (r12.v.length : Int)) => ?_) (fun (hc185 : ¬ (((0 : Int) - (0 : Int)) < (r12.v.length : Int))) => ?_)
            ·
              refine mustP (show r12.v.length = r12.v.length ∧ 0 ≤ ((0 : Int) - (0 : Int)) ∧ ((0 : Int) - (0 : Int)) ≤ (r12.v.length : Int) ∧ (r12.v.length : Int) ≤ (r12.v.length : Int) from (by (first | omega | (simp only [List.length_append, List.length_cons, List.length_nil, limP] ; omega) | (simp ; done) | (simp ; omega)))) ?_
              refine exB_mk (⟨r12.v, ((0 : Int) - (0 : Int)).toNat, r12.v.length - (((0 : Int) - (0 : Int)).toNat)⟩ : A_clones_psub) ?_
              refine mustP (rfl) ?_
              refine mustP (show (((0 : Int) - (0 : Int)).toNat) + (r12.v.length - (((0 : Int) - (0 : Int)).toNat)) ≤ r12.v.length ∧ (r12.v.length - (((0 : Int) - (0 : Int)).toNat)) ≤ 1000000 from by omega) ?_
              refine allB_mk (fun r13 => ?_)
              refine ifP (fun (hi186 : r13.o = (r12.v.drop (((0 : Int) - (0 : Int)).toNat)).take (r12.v.length - (((0 : Int) - (0 : Int)).toNat)) ∧ r13.o.length = (r12.v.length - (((0 : Int) - (0 : Int)).toNat))) => ?_) (fun _ => rfl)
              refine mustP (rfl) ?_
              refine mustP (show r13.o.length = r13.o.length from (by (first | omega | (simp only [List.length_append, List.length_cons, List.length_nil, limP] ; omega) | (simp ; done) | (simp ; omega)))) ?_
              refine mustP (rfl) ?_
              refine ifP (fun (hc187 : r13.o = []) => ?_) (fun (hc187 : ¬ (r13.o = [])) => ?_)
              ·
                have hc187l : (r13.o).length = 0 := (by rw [hc187] ; rfl)
                refine ifP (fun (hc188 : r11.ok = (min ((395 : Int) + (Int.tmod ((Int.tmod p.n (10 : Int)) + (10 : Int)) (10 : Int))) (400 : Int))) => ?_) (fun (hc188 : ¬ (r11.ok = (min ((395 : Int) + (Int.tmod ((Int.tmod p.n (10 : Int)) + (10 : Int)) (10 : Int))) (400 : Int)))) => ?_)
                ·
                  refine ifP (fun (hc189 : r11.com = r11.ok) => ?_) (fun (hc189 : ¬ (r11.com = r11.ok)) => ?_)
                  ·
                    refine ifP (fun (hc190 : ((395 : Int) + (Int.tmod ((Int.tmod p.n (10 : Int)) + (10 : Int)) (10 : Int))) ≤ (400 : Int)) => ?_) (fun (hc190 : ¬ (((395 : Int) + (Int.tmod ((Int.tmod p.n (10 : Int)) + (10 : Int)) (10 : Int))) ≤ (400 : Int))) => ?_)
                    ·
                      refine ifP (fun (hc191 : (0 : Int) = ((395 : Int) + (Int.tmod ((Int.tmod p.n (10 : Int)) + (10 : Int)) (10 : Int)))) => ?_) (fun (hc191 : ¬ ((0 : Int) = ((395 : Int) + (Int.tmod ((Int.tmod p.n (10 : Int)) + (10 : Int)) (10 : Int))))) => ?_)
                      ·
                        refine ifP (fun (hc192 : (max (0 : Int) (min p.c (0 : Int))) = (max (0 : Int) (min ((395 : Int) + (Int.tmod ((Int.tmod p.n (10 : Int)) + (10 : Int)) (10 : Int))) p.c))) => ?_) (fun (hc192 : ¬ ((max (0 : Int) (min p.c (0 : Int))) = (max (0 : Int) (min ((395 : Int) + (Int.tmod ((Int.tmod p.n (10 : Int)) + (10 : Int)) (10 : Int))) p.c)))) => ?_)
                        ·
                          refine exB_mk ⟨⟩ ?_
                          refine mustP (rfl) ?_
                          exact hK0
                        ·
                          first | (exfalso ; omega) | (exfalso ; simp_all ; done) | (exfalso ; simp_all ; omega)
                      ·
                        first | (exfalso ; omega) | (exfalso ; simp_all ; done) | (exfalso ; simp_all ; omega)
                    ·
                      first | (exfalso ; omega) | (exfalso ; simp_all ; done) | (exfalso ; simp_all ; omega)
                  ·
                    first | (exfalso ; omega) | (exfalso ; simp_all ; done) | (exfalso ; simp_all ; omega)
                ·
                  first | (exfalso ; omega) | (exfalso ; simp_all ; done) | (exfalso ; simp_all ; omega)
              ·
                have hc187l : 0 < (r13.o).length := List.length_pos_iff.2 hc187
                refine exB_mk r13.o ?_
                refine mustP (rfl) ?_
                refine mustP (show limP 104 (([] : List Int).length + r13.o.length) from (by (first | omega | (simp only [List.length_append, List.length_cons, List.length_nil, limP] ; omega) | (simp ; done) | (simp ; omega)))) ?_
                refine ifP (fun (hc193 : r11.ok = (min ((395 : Int) + (Int.tmod ((Int.tmod p.n (10 : Int)) + (10 : Int)) (10 : Int))) (400 : Int))) => ?_) (fun (hc193 : ¬ (r11.ok = (min ((395 : Int) + (Int.tmod ((Int.tmod p.n (10 : Int)) + (10 : Int)) (10 : Int))) (400 : Int)))) => ?_)
                ·
                  refine ifP (fun (hc194 : r11.com = r11.ok) => ?_) (fun (hc194 : ¬ (r11.com = r11.ok)) => ?_)
                  ·
                    refine ifP (fun (hc195 : ((395 : Int) + (Int.tmod ((Int.tmod p.n (10 : Int)) + (10 : Int)) (10 : Int))) ≤ (400 : Int)) => ?_) (fun (hc195 : ¬ (((395 : Int) + (Int.tmod ((Int.tmod p.n (10 : Int)) + (10 : Int)) (10 : Int))) ≤ (400 : Int))) => ?_)
                    ·
                      refine ifP (fun (hc196 : ((([] : List Int) ++ r13.o).length : Int) = ((395 : Int) + (Int.tmod ((Int.tmod p.n (10 : Int)) + (10 : Int)) (10 : Int)))) => ?_) (fun (hc196 : ¬ (((([] : List Int) ++ r13.o).length : Int) = ((395 : Int) + (Int.tmod ((Int.tmod p.n (10 : Int)) + (10 : Int)) (10 : Int))))) => ?_)
                      ·
                        refine ifP (fun (hc197 : (max (0 : Int) (min p.c ((([] : List Int) ++ r13.o).length : Int))) = (max (0 : Int) (min ((395 : Int) + (Int.tmod ((Int.tmod p.n (10 : Int)) + (10 : Int)) (10 : Int))) p.c))) => ?_) (fun (hc197 : ¬ ((max (0 : Int) (min p.c ((([] : List Int) ++ r13.o).length : Int))) = (max (0 : Int) (min ((395 : Int) + (Int.tmod ((Int.tmod p.n (10 : Int)) + (10 : Int)) (10 : Int))) p.c)))) => ?_)
                        ·
                          refine exB_mk ⟨⟩ ?_
                          refine mustP (rfl) ?_
                          exact hK0
                        ·
                          first | (exfalso ; omega) | (exfalso ; simp_all ; done) | (exfalso ; simp_all ; omega)
                      ·
                        first | (exfalso ; omega) | (exfalso ; simp_all ; done) | (exfalso ; simp_all ; omega)
                    ·
                      first | (exfalso ; omega) | (exfalso ; simp_all ; done) | (exfalso ; simp_all ; omega)
                  ·
                    first | (exfalso ; omega) | (exfalso ; simp_all ; done) | (exfalso ; simp_all ; omega)
                ·
                  first | (exfalso ; omega) | (exfalso ; simp_all ; done) | (exfalso ; simp_all ; omega)
            ·
              refine ifP (fun (hc198 : r11.ok = (min ((395 : Int) + (Int.tmod ((Int.tmod p.n (10 : Int)) + (10 : Int)) (10 : Int))) (400 : Int))) => ?_) (fun (hc198 : ¬ (r11.ok = (min ((395 : Int) + (Int.tmod ((Int.tmod p.n (10 : Int)) + (10 : Int)) (10 : Int))) (400 : Int)))) => ?_)
              ·
                refine ifP (fun (hc199 : r11.com = r11.ok) => ?_) (fun (hc199 : ¬ (r11.com = r11.ok)) => ?_)
                ·
                  refine ifP (fun (hc200 : ((395 : Int) + (Int.tmod ((Int.tmod p.n (10 : Int)) + (10 : Int)) (10 : Int))) ≤ (400 : Int)) => ?_) (fun (hc200 : ¬ (((395 : Int) + (Int.tmod ((Int.tmod p.n (10 : Int)) + (10 : Int)) (10 : Int))) ≤ (400 : Int))) => ?_)
                  ·
                    refine ifP (fun (hc201 : (0 : Int) = ((395 : Int) + (Int.tmod ((Int.tmod p.n (10 : Int)) + (10 : Int)) (10 : Int)))) => ?_) (fun (hc201 : ¬ ((0 : Int) = ((395 : Int) + (Int.tmod ((Int.tmod p.n (10 : Int)) + (10 : Int)) (10 : Int))))) => ?_)
                    ·
                      refine ifP (fun (hc202 : (max (0 : Int) (min p.c (0 : Int))) = (max (0 : Int) (min ((395 : Int) + (Int.tmod ((Int.tmod p.n (10 : Int)) + (10 : Int)) (10 : Int))) p.c))) => ?_) (fun (hc202 : ¬ ((max (0 : Int) (min p.c (0 : Int))) = (max (0 : Int) (min ((395 : Int) + (Int.tmod ((Int.tmod p.n (10 : Int)) + (10 : Int)) (10 : Int))) p.c)))) => ?_)
                      ·
                        refine exB_mk ⟨⟩ ?_
                        refine mustP (rfl) ?_
                        exact hK0
                      ·
                        first | (exfalso ; omega) | (exfalso ; simp_all ; done) | (exfalso ; simp_all ; omega)
                    ·
                      first | (exfalso ; omega) | (exfalso ; simp_all ; done) | (exfalso ; simp_all ; omega)
                  ·
                    first | (exfalso ; omega) | (exfalso ; simp_all ; done) | (exfalso ; simp_all ; omega)
                ·
                  first | (exfalso ; omega) | (exfalso ; simp_all ; done) | (exfalso ; simp_all ; omega)
              ·
                first | (exfalso ; omega) | (exfalso ; simp_all ; done) | (exfalso ; simp_all ; omega)
      ·
        refine mustP (rfl) ?_
        refine ifP (fun (hc203 : (0 : Int) < (0 : Int)) => ?_) (fun (hc203 : ¬ ((0 : Int) < (0 : Int))) => ?_)
        ·
          refine ifP (fun (hc204 : r11.ok = (min ((395 : Int) + (Int.tmod ((Int.tmod p.n (10 : Int)) + (10 : Int)) (10 : Int))) (400 : Int))) => ?_) (fun (hc204 : ¬ (r11.ok = (min ((395 : Int) + (Int.tmod ((Int.tmod p.n (10 : Int)) + (10 : Int)) (10 : Int))) (400 : Int)))) => ?_)
          ·
            refine ifP (fun (hc205 : r11.com = r11.ok) => ?_) (fun (hc205 : ¬ (r11.com = r11.ok)) => ?_)
            ·
              refine ifP (fun (hc206 : ((395 : Int) + (Int.tmod ((Int.tmod p.n (10 : Int)) + (10 : Int)) (10 : Int))) ≤ (400 : Int)) => ?_) (fun (hc206 : ¬ (((395 : Int) + (Int.tmod ((Int.tmod p.n (10 : Int)) + (10 : Int)) (10 : Int))) ≤ (400 : Int))) => ?_)
              ·
                first | (exfalso ; omega) | (exfalso ; simp_all ; done) | (exfalso ; simp_all ; omega)
              ·
                refine ifP (fun (hc207 : (0 : Int) = (0 : Int)) => ?_) (fun (hc207 : ¬ ((0 : Int) = (0 : Int))) => ?_)
                ·
                  refine exB_mk ⟨⟩ ?_
                  refine mustP (rfl) ?_
                  exact hK0
                ·
                  first | (exfalso ; omega) | (exfalso ; simp_all ; done) | (exfalso ; simp_all ; omega)
            ·
              first | (exfalso ; omega) | (exfalso ; simp_all ; done) | (exfalso ; simp_all ; omega)
          ·
            first | (exfalso ; omega) | (exfalso ; simp_all ; done) | (exfalso ; simp_all ; omega)
        ·
          refine ifP (fun (hc208 : (400 : Int) < (r12.v.length : Int)) => ?_) (fun (hc208 : ¬ ((400 : Int) < (r12.v.length : Int))) => ?_)
          ·
            refine ifP (fun (hc209 : r11.ok = (min ((395 : Int) + (Int.tmod ((Int.tmod p.n (10 : Int)) + (10 : Int)) (10 : Int))) (400 : Int))) => ?_) (fun (hc209 : ¬ (r11.ok = (min ((395 : Int) + (Int.tmod ((Int.tmod p.n (10 : Int)) + (10 : Int)) (10 : Int))) (400 : Int)))) => ?_)
            ·
              refine ifP (fun (hc210 : r11.com = r11.ok) => ?_) (fun (hc210 : ¬ (r11.com = r11.ok)) => ?_)
              ·
                refine ifP (fun (hc211 : ((395 : Int) + (Int.tmod ((Int.tmod p.n (10 : Int)) + (10 : Int)) (10 : Int))) ≤ (400 : Int)) => ?_) (fun (hc211 : ¬ (((395 : Int) + (Int.tmod ((Int.tmod p.n (10 : Int)) + (10 : Int)) (10 : Int))) ≤ (400 : Int))) => ?_)
                ·
                  first | (exfalso ; omega) | (exfalso ; simp_all ; done) | (exfalso ; simp_all ; omega)
                ·
                  refine ifP (fun (hc212 : (0 : Int) = (0 : Int)) => ?_) (fun (hc212 : ¬ ((0 : Int) = (0 : Int))) => ?_)
                  ·
                    refine exB_mk ⟨⟩ ?_
                    refine mustP (rfl) ?_
                    exact hK0
                  ·
                    first | (exfalso ; omega) | (exfalso ; simp_all ; done) | (exfalso ; simp_all ; omega)
              ·
                first | (exfalso ; omega) | (exfalso ; simp_all ; done) | (exfalso ; simp_all ; omega)
            ·
              first | (exfalso ; omega) | (exfalso ; simp_all ; done) | (exfalso ; simp_all ; omega)
          ·
            refine mustP (show InR 0 ((0 : Int) - (0 : Int)) from (by simp only [InR] ; omega)) ?_
            refine ifP (fun (hc213 : ((0 : Int) - (0 : Int)) < (r12.v.length : Int)) => ?_) (fun (hc213 : ¬ (((0 : Int) - (0 : Int)) < (r12.v.length : Int))) => ?_)
            ·
              refine mustP (show r12.v.length = r12.v.length ∧ 0 ≤ ((0 : Int) - (0 : Int)) ∧ ((0 : Int) - (0 : Int)) ≤ (r12.v.length : Int) ∧ (r12.v.length : Int) ≤ (r12.v.length : Int) from (by (first | omega | (simp only [List.length_append, List.length_cons, List.length_nil, limP] ; omega) | (simp ; done) | (simp ; omega)))) ?_
              refine exB_mk (⟨r12.v, ((0 : Int) - (0 : Int)).toNat, r12.v.length - (((0 : Int) - (0 : Int)).toNat)⟩ : A_clones_psub) ?_
              refine mustP (rfl) ?_
              refine mustP (show (((0 : Int) - (0 : Int)).toNat) + (r12.v.length - (((0 : Int) - (0 : Int)).toNat)) ≤ r12.v.length ∧ (r12.v.length - (((0 : Int) - (0 : Int)).toNat)) ≤ 1000000 from by omega) ?_
              refine allB_mk (fun r14 => ?_)
              refine ifP (fun (hi214 : r14.o = (r12.v.drop (((0 : Int) - (0 : Int)).toNat)).take (r12.v.length - (((0 : Int) - (0 : Int)).toNat)) ∧ r14.o.length = (r12.v.length - (((0 : Int) - (0 : Int)).toNat))) => ?_) (fun _ => rfl)
              refine mustP (rfl) ?_
              refine mustP (show r14.o.length = r14.o.length from (by (first | omega | (simp only [List.length_append, List.length_cons, List.length_nil, limP] ; omega) | (simp ; done) | (simp ; omega)))) ?_
              refine mustP (rfl) ?_
              refine ifP (fun (hc215 : r14.o = []) => ?_) (fun (hc215 : ¬ (r14.o = [])) => ?_)
              ·
                have hc215l : (r14.o).length = 0 := (by rw [hc215] ; rfl)
                refine ifP (fun (hc216 : r11.ok = (min ((395 : Int) + (Int.tmod ((Int.tmod p.n (10 : Int)) + (10 : Int)) (10 : Int))) (400 : Int))) => ?_) (fun (hc216 : ¬ (r11.ok = (min ((395 : Int) + (Int.tmod ((Int.tmod p.n (10 : Int)) + (10 : Int)) (10 : Int))) (400 : Int)))) => ?_)
                ·
                  refine ifP (fun (hc217 : r11.com = r11.ok) => ?_) (fun (hc217 : ¬ (r11.com = r11.ok)) => ?_)
                  ·
                    refine ifP (fun (hc218 : ((395 : Int) + (Int.tmod ((Int.tmod p.n (10 : Int)) + (10 : Int)) (10 : Int))) ≤ (400 : Int)) => ?_) (fun (hc218 : ¬ (((395 : Int) + (Int.tmod ((Int.tmod p.n (10 : Int)) + (10 : Int)) (10 : Int))) ≤ (400 : Int))) => ?_)
                    ·
                      refine ifP (fun (hc219 : (0 : Int) = ((395 : Int) + (Int.tmod ((Int.tmod p.n (10 : Int)) + (10 : Int)) (10 : Int)))) => ?_) (fun (hc219 : ¬ ((0 : Int) = ((395 : Int) + (Int.tmod ((Int.tmod p.n (10 : Int)) + (10 : Int)) (10 : Int))))) => ?_)
                      ·
                        refine ifP (fun (hc220 : (max (0 : Int) (min p.c (0 : Int))) = (max (0 : Int) (min ((395 : Int) + (Int.tmod ((Int.tmod p.n (10 : Int)) + (10 : Int)) (10 : Int))) p.c))) => ?_) (fun (hc220 : ¬ ((max (0 : Int) (min p.c (0 : Int))) = (max (0 : Int) (min ((395 : Int) + (Int.tmod ((Int.tmod p.n (10 : Int)) + (10 : Int)) (10 : Int))) p.c)))) => ?_)
                        ·
                          refine exB_mk ⟨⟩ ?_
                          refine mustP (rfl) ?_
                          exact hK0
                        ·
                          first | (exfalso ; omega) | (exfalso ; simp_all ; done) | (exfalso ; simp_all ; omega)
                      ·
                        first | (exfalso ; omega) | (exfalso ; simp_all ; done) | (exfalso ; simp_all ; omega)
                    ·
                      first | (exfalso ; omega) | (exfalso ; simp_all ; done) | (exfalso ; simp_all ; omega)
                  ·
                    first | (exfalso ; omega) | (exfalso ; simp_all ; done) | (exfalso ; simp_all ; omega)
                ·
                  first | (exfalso ; omega) | (exfalso ; simp_all ; done) | (exfalso ; simp_all ; omega)
              ·
                have hc215l : 0 < (r14.o).length := List.length_pos_iff.2 hc215
                refine exB_mk r14.o ?_
                refine mustP (rfl) ?_
                refine mustP (show limP 104 (([] : List Int).length + r14.o.length) from (by (first | omega | (simp only [List.length_append, List.length_cons, List.length_nil, limP] ; omega) | (simp ; done) | (simp ; omega)))) ?_
                refine ifP (fun (hc221 : r11.ok = (min ((395 : Int) + (Int.tmod ((Int.tmod p.n (10 : Int)) + (10 : Int)) (10 : Int))) (400 : Int))) => ?_) (fun (hc221 : ¬ (r11.ok = (min ((395 : Int) + (Int.tmod ((Int.tmod p.n (10 : Int)) + (10 : Int)) (10 : Int))) (400 : Int)))) => ?_)
                ·
                  refine ifP (fun (hc222 : r11.com = r11.ok) => ?_) (fun (hc222 : ¬ (r11.com = r11.ok)) => ?_)
                  ·
                    refine ifP (fun (hc223 : ((395 : Int) + (Int.tmod ((Int.tmod p.n (10 : Int)) + (10 : Int)) (10 : Int))) ≤ (400 : Int)) => ?_) (fun (hc223 : ¬ (((395 : Int) + (Int.tmod ((Int.tmod p.n (10 : Int)) + (10 : Int)) (10 : Int))) ≤ (400 : Int))) => ?_)
                    ·
                      refine ifP (fun (hc224 : ((([] : List Int) ++ r14.o).length : Int) = ((395 : Int) + (Int.tmod ((Int.tmod p.n (10 : Int)) + (10 : Int)) (10 : Int)))) => ?_) (fun (hc224 : ¬ (((([] : List Int) ++ r14.o).length : Int) = ((395 : Int) + (Int.tmod ((Int.tmod p.n (10 : Int)) + (10 : Int)) (10 : Int))))) => ?_)
                      ·
                        refine ifP (fun (hc225 : (max (0 : Int) (min p.c ((([] : List Int) ++ r14.o).length : Int))) = (max (0 : Int) (min ((395 : Int) + (Int.tmod ((Int.tmod p.n (10 : Int)) + (10 : Int)) (10 : Int))) p.c))) => ?_) (fun (hc225 : ¬ ((max (0 : Int) (min p.c ((([] : List Int) ++ r14.o).length : Int))) = (max (0 : Int) (min ((395 : Int) + (Int.tmod ((Int.tmod p.n (10 : Int)) + (10 : Int)) (10 : Int))) p.c)))) => ?_)
                        ·
                          refine exB_mk ⟨⟩ ?_
                          refine mustP (rfl) ?_
                          exact hK0
                        ·
                          first | (exfalso ; omega) | (exfalso ; simp_all ; done) | (exfalso ; simp_all ; omega)
                      ·
                        first | (exfalso ; omega) | (exfalso ; simp_all ; done) | (exfalso ; simp_all ; omega)
                    ·
                      first | (exfalso ; omega) | (exfalso ; simp_all ; done) | (exfalso ; simp_all ; omega)
                  ·
                    first | (exfalso ; omega) | (exfalso ; simp_all ; done) | (exfalso ; simp_all ; omega)
                ·
                  first | (exfalso ; omega) | (exfalso ; simp_all ; done) | (exfalso ; simp_all ; omega)
            ·
              refine ifP (fun (hc226 : r11.ok = (min ((395 : Int) + (Int.tmod ((Int.tmod p.n (10 : Int)) + (10 : Int)) (10 : Int))) (400 : Int))) => ?_) (fun (hc226 : ¬ (r11.ok = (min ((395 : Int) + (Int.tmod ((Int.tmod p.n (10 : Int)) + (10 : Int)) (10 : Int))) (400 : Int)))) => ?_)
              ·
                refine ifP (fun (hc227 : r11.com = r11.ok) => ?_) (fun (hc227 : ¬ (r11.com = r11.ok)) => ?_)
                ·
                  refine ifP (fun (hc228 : ((395 : Int) + (Int.tmod ((Int.tmod p.n (10 : Int)) + (10 : Int)) (10 : Int))) ≤ (400 : Int)) => ?_) (fun (hc228 : ¬ (((395 : Int) + (Int.tmod ((Int.tmod p.n (10 : Int)) + (10 : Int)) (10 : Int))) ≤ (400 : Int))) => ?_)
                  ·
                    refine ifP (fun (hc229 : (0 : Int) = ((395 : Int) + (Int.tmod ((Int.tmod p.n (10 : Int)) + (10 : Int)) (10 : Int)))) => ?_) (fun (hc229 : ¬ ((0 : Int) = ((395 : Int) + (Int.tmod ((Int.tmod p.n (10 : Int)) + (10 : Int)) (10 : Int))))) => ?_)
                    ·
                      refine ifP (fun (hc230 : (max (0 : Int) (min p.c (0 : Int))) = (max (0 : Int) (min ((395 : Int) + (Int.tmod ((Int.tmod p.n (10 : Int)) + (10 : Int)) (10 : Int))) p.c))) => ?_) (fun (hc230 : ¬ ((max (0 : Int) (min p.c (0 : Int))) = (max (0 : Int) (min ((395 : Int) + (Int.tmod ((Int.tmod p.n (10 : Int)) + (10 : Int)) (10 : Int))) p.c)))) => ?_)
                      ·
                        refine exB_mk ⟨⟩ ?_
                        refine mustP (rfl) ?_
                        exact hK0
                      ·
                        first | (exfalso ; omega) | (exfalso ; simp_all ; done) | (exfalso ; simp_all ; omega)
                    ·
                      first | (exfalso ; omega) | (exfalso ; simp_all ; done) | (exfalso ; simp_all ; omega)
                  ·
                    first | (exfalso ; omega) | (exfalso ; simp_all ; done) | (exfalso ; simp_all ; omega)
                ·
                  first | (exfalso ; omega) | (exfalso ; simp_all ; done) | (exfalso ; simp_all ; omega)
              ·
                first | (exfalso ; omega) | (exfalso ; simp_all ; done) | (exfalso ; simp_all ; omega)
    ·
      refine mustP (rfl) ?_
      refine ifP (fun (hc231 : (0 : Int) < (0 : Int)) => ?_) (fun (hc231 : ¬ ((0 : Int) < (0 : Int))) => ?_)
      ·
        refine ifP (fun (hc232 : r11.ok = (min ((395 : Int) + (Int.tmod ((Int.tmod p.n (10 : Int)) + (10 : Int)) (10 : Int))) (400 : Int))) => ?_) (fun (hc232 : ¬ (r11.ok = (min ((395 : Int) + (Int.tmod ((Int.tmod p.n (10 : Int)) + (10 : Int)) (10 : Int))) (400 : Int)))) => ?_)
        ·
          refine ifP (fun (hc233 : r11.com = r11.ok) => ?_) (fun (hc233 : ¬ (r11.com = r11.ok)) => ?_)
          ·
            refine ifP (fun (hc234 : ((395 : Int) + (Int.tmod ((Int.tmod p.n (10 : Int)) + (10 : Int)) (10 : Int))) ≤ (400 : Int)) => ?_) (fun (hc234 : ¬ (((395 : Int) + (Int.tmod ((Int.tmod p.n (10 : Int)) + (10 : Int)) (10 : Int))) ≤ (400 : Int))) => ?_)
            ·
              first | (exfalso ; omega) | (exfalso ; simp_all ; done) | (exfalso ; simp_all ; omega)
            ·
              refine ifP (fun (hc235 : (0 : Int) = (0 : Int)) => ?_) (fun (hc235 : ¬ ((0 : Int) = (0 : Int))) => ?_)
              ·
                refine exB_mk ⟨⟩ ?_
                refine mustP (rfl) ?_
                exact hK0
              ·
                first | (exfalso ; omega) | (exfalso ; simp_all ; done) | (exfalso ; simp_all ; omega)
          ·
            first | (exfalso ; omega) | (exfalso ; simp_all ; done) | (exfalso ; simp_all ; omega)
        ·
          first | (exfalso ; omega) | (exfalso ; simp_all ; done) | (exfalso ; simp_all ; omega)
      ·
        refine ifP (fun (hc236 : (400 : Int) < (r12.v.length : Int)) => ?_) (fun (hc236 : ¬ ((400 : Int) < (r12.v.length : Int))) => ?_)
        ·
          refine ifP (fun (hc237 : r11.ok = (min ((395 : Int) + (Int.tmod ((Int.tmod p.n (10 : Int)) + (10 : Int)) (10 : Int))) (400 : Int))) => ?_) (fun (hc237 : ¬ (r11.ok = (min ((395 : Int) + (Int.tmod ((Int.tmod p.n (10 : Int)) + (10 : Int)) (10 : Int))) (400 : Int)))) => ?_)
          ·
            refine ifP (fun (hc238 : r11.com = r11.ok) => ?_) (fun (hc238 : ¬ (r11.com = r11.ok)) => ?_)
            ·
              refine ifP (fun (hc239 : ((395 : Int) + (Int.tmod ((Int.tmod p.n (10 : Int)) + (10 : Int)) (10 : Int))) ≤ (400 : Int)) => ?_) (fun (hc239 : ¬ (((395 : Int) + (Int.tmod ((Int.tmod p.n (10 : Int)) + (10 : Int)) (10 : Int))) ≤ (400 : Int))) => ?_)
              ·
                first | (exfalso ; omega) | (exfalso ; simp_all ; done) | (exfalso ; simp_all ; omega)
              ·
                refine ifP (fun (hc240 : (0 : Int) = (0 : Int)) => ?_) (fun (hc240 : ¬ ((0 : Int) = (0 : Int))) => ?_)
                ·
                  refine exB_mk ⟨⟩ ?_
                  refine mustP (rfl) ?_
                  exact hK0
                ·
                  first | (exfalso ; omega) | (exfalso ; simp_all ; done) | (exfalso ; simp_all ; omega)
            ·
              first | (exfalso ; omega) | (exfalso ; simp_all ; done) | (exfalso ; simp_all ; omega)
          ·
            first | (exfalso ; omega) | (exfalso ; simp_all ; done) | (exfalso ; simp_all ; omega)
        ·
          refine mustP (show InR 0 ((0 : Int) - (0 : Int)) from (by simp only [InR] ; omega)) ?_
          refine ifP (fun (hc241 : ((0 : Int) - (0 : Int)) < (r12.v.length : Int)) => ?_) (fun (hc241 : ¬ (((0 : Int) - (0 : Int)) < (r12.v.length : Int))) => ?_)
          ·
            refine mustP (show r12.v.length = r12.v.length ∧ 0 ≤ ((0 : Int) - (0 : Int)) ∧ ((0 : Int) - (0 : Int)) ≤ (r12.v.length : Int) ∧ (r12.v.length : Int) ≤ (r12.v.length : Int) from (by (first | omega | (simp only [List.length_append, List.length_cons, List.length_nil, limP] ; omega) | (simp ; done) | (simp ; omega)))) ?_
            refine exB_mk (⟨r12.v, ((0 : Int) - (0 : Int)).toNat, r12.v.length - (((0 : Int) - (0 : Int)).toNat)⟩ : A_clones_psub) ?_
            refine mustP (rfl) ?_
            refine mustP (show (((0 : Int) - (0 : Int)).toNat) + (r12.v.length - (((0 : Int) - (0 : Int)).toNat)) ≤ r12.v.length ∧ (r12.v.length - (((0 : Int) - (0 : Int)).toNat)) ≤ 1000000 from by omega) ?_
            refine allB_mk (fun r15 => ?_)
            refine ifP (fun (hi242 : r15.o = (r12.v.drop (((0 : Int) - (0 : Int)).toNat)).take (r12.v.length - (((0 : Int) - (0 : Int)).toNat)) ∧ r15.o.length = (r12.v.length - (((0 : Int) - (0 : Int)).toNat))) => ?_) (fun _ => rfl)
            refine mustP (rfl) ?_
            refine mustP (show r15.o.length = r15.o.length from (by (first | omega | (simp only [List.length_append, List.length_cons, List.length_nil, limP] ; omega) | (simp ; done) | (simp ; omega)))) ?_
            refine mustP (rfl) ?_
            refine ifP (fun (hc243 : r15.o = []) => ?_) (fun (hc243 : ¬ (r15.o = [])) => ?_)
            ·
              have hc243l : (r15.o).length = 0 := (by rw [hc243] ; rfl)
              refine ifP (fun (hc244 : r11.ok = (min ((395 : Int) + (Int.tmod ((Int.tmod p.n (10 : Int)) + (10 : Int)) (10 : Int))) (400 : Int))) => ?_) (fun (hc244 : ¬ (r11.ok = (min ((395 : Int) + (Int.tmod ((Int.tmod p.n (10 : Int)) + (10 : Int)) (10 : Int))) (400 : Int)))) => ?_)
              ·
                refine ifP (fun (hc245 : r11.com = r11.ok) => ?_) (fun (hc245 : ¬ (r11.com = r11.ok)) => ?_)
                ·
                  refine ifP (fun (hc246 : ((395 : Int) + (Int.tmod ((Int.tmod p.n (10 : Int)) + (10 : Int)) (10 : Int))) ≤ (400 : Int)) => ?_) (fun (hc246 : ¬ (((395 : Int) + (Int.tmod ((Int.tmod p.n (10 : Int)) + (10 : Int)) (10 : Int))) ≤ (400 : Int))) => ?_)
                  ·
                    refine ifP (fun (hc247 : (0 : Int) = ((395 : Int) + (Int.tmod ((Int.tmod p.n (10 : Int)) + (10 : Int)) (10 : Int)))) => ?_) (fun (hc247 : ¬ ((0 : Int) = ((395 : Int) + (Int.tmod ((Int.tmod p.n (10 : Int)) + (10 : Int)) (10 : Int))))) => ?_)
                    ·
                      refine ifP (fun (hc248 : (max (0 : Int) (min p.c (0 : Int))) = (max (0 : Int) (min ((395 : Int) + (Int.tmod ((Int.tmod p.n (10 : Int)) + (10 : Int)) (10 : Int))) p.c))) => ?_) (fun (hc248 : ¬ ((max (0 : Int) (min p.c (0 : Int))) = (max (0 : Int) (min ((395 : Int) + (Int.tmod ((Int.tmod p.n (10 : Int)) + (10 : Int)) (10 : Int))) p.c)))) => ?_)
                      ·
                        refine exB_mk ⟨⟩ ?_
                        refine mustP (rfl) ?_
                        exact hK0
                      ·
                        first | (exfalso ; omega) | (exfalso ; simp_all ; done) | (exfalso ; simp_all ; omega)
                    ·
                      first | (exfalso ; omega) | (exfalso ; simp_all ; done) | (exfalso ; simp_all ; omega)
                  ·
                    first | (exfalso ; omega) | (exfalso ; simp_all ; done) | (exfalso ; simp_all ; omega)
                ·
                  first | (exfalso ; omega) | (exfalso ; simp_all ; done) | (exfalso ; simp_all ; omega)
              ·
                first | (exfalso ; omega) | (exfalso ; simp_all ; done) | (exfalso ; simp_all ; omega)
            ·
              have hc243l : 0 < (r15.o).length := List.length_pos_iff.2 hc243
              refine exB_mk r15.o ?_
              refine mustP (rfl) ?_
              refine mustP (show limP 104 (([] : List Int).length + r15.o.length) from (by (first | omega | (simp only [List.length_append, List.length_cons, List.length_nil, limP] ; omega) | (simp ; done) | (simp ; omega)))) ?_
              refine ifP (fun (hc249 : r11.ok = (min ((395 : Int) + (Int.tmod ((Int.tmod p.n (10 : Int)) + (10 : Int)) (10 : Int))) (400 : Int))) => ?_) (fun (hc249 : ¬ (r11.ok = (min ((395 : Int) + (Int.tmod ((Int.tmod p.n (10 : Int)) + (10 : Int)) (10 : Int))) (400 : Int)))) => ?_)
              ·
                refine ifP (fun (hc250 : r11.com = r11.ok) => ?_) (fun (hc250 : ¬ (r11.com = r11.ok)) => ?_)
                ·
                  refine ifP (fun (hc251 : ((395 : Int) + (Int.tmod ((Int.tmod p.n (10 : Int)) + (10 : Int)) (10 : Int))) ≤ (400 : Int)) => ?_) (fun (hc251 : ¬ (((395 : Int) + (Int.tmod ((Int.tmod p.n (10 : Int)) + (10 : Int)) (10 : Int))) ≤ (400 : Int))) => ?_)
                  ·
                    refine ifP (fun (hc252 : ((([] : List Int) ++ r15.o).length : Int) = ((395 : Int) + (Int.tmod ((Int.tmod p.n (10 : Int)) + (10 : Int)) (10 : Int)))) => ?_) (fun (hc252 : ¬ (((([] : List Int) ++ r15.o).length : Int) = ((395 : Int) + (Int.tmod ((Int.tmod p.n (10 : Int)) + (10 : Int)) (10 : Int))))) => ?_)
                    ·
                      refine ifP (fun (hc253 : (max (0 : Int) (min p.c ((([] : List Int) ++ r15.o).length : Int))) = (max (0 : Int) (min ((395 : Int) + (Int.tmod ((Int.tmod p.n (10 : Int)) + (10 : Int)) (10 : Int))) p.c))) => ?_) (fun (hc253 : ¬ ((max (0 : Int) (min p.c ((([] : List Int) ++ r15.o).length : Int))) = (max (0 : Int) (min ((395 : Int) + (Int.tmod ((Int.tmod p.n (10 : Int)) + (10 : Int)) (10 : Int))) p.c)))) => ?_)
                      ·
                        refine exB_mk ⟨⟩ ?_
                        refine mustP (rfl) ?_
                        exact hK0
                      ·
                        first | (exfalso ; omega) | (exfalso ; simp_all ; done) | (exfalso ; simp_all ; omega)
                    ·
                      first | (exfalso ; omega) | (exfalso ; simp_all ; done) | (exfalso ; simp_all ; omega)
                  ·
                    first | (exfalso ; omega) | (exfalso ; simp_all ; done) | (exfalso ; simp_all ; omega)
                ·
                  first | (exfalso ; omega) | (exfalso ; simp_all ; done) | (exfalso ; simp_all ; omega)
              ·
                first | (exfalso ; omega) | (exfalso ; simp_all ; done) | (exfalso ; simp_all ; omega)
          ·
            refine ifP (fun (hc254 : r11.ok = (min ((395 : Int) + (Int.tmod ((Int.tmod p.n (10 : Int)) + (10 : Int)) (10 : Int))) (400 : Int))) => ?_) (fun (hc254 : ¬ (r11.ok = (min ((395 : Int) + (Int.tmod ((Int.tmod p.n (10 : Int)) + (10 : Int)) (10 : Int))) (400 : Int)))) => ?_)
            ·
              refine ifP (fun (hc255 : r11.com = r11.ok) => ?_) (fun (hc255 : ¬ (r11.com = r11.ok)) => ?_)
              ·
                refine ifP (fun (hc256 : ((395 : Int) + (Int.tmod ((Int.tmod p.n (10 : Int)) + (10 : Int)) (10 : Int))) ≤ (400 : Int)) => ?_) (fun (hc256 : ¬ (((395 : Int) + (Int.tmod ((Int.tmod p.n (10 : Int)) + (10 : Int)) (10 : Int))) ≤ (400 : Int))) => ?_)
                ·
                  refine ifP (fun (hc257 : (0 : Int) = ((395 : Int) + (Int.tmod ((Int.tmod p.n (10 : Int)) + (10 : Int)) (10 : Int)))) => ?_) (fun (hc257 : ¬ ((0 : Int) = ((395 : Int) + (Int.tmod ((Int.tmod p.n (10 : Int)) + (10 : Int)) (10 : Int))))) => ?_)
                  ·
                    refine ifP (fun (hc258 : (max (0 : Int) (min p.c (0 : Int))) = (max (0 : Int) (min ((395 : Int) + (Int.tmod ((Int.tmod p.n (10 : Int)) + (10 : Int)) (10 : Int))) p.c))) => ?_) (fun (hc258 : ¬ ((max (0 : Int) (min p.c (0 : Int))) = (max (0 : Int) (min ((395 : Int) + (Int.tmod ((Int.tmod p.n (10 : Int)) + (10 : Int)) (10 : Int))) p.c)))) => ?_)
                    ·
                      refine exB_mk ⟨⟩ ?_
                      refine mustP (rfl) ?_
                      exact hK0
                    ·
                      first | (exfalso ; omega) | (exfalso ; simp_all ; done) | (exfalso ; simp_all ; omega)
                  ·
                    first | (exfalso ; omega) | (exfalso ; simp_all ; done) | (exfalso ; simp_all ; omega)
                ·
                  first | (exfalso ; omega) | (exfalso ; simp_all ; done) | (exfalso ; simp_all ; omega)
              ·
                first | (exfalso ; omega) | (exfalso ; simp_all ; done) | (exfalso ; simp_all ; omega)
            ·
              first | (exfalso ; omega) | (exfalso ; simp_all ; done) | (exfalso ; simp_all ; omega)
noncomputable def es_bounds : SpecE := fun us M nx K => exB fun p : A_bounds => must (prB ((us, M, nx) = I_bounds p)) (out_bounds p K)
theorem na_bounds : NatE Try.prog 3 0 es_bounds := by
  refine natE_of (xf := ft_bounds) (lp := lp_bounds) (lf := 600) tb_mix (callX_ok (lp := noLp) (lf := 600) tb_mix tb_all nat_clones_imm_ok 40) ft_bounds_ok (by rfl) (fun b j x h => (mem_step lo_b0 (fun h => (mem_step lo_b1 (fun h => (by cases h)) h)) h)) (fun us M nx K h => ?_)
  obtain ⟨p, h⟩ := exB_ok h
  obtain ⟨e, h9⟩ := mustP_ok h
  clear h
  have e1 : us = (I_bounds p).1 := congrArg Prod.fst e
  have e2 : M = (I_bounds p).2.1 := congrArg (fun x => x.2.1) e
  have e3 : nx = (I_bounds p).2.2 := congrArg (fun x => x.2.2) e
  subst e1; subst e2; subst e3
  exact vf_bounds p K h9
noncomputable def nat_bounds (f : Nat) (vs : List AV) : Option ES := Bool.rec (nat_clones_imm f vs) (some (.mk 0 es_bounds)) (hasS f 3 vs [])
theorem nat_bounds_ok : ∀ f vs k sp, nat_bounds f vs = some (.mk k sp) → NatE Try.prog f k sp := fun f vs k sp h => nat_step na_bounds (nat_clones_imm_ok f vs k sp) h
end Go.Proofs.Try
