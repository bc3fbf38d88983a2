/-
  The given law FnExactEqualOrders holds for every input: it returns true, and its arguments read behind the call as they read before. No conditions.
-/
import Derived.Test.YtocgmaekciphcaaRows
import Derived.Test.YtocgmaekciphcaaAm37
import Derived.ProofKit
namespace Go.Am
open Go.ChangeShapes Go.WideShapes Go.ChangeAt Go.RowKit
open Go.Proofs (Try.prog)
def c9 : FB := ⟨2, 12, [(4, none)], (.seq (.rg [o 2 (.bx (some 2) (.t 0)), o 4 (.mv (.n 0))]) (.seq (.rg [o 5 (.fa 1 (.t 2)), o 6 (.ld none (.t 5)), o 7 (.mv (.t 1)), o 8 (.ca (.k (.cl 40 [])) [.t 6, .t 7]), o 1 (.mv (.t 8))]) (.seq (.seq (.rg [o 9 (.mv (.t 1)), o 10 (.bi .lss (.t 9) (.n 0))]) (.cond (.t 10) (.seq (.rg [o 4 (.mv (.n (-1)))]) .ret) .skip)) (.seq (.rg [o 11 (.mv (.t 1)), o 4 (.mv (.t 11))]) .ret))))⟩
def c11 : FB := ⟨1, 12, [(2, some (some 2))], (.seq (.rg [o 1 (.bx (some 2) (.t 0)), o 2 (.al (.st [.im (.int .i64 0), .e0]) (some 2))]) (.seq (.rg [o 3 (.al (.st [.im (.int .i64 0), .e0]) (some 2))]) (.seq (.rg [o 4 (.fa 0 (.t 1)), o 5 (.ld none (.t 4)), o 6 (.fa 0 (.t 3)), oo (.so none (.t 6) (.t 5))]) (.seq (.rg [o 7 (.fa 1 (.t 1)), o 8 (.ld none (.t 7)), o 9 (.ca (.k (.cl 41 [])) [.t 8]), o 10 (.fa 1 (.t 3)), oo (.so none (.t 10) (.t 9))]) (.seq (.rg [o 11 (.ld (some 2) (.t 3)), oo (.so (some 2) (.t 2) (.t 11))]) .ret)))))⟩
def c12 : FB := ⟨2, 17, [(4, none)], (.seq (.rg [o 2 (.bx (some 2) (.t 0)), o 3 (.bx (some 2) (.t 1)), o 4 (.mv (.k (.im (.bool false))))]) (.seq (.rg [o 5 (.fa 0 (.t 2)), o 6 (.ld none (.t 5)), o 7 (.fa 0 (.t 3)), o 8 (.ld none (.t 7)), o 9 (.bi .eql (.t 6) (.t 8)), o 10 (.mv (.t 9)), og 11 10 true (.fa 1 (.t 2)), og 12 10 true (.ld none (.t 11)), og 13 10 true (.fa 1 (.t 3)), og 14 10 true (.ld none (.t 13)), og 15 10 true (.ca (.k (.cl 42 [])) [.t 12, .t 14, .k (.cl 43 [])]), o 16 (.pk (.t 10) (.t 15) (.k (.im (.bool false)))), o 4 (.mv (.t 16))]) .ret))⟩
def c13 : FB := ⟨2, 16, [(4, none)], (.seq (.rg [o 2 (.bx (some 2) (.t 0)), o 3 (.bx (some 2) (.t 1)), o 4 (.mv (.k (.im (.bool false))))]) (.seq (.seq (.rg [o 5 (.fa 0 (.t 2)), o 6 (.ld none (.t 5)), o 7 (.fa 0 (.t 3)), o 8 (.ld none (.t 7)), o 9 (.bi .neq (.t 6) (.t 8))]) (.cond (.t 9) (.seq (.rg [o 4 (.mv (.k (.im (.bool false))))]) .ret) .skip)) (.seq (.seq (.rg [o 10 (.fa 1 (.t 2)), o 11 (.ld none (.t 10)), o 12 (.fa 1 (.t 3)), o 13 (.ld none (.t 12)), o 14 (.ca (.k (.cl 45 [])) [.t 11, .t 13]), o 15 (.un .not (.t 14))]) (.cond (.t 15) (.seq (.rg [o 4 (.mv (.k (.im (.bool false))))]) .ret) .skip)) (.seq (.rg [o 4 (.mv (.k (.im (.bool true))))]) .ret))))⟩
def c40 : FB := ⟨2, 27, [(4, none)], (.seq (.rg [o 4 (.mv (.n 0))]) (.seq (.rg [o 6 (.mv (.t 1)), o 7 (.mv (.t 0)), o 8 (.ln (.t 7)), o 9 (.bi .sub (.t 6) (.t 8)), o 1 (.mv (.t 9))]) (.seq (.seq (.rg [o 10 (.mv (.t 1)), o 11 (.bi .lss (.t 10) (.n 0))]) (.cond (.t 11) (.seq (.rg [o 4 (.mv (.n (-1)))]) .ret) .skip)) (.seq (.seq (.rg [o 5 (.mv (.n 0))]) (.blk 0 (.lp (.nm [0, 1, 5] (.seq (.seq (.rg [o 12 (.mv (.t 5)), o 13 (.mv (.t 0)), o 14 (.ln (.t 13)), o 15 (.bi .lss (.t 12) (.t 14))]) (.cond (.t 15) .skip (.ex 0))) (.seq (.blk 1 (.seq (.rg [o 18 (.mv (.t 0)), o 19 (.mv (.t 5)), o 20 (.ia none (.t 18) (.t 19)), o 21 (.ld none (.t 20)), o 22 (.mv (.t 1)), o 23 (.ca (.k (.cl 69 [])) [.t 21, .t 22]), o 1 (.mv (.t 23))]) (.seq (.rg [o 24 (.mv (.t 1)), o 25 (.bi .lss (.t 24) (.n 0))]) (.cond (.t 25) (.seq (.rg [o 4 (.mv (.n (-1)))]) .ret) .skip)))) (.rg [o 16 (.mv (.t 5)), o 17 (.bi .add (.t 16) (.n 1)), o 5 (.mv (.t 17))]))))))) (.seq (.rg [o 26 (.mv (.t 1)), o 4 (.mv (.t 26))]) .ret)))))⟩
def c41 : FB := ⟨1, 23, [(2, none)], (.seq (.rg [o 2 (.mv (.k .e0))]) (.seq (.rg [o 5 (.mv (.t 0)), o 6 (.ln (.t 5)), o 7 (.ms .e0 none (.t 6) (.t 6)), o 3 (.mv (.t 7))]) (.seq (.seq (.rg [o 4 (.mv (.n 0))]) (.blk 0 (.lp (.nm [0, 3, 4] (.seq (.seq (.rg [o 8 (.mv (.t 4)), o 9 (.mv (.t 0)), o 10 (.ln (.t 9)), o 11 (.bi .lss (.t 8) (.t 10))]) (.cond (.t 11) .skip (.ex 0))) (.seq (.blk 1 (.rg [o 14 (.mv (.t 3)), o 15 (.mv (.t 4)), o 16 (.mv (.t 0)), o 17 (.mv (.t 4)), o 18 (.ia none (.t 16) (.t 17)), o 19 (.ld none (.t 18)), o 20 (.ca (.k (.cl 70 [])) [.t 19]), o 21 (.ia none (.t 14) (.t 15)), oo (.so none (.t 21) (.t 20))])) (.rg [o 12 (.mv (.t 4)), o 13 (.bi .add (.t 12) (.n 1)), o 4 (.mv (.t 13))]))))))) (.seq (.rg [o 22 (.mv (.t 3)), o 2 (.mv (.t 22))]) .ret))))⟩
def c42 : FB := ⟨3, 32, [(6, none)], (.seq (.rg [o 6 (.mv (.k (.im (.bool false))))]) (.seq (.seq (.rg [o 10 (.mv (.t 0)), o 11 (.ln (.t 10)), o 12 (.mv (.t 1)), o 13 (.ln (.t 12)), o 14 (.bi .neq (.t 11) (.t 13))]) (.cond (.t 14) (.seq (.rg [o 6 (.mv (.k (.im (.bool false))))]) .ret) .skip)) (.seq (.seq (.rg [o 15 (.mv (.t 0)), o 16 (.ln (.t 15)), o 17 (.mv (.n 0))]) (.blk 0 (.lp (.nm [1, 2, 15, 16, 17] (.seq (.rg [o 18 (.bi .lss (.t 17) (.t 16))]) (.seq (.cond (.t 18) .skip (.ex 0)) (.seq (.blk 1 (.seq (.rg [o 19 (.mv (.t 17)), o 20 (.ia none (.t 15) (.t 17)), o 21 (.ld none (.t 20)), o 7 (.mv (.t 19)), o 8 (.mv (.t 21))]) (.seq (.rg [o 22 (.mv (.t 1)), o 23 (.mv (.t 7)), o 24 (.ia none (.t 22) (.t 23)), o 25 (.ld none (.t 24)), o 9 (.mv (.t 25))]) (.seq (.rg [o 26 (.mv (.t 2)), o 27 (.mv (.t 8)), o 28 (.mv (.t 9)), o 29 (.ca (.t 26) [.t 27, .t 28]), o 30 (.un .not (.t 29))]) (.cond (.t 30) (.seq (.rg [o 6 (.mv (.k (.im (.bool false))))]) .ret) .skip))))) (.rg [o 31 (.bi .add (.t 17) (.n 1)), o 17 (.mv (.t 31))])))))))) (.seq (.rg [o 6 (.mv (.k (.im (.bool true))))]) .ret))))⟩
def c43 : FB := ⟨2, 8, [(4, none)], (.seq (.rg [o 4 (.mv (.k (.im (.bool false))))]) (.seq (.rg [o 5 (.mv (.t 0)), o 6 (.mv (.t 1)), o 7 (.ca (.k (.cl 44 [])) [.t 5, .t 6]), o 4 (.mv (.t 7))]) .ret))⟩
def c44 : FB := ⟨2, 26, [(4, none)], (.seq (.rg [o 4 (.mv (.k (.im (.bool false))))]) (.seq (.seq (.rg [o 6 (.mv (.t 0)), o 7 (.ln (.t 6)), o 8 (.mv (.t 1)), o 9 (.ln (.t 8)), o 10 (.bi .neq (.t 7) (.t 9))]) (.cond (.t 10) (.seq (.rg [o 4 (.mv (.k (.im (.bool false))))]) .ret) .skip)) (.seq (.seq (.rg [o 11 (.mv (.t 0)), o 12 (.ln (.t 11)), o 13 (.mv (.n 0))]) (.blk 0 (.lp (.nm [0, 1, 12, 13] (.seq (.rg [o 14 (.bi .lss (.t 13) (.t 12))]) (.seq (.cond (.t 14) .skip (.ex 0)) (.seq (.blk 1 (.seq (.rg [o 15 (.mv (.t 13)), o 5 (.mv (.t 15))]) (.seq (.rg [o 16 (.mv (.t 0)), o 17 (.mv (.t 5)), o 18 (.ia none (.t 16) (.t 17)), o 19 (.ld none (.t 18)), o 20 (.mv (.t 1)), o 21 (.mv (.t 5)), o 22 (.ia none (.t 20) (.t 21)), o 23 (.ld none (.t 22)), o 24 (.be true (.t 19) (.t 23))]) (.cond (.t 24) (.seq (.rg [o 4 (.mv (.k (.im (.bool false))))]) .ret) .skip)))) (.rg [o 25 (.bi .add (.t 13) (.n 1)), o 13 (.mv (.t 25))])))))))) (.seq (.rg [o 4 (.mv (.k (.im (.bool true))))]) .ret))))⟩
def c45 : FB := ⟨2, 27, [(4, none)], (.seq (.rg [o 4 (.mv (.k (.im (.bool false))))]) (.seq (.seq (.rg [o 6 (.mv (.t 0)), o 7 (.ln (.t 6)), o 8 (.mv (.t 1)), o 9 (.ln (.t 8)), o 10 (.bi .neq (.t 7) (.t 9))]) (.cond (.t 10) (.seq (.rg [o 4 (.mv (.k (.im (.bool false))))]) .ret) .skip)) (.seq (.seq (.rg [o 5 (.mv (.n 0))]) (.blk 0 (.lp (.nm [0, 1, 5] (.seq (.seq (.rg [o 11 (.mv (.t 5)), o 12 (.mv (.t 0)), o 13 (.ln (.t 12)), o 14 (.bi .lss (.t 11) (.t 13))]) (.cond (.t 14) .skip (.ex 0))) (.seq (.blk 1 (.seq (.rg [o 17 (.mv (.t 0)), o 18 (.mv (.t 5)), o 19 (.ia none (.t 17) (.t 18)), o 20 (.ld none (.t 19)), o 21 (.mv (.t 1)), o 22 (.mv (.t 5)), o 23 (.ia none (.t 21) (.t 22)), o 24 (.ld none (.t 23)), o 25 (.ca (.k (.cl 71 [])) [.t 20, .t 24]), o 26 (.un .not (.t 25))]) (.cond (.t 26) (.seq (.rg [o 4 (.mv (.k (.im (.bool false))))]) .ret) .skip))) (.rg [o 15 (.mv (.t 5)), o 16 (.bi .add (.t 15) (.n 1)), o 5 (.mv (.t 16))]))))))) (.seq (.rg [o 4 (.mv (.k (.im (.bool true))))]) .ret))))⟩
def c69 : FB := ⟨2, 12, [(4, none)], (.seq (.rg [o 4 (.mv (.n 0))]) (.seq (.rg [o 5 (.mv (.t 1)), o 6 (.mv (.t 0)), o 7 (.ln (.t 6)), o 8 (.bi .sub (.t 5) (.t 7)), o 1 (.mv (.t 8))]) (.seq (.seq (.rg [o 9 (.mv (.t 1)), o 10 (.bi .lss (.t 9) (.n 0))]) (.cond (.t 10) (.seq (.rg [o 4 (.mv (.n (-1)))]) .ret) .skip)) (.seq (.rg [o 11 (.mv (.t 1)), o 4 (.mv (.t 11))]) .ret))))⟩
def c70 : FB := ⟨1, 22, [(2, none)], (.seq (.rg [o 2 (.mv (.k .e0))]) (.seq (.rg [o 5 (.mv (.t 0)), o 6 (.ln (.t 5)), o 7 (.ms (.im (.bool false)) none (.t 6) (.t 6)), o 3 (.mv (.t 7))]) (.seq (.seq (.rg [o 4 (.mv (.n 0))]) (.blk 0 (.lp (.nm [0, 3, 4] (.seq (.seq (.rg [o 8 (.mv (.t 4)), o 9 (.mv (.t 0)), o 10 (.ln (.t 9)), o 11 (.bi .lss (.t 8) (.t 10))]) (.cond (.t 11) .skip (.ex 0))) (.seq (.blk 1 (.rg [o 14 (.mv (.t 3)), o 15 (.mv (.t 4)), o 16 (.mv (.t 0)), o 17 (.mv (.t 4)), o 18 (.ia none (.t 16) (.t 17)), o 19 (.ld none (.t 18)), o 20 (.ia none (.t 14) (.t 15)), oo (.so none (.t 20) (.t 19))])) (.rg [o 12 (.mv (.t 4)), o 13 (.bi .add (.t 12) (.n 1)), o 4 (.mv (.t 13))]))))))) (.seq (.rg [o 21 (.mv (.t 3)), o 2 (.mv (.t 21))]) .ret))))⟩
def c71 : FB := ⟨2, 26, [(4, none)], (.seq (.rg [o 4 (.mv (.k (.im (.bool false))))]) (.seq (.seq (.rg [o 6 (.mv (.t 0)), o 7 (.ln (.t 6)), o 8 (.mv (.t 1)), o 9 (.ln (.t 8)), o 10 (.bi .neq (.t 7) (.t 9))]) (.cond (.t 10) (.seq (.rg [o 4 (.mv (.k (.im (.bool false))))]) .ret) .skip)) (.seq (.seq (.rg [o 5 (.mv (.n 0))]) (.blk 0 (.lp (.nm [0, 1, 5] (.seq (.seq (.rg [o 11 (.mv (.t 5)), o 12 (.mv (.t 0)), o 13 (.ln (.t 12)), o 14 (.bi .lss (.t 11) (.t 13))]) (.cond (.t 14) .skip (.ex 0))) (.seq (.blk 1 (.seq (.rg [o 17 (.mv (.t 0)), o 18 (.mv (.t 5)), o 19 (.ia none (.t 17) (.t 18)), o 20 (.ld none (.t 19)), o 21 (.mv (.t 1)), o 22 (.mv (.t 5)), o 23 (.ia none (.t 21) (.t 22)), o 24 (.ld none (.t 23)), o 25 (.be true (.t 20) (.t 24))]) (.cond (.t 25) (.seq (.rg [o 4 (.mv (.k (.im (.bool false))))]) .ret) .skip))) (.rg [o 15 (.mv (.t 5)), o 16 (.bi .add (.t 15) (.n 1)), o 5 (.mv (.t 16))]))))))) (.seq (.rg [o 4 (.mv (.k (.im (.bool true))))]) .ret))))⟩
def c10 : FB := ⟨2, 68, [(4, none)], (.seq (.rg [o 2 (.bx (some 2) (.t 0)), o 3 (.bx (some 2) (.t 1)), o 4 (.mv (.k (.im (.bool false))))]) (.seq (.seq (.rg [o 7 (.fa 0 (.t 2)), o 8 (.ld none (.t 7)), o 9 (.fa 0 (.t 3)), o 10 (.ld none (.t 9)), o 11 (.bi .neq (.t 8) (.t 10)), o 12 (.mv (.t 11)), og 13 12 false (.fa 1 (.t 2)), og 14 12 false (.ld none (.t 13)), og 15 12 false (.ln (.t 14)), og 16 12 false (.fa 1 (.t 3)), og 17 12 false (.ld none (.t 16)), og 18 12 false (.ln (.t 17)), og 19 12 false (.bi .neq (.t 15) (.t 18)), o 20 (.pk (.t 12) (.k (.im (.bool true))) (.t 19))]) (.cond (.t 20) (.seq (.rg [o 4 (.mv (.k (.im (.bool false))))]) .ret) .skip)) (.seq (.seq (.rg [o 5 (.mv (.n 0))]) (.blk 0 (.lp (.nm [2, 3, 5] (.seq (.seq (.rg [o 21 (.mv (.t 5)), o 22 (.fa 1 (.t 2)), o 23 (.ld none (.t 22)), o 24 (.ln (.t 23)), o 25 (.bi .lss (.t 21) (.t 24))]) (.cond (.t 25) .skip (.ex 0))) (.seq (.blk 1 (.seq (.seq (.rg [o 28 (.fa 1 (.t 2)), o 29 (.ld none (.t 28)), o 30 (.mv (.t 5)), o 31 (.ia none (.t 29) (.t 30)), o 32 (.ld none (.t 31)), o 33 (.ln (.t 32)), o 34 (.fa 1 (.t 3)), o 35 (.ld none (.t 34)), o 36 (.mv (.t 5)), o 37 (.ia none (.t 35) (.t 36)), o 38 (.ld none (.t 37)), o 39 (.ln (.t 38)), o 40 (.bi .neq (.t 33) (.t 39))]) (.cond (.t 40) (.seq (.rg [o 4 (.mv (.k (.im (.bool false))))]) .ret) .skip)) (.seq (.rg [o 6 (.mv (.n 0))]) (.blk 2 (.lp (.nm [2, 3, 5, 6] (.seq (.seq (.rg [o 41 (.mv (.t 6)), o 42 (.fa 1 (.t 2)), o 43 (.ld none (.t 42)), o 44 (.mv (.t 5)), o 45 (.ia none (.t 43) (.t 44)), o 46 (.ld none (.t 45)), o 47 (.ln (.t 46)), o 48 (.bi .lss (.t 41) (.t 47))]) (.cond (.t 48) .skip (.ex 2))) (.seq (.blk 3 (.seq (.rg [o 51 (.fa 1 (.t 2)), o 52 (.ld none (.t 51)), o 53 (.mv (.t 5)), o 54 (.ia none (.t 52) (.t 53)), o 55 (.ld none (.t 54)), o 56 (.mv (.t 6)), o 57 (.ia none (.t 55) (.t 56)), o 58 (.ld none (.t 57)), o 59 (.fa 1 (.t 3)), o 60 (.ld none (.t 59)), o 61 (.mv (.t 5)), o 62 (.ia none (.t 60) (.t 61)), o 63 (.ld none (.t 62)), o 64 (.mv (.t 6)), o 65 (.ia none (.t 63) (.t 64)), o 66 (.ld none (.t 65)), o 67 (.be true (.t 58) (.t 66))]) (.cond (.t 67) (.seq (.rg [o 4 (.mv (.k (.im (.bool false))))]) .ret) .skip))) (.rg [o 49 (.mv (.t 6)), o 50 (.bi .add (.t 49) (.n 1)), o 6 (.mv (.t 50))]))))))))) (.rg [o 26 (.mv (.t 5)), o 27 (.bi .add (.t 26) (.n 1)), o 5 (.mv (.t 27))]))))))) (.seq (.rg [o 4 (.mv (.k (.im (.bool true))))]) .ret))))⟩
def c3 : FB := ⟨2, 45, [(4, none)], (.seq (.rg [o 2 (.bx (some 2) (.t 0)), o 3 (.bx (some 2) (.t 1)), o 4 (.mv (.k (.im (.bool false))))]) (.seq (.rg [o 5 (.mv (.n 1048576))]) (.seq (.rg [o 10 (.ld (some 2) (.t 2)), o 11 (.mv (.t 5)), o 12 (.ca (.k (.cl 9 [])) [.t 10, .t 11]), o 5 (.mv (.t 12))]) (.seq (.seq (.rg [o 13 (.mv (.t 5)), o 14 (.bi .lss (.t 13) (.n 0))]) (.cond (.t 14) (.seq (.rg [o 4 (.mv (.k (.im (.bool true))))]) .ret) .skip)) (.seq (.rg [o 15 (.ld (some 2) (.t 3)), o 16 (.mv (.t 5)), o 17 (.ca (.k (.cl 9 [])) [.t 15, .t 16]), o 5 (.mv (.t 17))]) (.seq (.seq (.rg [o 18 (.mv (.t 5)), o 19 (.bi .lss (.t 18) (.n 0))]) (.cond (.t 19) (.seq (.rg [o 4 (.mv (.k (.im (.bool true))))]) .ret) .skip)) (.seq (.rg [o 20 (.ld (some 2) (.t 2)), o 21 (.ca (.k (.cl 11 [])) [.t 20]), o 22 (.ld (some 2) (.t 3)), o 23 (.ca (.k (.cl 11 [])) [.t 22]), o 24 (.ca (.k (.cl 10 [])) [.t 21, .t 23]), o 6 (.mv (.t 24))]) (.seq (.rg [o 25 (.ld (some 2) (.t 2)), o 26 (.ca (.k (.cl 11 [])) [.t 25]), o 7 (.al (.st [.im (.int .i64 0), .e0]) (some 2)), oo (.so (some 2) (.t 7) (.t 26))]) (.seq (.rg [o 27 (.ld (some 2) (.t 3)), o 28 (.ca (.k (.cl 11 [])) [.t 27]), o 8 (.al (.st [.im (.int .i64 0), .e0]) (some 2)), oo (.so (some 2) (.t 8) (.t 28))]) (.seq (.rg [o 29 (.ld (some 2) (.t 7)), o 30 (.ld (some 2) (.t 8)), o 31 (.ca (.k (.cl 12 [])) [.t 29, .t 30]), o 9 (.mv (.t 31))]) (.seq (.seq (.rg [o 32 (.mv (.t 9)), o 33 (.mv (.t 6)), o 34 (.be true (.t 32) (.t 33))]) (.cond (.t 34) (.seq (.rg [o 4 (.mv (.k (.im (.bool false))))]) .ret) .skip)) (.seq (.seq (.rg [o 35 (.ld (some 2) (.t 7)), o 36 (.ld (some 2) (.t 2)), o 37 (.ca (.k (.cl 11 [])) [.t 36]), o 38 (.ca (.k (.cl 13 [])) [.t 35, .t 37]), o 39 (.un .not (.t 38))]) (.cond (.t 39) (.seq (.rg [o 4 (.mv (.k (.im (.bool false))))]) .ret) .skip)) (.seq (.seq (.rg [o 40 (.ld (some 2) (.t 8)), o 41 (.ld (some 2) (.t 3)), o 42 (.ca (.k (.cl 11 [])) [.t 41]), o 43 (.ca (.k (.cl 13 [])) [.t 40, .t 42]), o 44 (.un .not (.t 43))]) (.cond (.t 44) (.seq (.rg [o 4 (.mv (.k (.im (.bool false))))]) .ret) .skip)) (.seq (.rg [o 4 (.mv (.k (.im (.bool true))))]) .ret))))))))))))))⟩
def T : Nat → Option FB := fun f => match f with
  | 3 => some c3 | 10 => some c10 | 71 => some c71 | 45 => some c45 | 13 => some c13 | 44 => some c44 | 43 => some c43 | 42 => some c42 | 12 => some c12 | 9 => some c9 | 11 => some c11 | 40 => some c40 | 69 => some c69 | 70 => some c70 | 41 => some c41
  | _ => none
def Γ : Env := { T := fun f => (T f).map FB.er, md := fun _ => some [], pr := fun _ => none }
set_option maxHeartbeats 1000000
theorem k71 (a b : List Bool) (ha : a.length ≤ 2 ^ 40) : CALLB Γ T 71 [] [.sl (a.map .b), .sl (b.map .b)] = some (.b (decide (a = b)), []) := by
  apply call_ro rfl rfl rfl rfl
  repeat' (first | apply sq_n | apply sq_r | apply sq_x | apply bk_n | apply bk_r | apply bk_x | apply wp_seq | apply wp_rg | apply wr_nil | apply wr_op | apply wo_of rfl | apply wp_skip | apply wp_ret | (apply wp_cond rfl <;> intro hc) | apply wp_blk | apply wp_ex)
  · refine ⟨_, _, _, rfl, ?_, List.nodup_nil⟩
    have : a ≠ b := by rintro rfl; simp at hc
    rw [decide_eq_false this]; rfl
  · have hl : a.length = b.length := by have h := hc; simp at h; omega
    refine wp_loop (α := Nat) (fun i s => i ≤ a.length ∧ a.take i = b.take i ∧ nmS [0, 1, 5] s = some ⟨envA [(0, .sl (a.map .b)), (1, .sl (b.map .b)), (5, .i (i : Nat))], heapA [], 0, false⟩) (fun i => a.length - i) ?_ 0 ⟨by simp, by simp, rfl⟩
    rintro i s ⟨hi, hp, hs⟩
    apply wp_nm hs
    repeat' (first | apply sq_n | apply sq_r | apply sq_x | apply bk_n | apply bk_r | apply bk_x | apply wp_seq | apply wp_rg | apply wr_nil | apply wr_op | apply wo_of rfl | apply wp_skip | apply wp_ret | (apply wp_cond rfl <;> intro hc) | apply wp_blk | apply wp_ex)
    · have hlt : i < a.length := by have := of_decide_eq_true hc; simp only [List.length_map] at this; omega
      have hlb : i < b.length := by omega
      apply wo_ia (e := .b a[i]) rfl rfl (by simp) (by simp [hlt]) rfl
      repeat' (first | apply wr_op | apply wo_of rfl)
      apply wo_ia (e := .b b[i]) rfl rfl (by simp) (by simp [hlb]) rfl
      repeat' (first | apply sq_n | apply sq_r | apply sq_x | apply bk_n | apply bk_r | apply bk_x | apply wp_seq | apply wp_rg | apply wr_nil | apply wr_op | apply wo_of rfl | apply wp_skip | apply wp_ret | (apply wp_cond rfl <;> intro hc) | apply wp_blk | apply wp_ex)
      · refine ⟨_, _, _, rfl, ?_, List.nodup_nil⟩
        have : a ≠ b := by rintro rfl; simp at hc
        rw [decide_eq_false this]; rfl
      · have he : a[i] = b[i] := by simpa using hc
        refine ⟨i + 1, by omega, by omega, ?_, ?_⟩
        · rw [List.take_succ_eq_append_getElem hlt, List.take_succ_eq_append_getElem hlb, hp, he]
        · rw [← wrap_succ (by omega)]; rfl
    · have hlt : ¬ i < a.length := by have := of_decide_eq_false hc; simp only [List.length_map] at this; omega
      obtain rfl : i = a.length := by omega
      refine ⟨_, _, _, rfl, ?_, List.nodup_nil⟩
      rw [List.take_length, hl, List.take_length] at hp
      rw [decide_eq_true hp]; rfl

def eB (r : List Bool) : V := .sl (r.map .b)
theorem k45 (a b : List (List Bool)) (ha : a.length ≤ 2 ^ 40) (hr : ∀ r ∈ a, r.length ≤ 2 ^ 40) : CALLB Γ T 45 [] [.sl (a.map eB), .sl (b.map eB)] = some (.b (decide (a = b)), []) := by
  apply call_ro rfl rfl rfl rfl
  repeat' (first | apply sq_n | apply sq_r | apply sq_x | apply bk_n | apply bk_r | apply bk_x | apply wp_seq | apply wp_rg | apply wr_nil | apply wr_op | apply wo_of rfl | apply wp_skip | apply wp_ret | (apply wp_cond rfl <;> intro hc) | apply wp_blk | apply wp_ex)
  · refine ⟨_, _, _, rfl, ?_, List.nodup_nil⟩
    have : a ≠ b := by rintro rfl; simp at hc
    rw [decide_eq_false this]; rfl
  · have hl : a.length = b.length := by have h := hc; simp at h; omega
    refine wp_loop (α := Nat) (fun i s => i ≤ a.length ∧ a.take i = b.take i ∧ nmS [0, 1, 5] s = some ⟨envA [(0, .sl (a.map eB)), (1, .sl (b.map eB)), (5, .i (i : Nat))], heapA [], 0, false⟩) (fun i => a.length - i) ?_ 0 ⟨by simp, by simp, rfl⟩
    rintro i s ⟨hi, hp, hs⟩
    apply wp_nm hs
    repeat' (first | apply sq_n | apply sq_r | apply sq_x | apply bk_n | apply bk_r | apply bk_x | apply wp_seq | apply wp_rg | apply wr_nil | apply wr_op | apply wo_of rfl | apply wp_skip | apply wp_ret | (apply wp_cond rfl <;> intro hc) | apply wp_blk | apply wp_ex)
    · have hlt : i < a.length := by have := of_decide_eq_true hc; simp only [List.length_map] at this; omega
      have hlb : i < b.length := by omega
      apply wo_ia (e := eB a[i]) rfl rfl (by simp) (by simp [hlt]) rfl
      repeat' (first | apply wr_op | apply wo_of rfl)
      apply wo_ia (e := eB b[i]) rfl rfl (by simp) (by simp [hlb]) rfl
      repeat' (first | apply sq_n | apply sq_r | apply sq_x | apply bk_n | apply bk_r | apply bk_x | apply wp_seq | apply wp_rg | apply wr_nil | apply wr_op | apply wo_of rfl | apply wp_skip | apply wp_ret | (apply wp_cond rfl <;> intro hc) | apply wp_blk | apply wp_ex | apply wo_call0 rfl rfl rfl rfl (k71 a[i] b[i] (hr _ (List.getElem_mem hlt))) rfl)
      · refine ⟨_, _, _, rfl, ?_, List.nodup_nil⟩
        have : a ≠ b := by rintro rfl; simp at hc
        rw [decide_eq_false this]; rfl
      · have he : a[i] = b[i] := by simpa using hc
        refine ⟨i + 1, by omega, by omega, ?_, ?_⟩
        · rw [List.take_succ_eq_append_getElem hlt, List.take_succ_eq_append_getElem hlb, hp, he]
        · rw [← wrap_succ (by omega)]; rfl
    · have hlt : ¬ i < a.length := by have := of_decide_eq_false hc; simp only [List.length_map] at this; omega
      obtain rfl : i = a.length := by omega
      refine ⟨_, _, _, rfl, ?_, List.nodup_nil⟩
      rw [List.take_length, hl, List.take_length] at hp
      rw [decide_eq_true hp]; rfl

def eO (n : Int) (r : List (List Bool)) : V := .st [.i n, .sl (r.map eB)]
theorem k13 (n m : Int) (a b : List (List Bool)) (ha : a.length ≤ 2 ^ 40) (hr : ∀ r ∈ a, r.length ≤ 2 ^ 40) : CALLB Γ T 13 [] [eO n a, eO m b] = some (.b (decide (n = m ∧ a = b)), []) := by
  apply call_ro rfl rfl rfl rfl
  repeat' (first | apply sq_n | apply sq_r | apply sq_x | apply bk_n | apply bk_r | apply bk_x | apply wp_seq | apply wp_rg | apply wr_nil | apply wr_op | apply wo_of rfl | apply wp_skip | apply wp_ret | (apply wp_cond rfl <;> intro hc) | apply wp_blk | apply wp_ex | apply wo_call0 rfl rfl rfl rfl (k45 a b ha hr) rfl)
  · refine ⟨_, _, _, rfl, ?_, List.nodup_nil⟩
    have : ¬ (n = m ∧ a = b) := by rintro ⟨rfl, _⟩; simp at hc
    rw [decide_eq_false this]; rfl
  · refine ⟨_, _, _, rfl, ?_, List.nodup_nil⟩
    have : ¬ (n = m ∧ a = b) := by rintro ⟨_, rfl⟩; simp at hc
    rw [decide_eq_false this]; rfl
  · refine ⟨_, _, _, rfl, ?_, List.nodup_nil⟩
    have : n = m ∧ a = b := by constructor <;> simp_all
    rw [decide_eq_true this]; rfl

theorem k44 (a b : List Bool) (ha : a.length ≤ 2 ^ 40) : CALLB Γ T 44 [] [.sl (a.map .b), .sl (b.map .b)] = some (.b (decide (a = b)), []) := by
  apply call_ro rfl rfl rfl rfl
  repeat' (first | apply sq_n | apply sq_r | apply sq_x | apply bk_n | apply bk_r | apply bk_x | apply wp_seq | apply wp_rg | apply wr_nil | apply wr_op | apply wo_of rfl | apply wp_skip | apply wp_ret | (apply wp_cond rfl <;> intro hc) | apply wp_blk | apply wp_ex)
  · refine ⟨_, _, _, rfl, ?_, List.nodup_nil⟩
    have : a ≠ b := by rintro rfl; simp at hc
    rw [decide_eq_false this]; rfl
  · have hl : a.length = b.length := by have h := hc; simp at h; omega
    refine wp_loop (α := Nat) (fun i s => i ≤ a.length ∧ a.take i = b.take i ∧ nmS [0, 1, 12, 13] s = some ⟨envA [(0, .sl (a.map .b)), (1, .sl (b.map .b)), (12, .i ((a.map V.b).length : Nat)), (13, .i (i : Nat))], heapA [], 0, false⟩) (fun i => a.length - i) ?_ 0 ⟨by simp, by simp, rfl⟩
    rintro i s ⟨hi, hp, hs⟩
    apply wp_nm hs
    repeat' (first | apply sq_n | apply sq_r | apply sq_x | apply bk_n | apply bk_r | apply bk_x | apply wp_seq | apply wp_rg | apply wr_nil | apply wr_op | apply wo_of rfl | apply wp_skip | apply wp_ret | (apply wp_cond rfl <;> intro hc) | apply wp_blk | apply wp_ex)
    · have hlt : i < a.length := by have := of_decide_eq_true hc; simp only [List.length_map] at this; omega
      have hlb : i < b.length := by omega
      apply wo_ia (e := .b a[i]) rfl rfl (by simp) (by simp [hlt]) rfl
      repeat' (first | apply wr_op | apply wo_of rfl)
      apply wo_ia (e := .b b[i]) rfl rfl (by simp) (by simp [hlb]) rfl
      repeat' (first | apply sq_n | apply sq_r | apply sq_x | apply bk_n | apply bk_r | apply bk_x | apply wp_seq | apply wp_rg | apply wr_nil | apply wr_op | apply wo_of rfl | apply wp_skip | apply wp_ret | (apply wp_cond rfl <;> intro hc) | apply wp_blk | apply wp_ex)
      · refine ⟨_, _, _, rfl, ?_, List.nodup_nil⟩
        have : a ≠ b := by rintro rfl; simp at hc
        rw [decide_eq_false this]; rfl
      · have he : a[i] = b[i] := by simpa using hc
        refine ⟨i + 1, by omega, by omega, ?_, ?_⟩
        · rw [List.take_succ_eq_append_getElem hlt, List.take_succ_eq_append_getElem hlb, hp, he]
        · rw [← wrap_succ (by omega)]; rfl
    · have hlt : ¬ i < a.length := by have := of_decide_eq_false hc; simp only [List.length_map] at this; omega
      obtain rfl : i = a.length := by omega
      refine ⟨_, _, _, rfl, ?_, List.nodup_nil⟩
      rw [List.take_length, hl, List.take_length] at hp
      rw [decide_eq_true hp]; rfl

theorem k43 (a b : List Bool) (ha : a.length ≤ 2 ^ 40) : CALLB Γ T 43 [] [eB a, eB b] = some (.b (decide (a = b)), []) := by
  apply call_ro rfl rfl rfl rfl
  repeat' (first | apply sq_n | apply sq_r | apply sq_x | apply bk_n | apply bk_r | apply bk_x | apply wp_seq | apply wp_rg | apply wr_nil | apply wr_op | apply wo_of rfl | apply wp_skip | apply wp_ret | (apply wp_cond rfl <;> intro hc) | apply wp_blk | apply wp_ex | apply wo_call0 rfl rfl rfl rfl (k44 a b ha) rfl)
  exact ⟨_, _, _, rfl, rfl, List.nodup_nil⟩

theorem k42 (a b : List (List Bool)) (ha : a.length ≤ 2 ^ 40) (hr : ∀ r ∈ a, r.length ≤ 2 ^ 40) : CALLB Γ T 42 [] [.sl (a.map eB), .sl (b.map eB), .cl 43 []] = some (.b (decide (a = b)), []) := by
  apply call_ro rfl rfl rfl rfl
  repeat' (first | apply sq_n | apply sq_r | apply sq_x | apply bk_n | apply bk_r | apply bk_x | apply wp_seq | apply wp_rg | apply wr_nil | apply wr_op | apply wo_of rfl | apply wp_skip | apply wp_ret | (apply wp_cond rfl <;> intro hc) | apply wp_blk | apply wp_ex)
  · refine ⟨_, _, _, rfl, ?_, List.nodup_nil⟩
    have : a ≠ b := by rintro rfl; simp at hc
    rw [decide_eq_false this]; rfl
  · have hl : a.length = b.length := by have h := hc; simp at h; omega
    refine wp_loop (α := Nat) (fun i s => i ≤ a.length ∧ a.take i = b.take i ∧ nmS [1, 2, 15, 16, 17] s = some ⟨envA [(1, .sl (b.map eB)), (2, .cl 43 []), (15, .sl (a.map eB)), (16, .i ((a.map eB).length : Nat)), (17, .i (i : Nat))], heapA [], 0, false⟩) (fun i => a.length - i) ?_ 0 ⟨by simp, by simp, rfl⟩
    rintro i s ⟨hi, hp, hs⟩
    apply wp_nm hs
    repeat' (first | apply sq_n | apply sq_r | apply sq_x | apply bk_n | apply bk_r | apply bk_x | apply wp_seq | apply wp_rg | apply wr_nil | apply wr_op | apply wo_of rfl | apply wp_skip | apply wp_ret | (apply wp_cond rfl <;> intro hc) | apply wp_blk | apply wp_ex)
    · have hlt : i < a.length := by have := of_decide_eq_true hc; simp only [List.length_map] at this; omega
      have hlb : i < b.length := by omega
      apply wo_ia (e := eB a[i]) rfl rfl (by simp) (by simp [hlt]) rfl
      repeat' (first | apply sq_n | apply sq_r | apply sq_x | apply bk_n | apply bk_r | apply bk_x | apply wp_seq | apply wp_rg | apply wr_nil | apply wr_op | apply wo_of rfl | apply wp_skip | apply wp_ret | (apply wp_cond rfl <;> intro hc) | apply wp_blk | apply wp_ex)
      apply wo_ia (e := eB b[i]) rfl rfl (by simp) (by simp [hlb]) rfl
      repeat' (first | apply sq_n | apply sq_r | apply sq_x | apply bk_n | apply bk_r | apply bk_x | apply wp_seq | apply wp_rg | apply wr_nil | apply wr_op | apply wo_of rfl | apply wp_skip | apply wp_ret | (apply wp_cond rfl <;> intro hc) | apply wp_blk | apply wp_ex | apply wo_callr (f := 43) (caps := []) rfl rfl rfl rfl rfl (k43 a[i] b[i] (hr _ (List.getElem_mem hlt))) rfl rfl)
      · refine ⟨_, _, _, rfl, ?_, List.nodup_nil⟩
        have : a ≠ b := by rintro rfl; simp at hc
        rw [decide_eq_false this]; rfl
      · have he : a[i] = b[i] := by simpa using hc
        refine ⟨i + 1, by omega, by omega, ?_, ?_⟩
        · rw [List.take_succ_eq_append_getElem hlt, List.take_succ_eq_append_getElem hlb, hp, he]
        · rw [← wrap_succ (by omega)]; rfl
    · have hlt : ¬ i < a.length := by have := of_decide_eq_false hc; simp only [List.length_map] at this; omega
      obtain rfl : i = a.length := by omega
      refine ⟨_, _, _, rfl, ?_, List.nodup_nil⟩
      rw [List.take_length, hl, List.take_length] at hp
      rw [decide_eq_true hp]; rfl

theorem k12 (n m : Int) (a b : List (List Bool)) (ha : a.length ≤ 2 ^ 40) (hr : ∀ r ∈ a, r.length ≤ 2 ^ 40) : CALLB Γ T 12 [] [eO n a, eO m b] = some (.b (decide (n = m ∧ a = b)), []) := by
  apply call_ro rfl rfl rfl rfl
  repeat' (first | apply sq_n | apply sq_r | apply sq_x | apply bk_n | apply bk_r | apply bk_x | apply wp_seq | apply wp_rg | apply wr_nil | apply wr_op | apply wo_of rfl | apply wp_skip | apply wp_ret | (apply wp_cond rfl <;> intro hc) | apply wp_blk | apply wp_ex | apply wr_gt rfl (by assumption) | apply wr_gf rfl (by assumption) | (apply wr_gc rfl <;> intro hg) | apply wo_call0 rfl rfl rfl rfl (k42 a b ha hr) rfl)
  · rw [hg]
    refine ⟨_, _, _, rfl, ?_, List.nodup_nil⟩
    have h : n = m := by simpa using hg
    simp only [h, true_and]; rfl
  · rw [hg]
    refine ⟨_, _, _, rfl, ?_, List.nodup_nil⟩
    have h : ¬ (n = m ∧ a = b) := by rintro ⟨rfl, _⟩; simp at hg
    rw [decide_eq_false h]; rfl

def sz1 (len : Nat) (n : Int) : Int := if IntKind.i64.wrap (n - len) < 0 then -1 else IntKind.i64.wrap (n - len)
def szL {α : Type} (f : α → Int → Int) : List α → Int → Int
  | [], n => n
  | x :: xs, n => if f x n < 0 then -1 else szL f xs (f x n)
def szS {α : Type} (f : α → Int → Int) (l : List α) (n : Int) : Int := if IntKind.i64.wrap (n - l.length) < 0 then -1 else szL f l (IntKind.i64.wrap (n - l.length))
theorem k69 (l : List V) (n : Int) : CALLB Γ T 69 [] [.sl l, .i n] = some (.i (sz1 l.length n), []) := by
  apply call_ro rfl rfl rfl rfl
  repeat' (first | apply sq_n | apply sq_r | apply sq_x | apply bk_n | apply bk_r | apply bk_x | apply wp_seq | apply wp_rg | apply wr_nil | apply wr_op | apply wo_of rfl | apply wp_skip | apply wp_ret | (apply wp_cond rfl <;> intro hc) | apply wp_blk | apply wp_ex)
  · refine ⟨_, _, _, rfl, ?_, List.nodup_nil⟩
    have hc' := of_decide_eq_true hc
    rw [sz1, if_pos hc']; rfl
  · refine ⟨_, _, _, rfl, ?_, List.nodup_nil⟩
    have hc' := of_decide_eq_false hc
    rw [sz1, if_neg hc']; rfl
theorem k40 (l : List (List Bool)) (n : Int) (hl : l.length ≤ 9223372036854775807) : CALLB Γ T 40 [] [.sl (l.map eB), .i n] = some (.i (szS (fun r => sz1 r.length) l n), []) := by
  apply call_ro rfl rfl rfl rfl
  repeat' (first | apply sq_n | apply sq_r | apply sq_x | apply bk_n | apply bk_r | apply bk_x | apply wp_seq | apply wp_rg | apply wr_nil | apply wr_op | apply wo_of rfl | apply wp_skip | apply wp_ret | (apply wp_cond rfl <;> intro hc) | apply wp_blk | apply wp_ex)
  · refine ⟨_, _, _, rfl, ?_, List.nodup_nil⟩
    simp only [List.length_map, decide_eq_true_eq] at hc
    rw [szS, if_pos hc]; rfl
  · simp only [List.length_map, decide_eq_false_iff_not] at hc
    rw [szS, if_neg hc]
    generalize hR : szL (fun r : List Bool => sz1 r.length) l (IntKind.i64.wrap (n - l.length)) = R
    refine wp_loop (α := Nat × Int) (fun x s => x.1 ≤ l.length ∧ szL (fun r : List Bool => sz1 r.length) (l.drop x.1) x.2 = R ∧ nmS [0, 1, 5] s = some ⟨envA [(0, .sl (l.map eB)), (1, .i x.2), (5, .i (x.1 : Nat))], heapA [], 0, false⟩) (fun x => l.length - x.1) ?_ (0, IntKind.i64.wrap (n - l.length)) ⟨by simp, hR, by simp only [List.length_map]; rfl⟩
    rintro ⟨i, m⟩ s ⟨hi, hm, hs⟩
    apply wp_nm hs
    repeat' (first | apply sq_n | apply sq_r | apply sq_x | apply bk_n | apply bk_r | apply bk_x | apply wp_seq | apply wp_rg | apply wr_nil | apply wr_op | apply wo_of rfl | apply wp_skip | apply wp_ret | (apply wp_cond rfl <;> intro hc) | apply wp_blk | apply wp_ex)
    · have hlt : i < l.length := by have := of_decide_eq_true hc; simp only [List.length_map] at this; omega
      have hd : l.drop i = l[i] :: l.drop (i + 1) := (List.drop_eq_getElem_cons hlt)
      apply wo_ia (e := eB l[i]) rfl rfl (by simp) (by simp [hlt]) rfl
      have hk := k69 (l[i].map .b) m
      rw [List.length_map] at hk
      repeat' (first | apply sq_n | apply sq_r | apply sq_x | apply bk_n | apply bk_r | apply bk_x | apply wp_seq | apply wp_rg | apply wr_nil | apply wr_op | apply wo_of rfl | apply wp_skip | apply wp_ret | (apply wp_cond rfl <;> intro hc) | apply wp_blk | apply wp_ex | apply wo_call0 rfl rfl rfl rfl hk rfl)
      · refine ⟨_, _, _, rfl, ?_, List.nodup_nil⟩
        simp only [decide_eq_true_eq] at hc
        rw [← hm, hd, szL, if_pos hc]; rfl
      · simp only [decide_eq_false_iff_not] at hc
        rw [hd, szL, if_neg hc] at hm
        refine ⟨(i + 1, sz1 l[i].length m), by simp only; omega, by simp only; omega, hm, ?_⟩
        simp only
        rw [← wrap_succ (by omega)]
        rfl
    · have hlt : ¬ i < l.length := by have := of_decide_eq_false hc; simp only [List.length_map] at this; omega
      obtain rfl : i = l.length := by simp only at hi; omega
      refine ⟨_, _, _, rfl, ?_, List.nodup_nil⟩
      rw [← hm, List.drop_length, szL]; rfl
def szO (a : List (List Bool)) (n : Int) : Int := if szS (fun r => sz1 r.length) a n < 0 then -1 else szS (fun r => sz1 r.length) a n
theorem k9 (q n : Int) (a : List (List Bool)) (hl : a.length ≤ 9223372036854775807) : CALLB Γ T 9 [] [eO q a, .i n] = some (.i (szO a n), []) := by
  apply call_ro rfl rfl rfl rfl
  repeat' (first | apply sq_n | apply sq_r | apply sq_x | apply bk_n | apply bk_r | apply bk_x | apply wp_seq | apply wp_rg | apply wr_nil | apply wr_op | apply wo_of rfl | apply wp_skip | apply wp_ret | (apply wp_cond rfl <;> intro hc) | apply wp_blk | apply wp_ex | apply wo_call0 rfl rfl rfl rfl (k40 a n hl) rfl)
  · refine ⟨_, _, _, rfl, ?_, List.nodup_nil⟩
    have hc' := of_decide_eq_true hc
    rw [szO, if_pos hc']; rfl
  · refine ⟨_, _, _, rfl, ?_, List.nodup_nil⟩
    have hc' := of_decide_eq_false hc
    rw [szO, if_neg hc']; rfl
theorem k70 (l : List Bool) (hl : l.length ≤ 2 ^ 36) : CALLB Γ T 70 [] [.sl (l.map .b)] = some (.ow 1 (l.map .b), []) := by
  apply call_ro rfl rfl rfl rfl
  repeat' (first | apply sq_n | apply sq_r | apply sq_x | apply bk_n | apply bk_r | apply bk_x | apply wp_seq | apply wp_rg | apply wr_nil | apply wr_op | apply wo_of rfl | apply wp_skip | apply wp_ret | (apply wp_cond rfl <;> intro hc) | apply wp_blk | apply wp_ex)
  apply wo_ms (n := l.length) (m := l.length) (by simp only [Am.val, List.length_map]; rfl) (by simp only [Am.val, List.length_map]; rfl) (Nat.le_refl _) (by unfold LIM; omega) rfl
  repeat' (first | apply sq_n | apply sq_r | apply sq_x | apply bk_n | apply bk_r | apply bk_x | apply wp_seq | apply wp_rg | apply wr_nil | apply wr_op | apply wo_of rfl | apply wp_skip | apply wp_ret | (apply wp_cond rfl <;> intro hc) | apply wp_blk | apply wp_ex)
  refine wp_loop (α := Nat) (fun i s => i ≤ l.length ∧ nmS [0, 3, 4] s = some ⟨envA [(0, .sl (l.map .b)), (3, .hs 0 0 l.length l.length), (4, .i (i : Nat))], heapA [some ⟨1, (l.take i).map .b ++ List.replicate (l.length - i) (.b false), false⟩], 1, false⟩) (fun i => l.length - i) ?_ 0 ⟨by simp, ?_⟩
  · rintro i s ⟨hi, hs⟩
    apply wp_nm hs
    repeat' (first | apply sq_n | apply sq_r | apply sq_x | apply bk_n | apply bk_r | apply bk_x | apply wp_seq | apply wp_rg | apply wr_nil | apply wr_op | apply wo_of rfl | apply wp_skip | apply wp_ret | (apply wp_cond rfl <;> intro hc) | apply wp_blk | apply wp_ex)
    · have hlt : i < l.length := by have := of_decide_eq_true hc; simp only [List.length_map] at this; omega
      apply wo_ia (e := .b l[i]) rfl rfl (by simp) (by simp [hlt]) rfl
      repeat' (first | apply wr_op | apply wo_of rfl)
      apply wo_iah0 (j := i) rfl rfl rfl (by omega) rfl
      repeat' (first | apply wr_op | apply wo_of rfl)
      apply wo_so rfl rfl rfl (by simp; omega) rfl rfl
      repeat' (first | apply sq_n | apply sq_r | apply sq_x | apply bk_n | apply bk_r | apply bk_x | apply wp_seq | apply wp_rg | apply wr_nil | apply wr_op | apply wo_of rfl | apply wp_skip | apply wp_ret | (apply wp_cond rfl <;> intro hc) | apply wp_blk | apply wp_ex)
      refine ⟨i + 1, by omega, by omega, ?_⟩
      rw [← fill_set _ l _ hlt, ← wrap_succ (by omega)]
      exact nmS_of (r := [0]) rfl (renBs_one rfl (allL_iff.2 (by
        intro v hv
        simp only [Int.toNat_natCast, Nat.zero_add] at hv
        rcases List.mem_or_eq_of_mem_set hv with h | rfl
        · rcases List.mem_append.1 h with h | h
          · obtain ⟨b, _, rfl⟩ := List.mem_map.1 h; rfl
          · rw [(List.mem_replicate.1 h).2]; rfl
        · rfl)) renBs_nil) (by decide) rfl
    · have hlt : ¬ i < l.length := by have := of_decide_eq_false hc; simp only [List.length_map] at this; omega
      obtain rfl : i = l.length := by omega
      refine ⟨_, [], [0], rfl, (giveB_hs (d := 7) (B := ⟨1, (l.take l.length).map .b ++ List.replicate (l.length - l.length) (.b false), false⟩) rfl ?_ (by simp)).trans (by rw [fill_full]), by decide⟩
      rw [fill_full, allL_iff]
      intro v hv
      obtain ⟨b, _, rfl⟩ := List.mem_map.1 hv; rfl
  · exact nmS_of (r := [0]) rfl (renBs_one rfl (allL_iff.2 (by simp [okD, DEP])) renBs_nil) (by decide) rfl

def oB (r : List Bool) : V := .ow 1 (r.map .b)
theorem okB (d : Nat) (r : List Bool) : okD (d + 2) (oB r) = true := by simp only [oB, okD]; exact allL_iff.2 fun v hv => by obtain ⟨b, _, rfl⟩ := List.mem_map.1 hv; rfl
theorem okE (d : Nat) (l : List (List Bool)) (i n : Nat) : allL (okD (d + 2)) ((l.take i).map oB ++ List.replicate n .e0) = true := by
  refine allL_iff.2 fun v hv => ?_
  rcases List.mem_append.1 hv with h | h
  · obtain ⟨b, _, rfl⟩ := List.mem_map.1 h; exact okB d b
  · rw [(List.mem_replicate.1 h).2]; rfl

theorem k41 (l : List (List Bool)) (hl : l.length ≤ 2 ^ 36) (hr : ∀ r ∈ l, r.length ≤ 2 ^ 36) : CALLB Γ T 41 [] [.sl (l.map eB)] = some (.ow 1 (l.map oB), []) := by
  apply call_ro rfl rfl rfl rfl
  repeat' (first | apply sq_n | apply sq_r | apply sq_x | apply bk_n | apply bk_r | apply bk_x | apply wp_seq | apply wp_rg | apply wr_nil | apply wr_op | apply wo_of rfl | apply wp_skip | apply wp_ret | (apply wp_cond rfl <;> intro hc) | apply wp_blk | apply wp_ex)
  apply wo_ms (n := l.length) (m := l.length) (by simp only [Am.val, List.length_map]; rfl) (by simp only [Am.val, List.length_map]; rfl) (Nat.le_refl _) (by unfold LIM; omega) rfl
  repeat' (first | apply sq_n | apply sq_r | apply sq_x | apply bk_n | apply bk_r | apply bk_x | apply wp_seq | apply wp_rg | apply wr_nil | apply wr_op | apply wo_of rfl | apply wp_skip | apply wp_ret | (apply wp_cond rfl <;> intro hc) | apply wp_blk | apply wp_ex)
  refine wp_loop (α := Nat) (fun i s => i ≤ l.length ∧ nmS [0, 3, 4] s = some ⟨envA [(0, .sl (l.map eB)), (3, .hs 0 0 l.length l.length), (4, .i (i : Nat))], heapA [some ⟨1, (l.take i).map oB ++ List.replicate (l.length - i) .e0, false⟩], 1, false⟩) (fun i => l.length - i) ?_ 0 ⟨by simp, ?_⟩
  · rintro i s ⟨hi, hs⟩
    apply wp_nm hs
    repeat' (first | apply sq_n | apply sq_r | apply sq_x | apply bk_n | apply bk_r | apply bk_x | apply wp_seq | apply wp_rg | apply wr_nil | apply wr_op | apply wo_of rfl | apply wp_skip | apply wp_ret | (apply wp_cond rfl <;> intro hc) | apply wp_blk | apply wp_ex)
    · have hlt : i < l.length := by have := of_decide_eq_true hc; simp only [List.length_map] at this; omega
      apply wo_ia (e := eB l[i]) rfl rfl (by simp) (by simp [hlt]) rfl
      repeat' (first | apply wr_op | apply wo_of rfl)
      apply wo_call0 rfl rfl rfl rfl (k70 l[i] (hr _ (List.getElem_mem hlt))) (v := .hs 1 0 l[i].length l[i].length) (s2 := S.new _ 1 (l[i].map .b))
      · simp only [DEP, takeB]
        rw [if_pos (show okD (7 + 1) (V.ow 1 (List.map V.b l[i])) = true from okB 6 l[i])]
        simp only [List.length_map]
        rfl
      repeat' (first | apply wr_op | apply wo_of rfl)
      apply wo_iah0 (j := i) rfl rfl rfl (by omega) rfl
      repeat' (first | apply wr_op | apply wo_of rfl)
      apply wo_so rfl rfl rfl (by simp; omega) rfl rfl
      repeat' (first | apply sq_n | apply sq_r | apply sq_x | apply bk_n | apply bk_r | apply bk_x | apply wp_seq | apply wp_rg | apply wr_nil | apply wr_op | apply wo_of rfl | apply wp_skip | apply wp_ret | (apply wp_cond rfl <;> intro hc) | apply wp_blk | apply wp_ex)
      refine ⟨i + 1, by omega, by omega, ?_⟩
      rw [← fill_set _ l _ hlt, ← wrap_succ (by omega)]
      refine nmS_of (r := [0]) (ids := [1]) rfl (renBs_cons (i := [1]) (B := ⟨1, ((l.take i).map oB ++ List.replicate (l.length - i) V.e0).set i (.hs 1 0 l[i].length l[i].length), false⟩) rfl (overL_set (ren_hs (B := ⟨1, l[i].map .b, false⟩) rfl rfl ?_ (by simp) rfl) (overL_ren (okE 6 l i _)) (by simp; omega)) renBs_nil) (by decide) rfl
      exact allL_iff.2 fun v hv => by obtain ⟨b, _, rfl⟩ := List.mem_map.1 hv; rfl
    · have hlt : ¬ i < l.length := by have := of_decide_eq_false hc; simp only [List.length_map] at this; omega
      obtain rfl : i = l.length := by omega
      refine ⟨_, [], [0], rfl, (giveB_hs (d := 7) (B := ⟨1, (l.take l.length).map oB ++ List.replicate (l.length - l.length) .e0, false⟩) rfl (okE 5 l _ _) (by simp)).trans (by rw [fill_full]), by decide⟩
  · exact nmS_of (r := [0]) rfl (renBs_one rfl (okE 6 l 0 _) renBs_nil) (by decide) rfl

def oO (q : Int) (r : List (List Bool)) : V := .st [.i q, .ow 1 (r.map oB)]
theorem okL (d : Nat) (l : List (List Bool)) : allL (okD (d + 2)) (l.map oB) = true := allL_iff.2 fun v hv => by obtain ⟨b, _, rfl⟩ := List.mem_map.1 hv; exact okB d b
theorem k11 (q : Int) (a : List (List Bool)) (hl : a.length ≤ 2 ^ 36) (hr : ∀ r ∈ a, r.length ≤ 2 ^ 36) : CALLB Γ T 11 [] [eO q a] = some (oO q a, []) := by
  apply call_ro rfl rfl rfl rfl
  repeat' (first | apply sq_n | apply sq_r | apply sq_x | apply bk_n | apply bk_r | apply bk_x | apply wp_seq | apply wp_rg | apply wr_nil | apply wr_op | apply wo_of rfl | apply wp_skip | apply wp_ret | (apply wp_cond rfl <;> intro hc) | apply wp_blk | apply wp_ex | apply wo_call0 rfl rfl rfl rfl (k41 a hl hr) (takeB_ow (okL 5 a)))
  refine ⟨_, [1], [3], rfl, ?_, by decide⟩
  exact giveB_st (overL_mk (L1 := []) (L2 := [3]) rfl (overL_mk (L1 := [3]) (L2 := []) (giveB_hs (d := 6) (B := ⟨1, a.map oB, false⟩) rfl (okL 4 a) rfl) rfl))

theorem k10 (n m : Int) (a b : List (List Bool)) (ha : a.length ≤ 2 ^ 40) (hr : ∀ r ∈ a, r.length ≤ 2 ^ 40) : CALLB Γ T 10 [] [eO n a, eO m b] = some (.b (decide (n = m ∧ a = b)), []) := by
  apply call_ro rfl rfl rfl rfl
  repeat' (first | apply sq_n | apply sq_r | apply sq_x | apply bk_n | apply bk_r | apply bk_x | (apply bk_y (by decide)) | apply wp_seq | apply wp_rg | apply wr_nil | apply wr_op | apply wo_of rfl | apply wp_skip | apply wp_ret | (apply wp_cond rfl <;> intro hc) | apply wp_blk | apply wp_ex | apply wr_gt rfl (by assumption) | apply wr_gf rfl (by assumption) | (apply wr_gc rfl <;> intro hg))
  case h2 =>
    have hnm : n ≠ m := by simpa using hg
    rw [hg]
    repeat' (first | apply sq_n | apply sq_r | apply sq_x | apply bk_n | apply bk_r | apply bk_x | (apply bk_y (by decide)) | apply wp_seq | apply wp_rg | apply wr_nil | apply wr_op | apply wo_of rfl | apply wp_skip | apply wp_ret | (apply wp_cond rfl <;> intro hc) | apply wp_blk | apply wp_ex | apply wr_gt rfl (by assumption) | apply wr_gf rfl (by assumption) | (apply wr_gc rfl <;> intro hg))
    · refine ⟨_, _, _, rfl, ?_, List.nodup_nil⟩
      rw [decide_eq_false (fun h => hnm h.1)]; rfl
    · cases hc
  have hnm : n = m := by simpa using hg
  rw [hg]
  repeat' (first | apply sq_n | apply sq_r | apply sq_x | apply bk_n | apply bk_r | apply bk_x | (apply bk_y (by decide)) | apply wp_seq | apply wp_rg | apply wr_nil | apply wr_op | apply wo_of rfl | apply wp_skip | apply wp_ret | (apply wp_cond rfl <;> intro hc) | apply wp_blk | apply wp_ex | apply wr_gt rfl (by assumption) | apply wr_gf rfl (by assumption) | (apply wr_gc rfl <;> intro hg))
  · refine ⟨_, _, _, rfl, ?_, List.nodup_nil⟩
    have h : ¬ (n = m ∧ a = b) := by rintro ⟨_, rfl⟩; simp at hc
    rw [decide_eq_false h]; rfl
  have hl : a.length = b.length := by have h := hc; simp at h; omega
  refine wp_loop (α := Nat) (fun i s => i ≤ a.length ∧ a.take i = b.take i ∧ nmS [2, 3, 5] s = some ⟨envA [(2, .hp 0 0), (3, .hp 1 0), (5, .i (i : Nat))], heapA [some ⟨2, [eO n a], false⟩, some ⟨2, [eO m b], false⟩], 2, false⟩) (fun i => a.length - i) ?_ 0 ⟨by simp, by simp, rfl⟩
  rintro i s ⟨hi, hp, hs⟩
  apply wp_nm hs
  repeat' (first | apply sq_n | apply sq_r | apply sq_x | apply bk_n | apply bk_r | apply bk_x | (apply bk_y (by decide)) | apply wp_seq | apply wp_rg | apply wr_nil | apply wr_op | apply wo_of rfl | apply wp_skip | apply wp_ret | (apply wp_cond rfl <;> intro hc) | apply wp_blk | apply wp_ex | apply wr_gt rfl (by assumption) | apply wr_gf rfl (by assumption) | (apply wr_gc rfl <;> intro hg))
  · have hlt : i < a.length := by have := of_decide_eq_true hc; simp only [List.length_map] at this; omega
    have hlb : i < b.length := by omega
    apply wo_ia (e := eB a[i]) rfl rfl (by simp) (by simp [hlt]) rfl
    repeat' (first | apply sq_n | apply sq_r | apply sq_x | apply bk_n | apply bk_r | apply bk_x | (apply bk_y (by decide)) | apply wp_seq | apply wp_rg | apply wr_nil | apply wr_op | apply wo_of rfl | apply wp_skip | apply wp_ret | (apply wp_cond rfl <;> intro hc) | apply wp_blk | apply wp_ex | apply wr_gt rfl (by assumption) | apply wr_gf rfl (by assumption) | (apply wr_gc rfl <;> intro hg))
    apply wo_ia (e := eB b[i]) rfl rfl (by simp) (by simp [hlb]) rfl
    repeat' (first | apply sq_n | apply sq_r | apply sq_x | apply bk_n | apply bk_r | apply bk_x | (apply bk_y (by decide)) | apply wp_seq | apply wp_rg | apply wr_nil | apply wr_op | apply wo_of rfl | apply wp_skip | apply wp_ret | (apply wp_cond rfl <;> intro hc) | apply wp_blk | apply wp_ex | apply wr_gt rfl (by assumption) | apply wr_gf rfl (by assumption) | (apply wr_gc rfl <;> intro hg))
    · refine ⟨_, _, _, rfl, ?_, List.nodup_nil⟩
      have h : ¬ (n = m ∧ a = b) := by rintro ⟨_, rfl⟩; simp at hc
      rw [decide_eq_false h]; rfl
    have hll : a[i].length = b[i].length := by have h := hc; simp at h; omega
    have hla := hr _ (List.getElem_mem hlt)
    refine wp_loop (α := Nat) (fun k s => k ≤ a[i].length ∧ a[i].take k = b[i].take k ∧ nmS [2, 3, 5, 6] s = some ⟨envA [(2, .hp 0 0), (3, .hp 1 0), (5, .i (i : Nat)), (6, .i (k : Nat))], heapA [some ⟨2, [eO n a], false⟩, some ⟨2, [eO m b], false⟩], 2, false⟩) (fun k => a[i].length - k) ?_ 0 ⟨by simp, by simp, rfl⟩
    rintro k s ⟨hk, hq, hs⟩
    apply wp_nm hs
    repeat' (first | apply sq_n | apply sq_r | apply sq_x | apply bk_n | apply bk_r | apply bk_x | (apply bk_y (by decide)) | apply wp_seq | apply wp_rg | apply wr_nil | apply wr_op | apply wo_of rfl | apply wp_skip | apply wp_ret | (apply wp_cond rfl <;> intro hc) | apply wp_blk | apply wp_ex | apply wr_gt rfl (by assumption) | apply wr_gf rfl (by assumption) | (apply wr_gc rfl <;> intro hg))
    apply wo_ia (e := eB a[i]) rfl rfl (by simp) (by simp [hlt]) rfl
    repeat' (first | apply sq_n | apply sq_r | apply sq_x | apply bk_n | apply bk_r | apply bk_x | (apply bk_y (by decide)) | apply wp_seq | apply wp_rg | apply wr_nil | apply wr_op | apply wo_of rfl | apply wp_skip | apply wp_ret | (apply wp_cond rfl <;> intro hc) | apply wp_blk | apply wp_ex | apply wr_gt rfl (by assumption) | apply wr_gf rfl (by assumption) | (apply wr_gc rfl <;> intro hg))
    · have hkt : k < a[i].length := by have := of_decide_eq_true hc; simp only [List.length_map] at this; omega
      have hkb : k < b[i].length := by omega
      apply wo_ia (e := eB a[i]) rfl rfl (by simp) (by simp [hlt]) rfl
      repeat' (first | apply sq_n | apply sq_r | apply sq_x | apply bk_n | apply bk_r | apply bk_x | (apply bk_y (by decide)) | apply wp_seq | apply wp_rg | apply wr_nil | apply wr_op | apply wo_of rfl | apply wp_skip | apply wp_ret | (apply wp_cond rfl <;> intro hc) | apply wp_blk | apply wp_ex | apply wr_gt rfl (by assumption) | apply wr_gf rfl (by assumption) | (apply wr_gc rfl <;> intro hg))
      apply wo_ia (e := .b a[i][k]) rfl rfl (by simp) (by simp [hkt]) rfl
      repeat' (first | apply sq_n | apply sq_r | apply sq_x | apply bk_n | apply bk_r | apply bk_x | (apply bk_y (by decide)) | apply wp_seq | apply wp_rg | apply wr_nil | apply wr_op | apply wo_of rfl | apply wp_skip | apply wp_ret | (apply wp_cond rfl <;> intro hc) | apply wp_blk | apply wp_ex | apply wr_gt rfl (by assumption) | apply wr_gf rfl (by assumption) | (apply wr_gc rfl <;> intro hg))
      apply wo_ia (e := eB b[i]) rfl rfl (by simp) (by simp [hlb]) rfl
      repeat' (first | apply sq_n | apply sq_r | apply sq_x | apply bk_n | apply bk_r | apply bk_x | (apply bk_y (by decide)) | apply wp_seq | apply wp_rg | apply wr_nil | apply wr_op | apply wo_of rfl | apply wp_skip | apply wp_ret | (apply wp_cond rfl <;> intro hc) | apply wp_blk | apply wp_ex | apply wr_gt rfl (by assumption) | apply wr_gf rfl (by assumption) | (apply wr_gc rfl <;> intro hg))
      apply wo_ia (e := .b b[i][k]) rfl rfl (by simp) (by simp [hkb]) rfl
      repeat' (first | apply sq_n | apply sq_r | apply sq_x | apply bk_n | apply bk_r | apply bk_x | (apply bk_y (by decide)) | apply wp_seq | apply wp_rg | apply wr_nil | apply wr_op | apply wo_of rfl | apply wp_skip | apply wp_ret | (apply wp_cond rfl <;> intro hc) | apply wp_blk | apply wp_ex | apply wr_gt rfl (by assumption) | apply wr_gf rfl (by assumption) | (apply wr_gc rfl <;> intro hg))
      · refine ⟨_, _, _, rfl, ?_, List.nodup_nil⟩
        have h : ¬ (n = m ∧ a = b) := by rintro ⟨_, rfl⟩; simp at hc
        rw [decide_eq_false h]; rfl
      · have he : a[i][k] = b[i][k] := by simpa using hc
        refine ⟨k + 1, by omega, by omega, ?_, ?_⟩
        · rw [List.take_succ_eq_append_getElem hkt, List.take_succ_eq_append_getElem hkb, hq, he]
        · rw [← wrap_succ (by omega)]; rfl
    · have hkt : ¬ k < a[i].length := by have := of_decide_eq_false hc; simp only [List.length_map] at this; omega
      obtain rfl : k = a[i].length := by omega
      have he : a[i] = b[i] := by rw [List.take_length, hll, List.take_length] at hq; exact hq
      refine ⟨i + 1, by omega, by omega, ?_, ?_⟩
      · rw [List.take_succ_eq_append_getElem hlt, List.take_succ_eq_append_getElem hlb, hp, he]
      · rw [← wrap_succ (by omega)]; rfl
  · have hlt : ¬ i < a.length := by have := of_decide_eq_false hc; simp only [List.length_map] at this; omega
    obtain rfl : i = a.length := by omega
    refine ⟨_, _, _, rfl, ?_, List.nodup_nil⟩
    rw [List.take_length, hl, List.take_length] at hp
    rw [decide_eq_true (show n = m ∧ a = b from ⟨hnm, hp⟩)]; rfl

theorem sz1_ge {len : Nat} {n : Int} (h : ¬ sz1 len n < 0) (hn : n ≤ 1048576) (hl : len ≤ 9223372036854775807) (h0 : 0 ≤ n) : (len : Int) ≤ n ∧ sz1 len n ≤ n ∧ 0 ≤ sz1 len n := by
  unfold sz1 at h ⊢
  rw [wrap_id (by omega) (by omega)] at h ⊢
  split at h
  · omega
  · rw [if_neg (by omega)]; omega
theorem szL_ge : ∀ {l : List (List Bool)} {n : Int}, ¬ szL (fun r : List Bool => sz1 r.length) l n < 0 → n ≤ 1048576 → 0 ≤ n → (∀ r ∈ l, r.length ≤ 9223372036854775807) → ∀ r ∈ l, r.length ≤ 1048576
  | [], n, _, _, _, _ => by simp
  | x :: l, n, h, hn, h0, hr => by
    unfold szL at h
    split at h
    · omega
    · rename_i h1
      obtain ⟨h2, h3, h4⟩ := sz1_ge h1 hn (hr x (by simp)) h0
      intro r hm
      rcases List.mem_cons.1 hm with rfl | hm
      · omega
      · exact szL_ge h (by omega) h4 (fun r h => hr r (by simp [h])) r hm
theorem szL_le : ∀ {l : List (List Bool)} {n : Int}, n ≤ 1048576 → 0 ≤ n → (∀ r ∈ l, r.length ≤ 9223372036854775807) → szL (fun r : List Bool => sz1 r.length) l n ≤ 1048576
  | [], n, hn, _, _ => by simpa [szL] using hn
  | x :: l, n, hn, h0, hr => by
    unfold szL
    split
    · omega
    · rename_i h1
      obtain ⟨h2, h3, h4⟩ := sz1_ge h1 hn (hr x (by simp)) h0
      exact szL_le (by omega) h4 fun r h => hr r (by simp [h])
theorem szO_ge {a : List (List Bool)} {n : Int} (h : ¬ szO a n < 0) (hn : n ≤ 1048576) (h0 : 0 ≤ n) (hl : a.length ≤ 9223372036854775807) (hr : ∀ r ∈ a, r.length ≤ 9223372036854775807) : a.length ≤ 1048576 ∧ (∀ r ∈ a, r.length ≤ 1048576) ∧ szO a n ≤ 1048576 ∧ 0 ≤ szO a n := by
  unfold szO at h ⊢
  split at h
  · omega
  rename_i h1
  rw [if_neg h1]
  unfold szS at h1 ⊢
  rw [wrap_id (by omega) (by omega)] at h1 ⊢
  split at h1
  · omega
  rename_i h2
  rw [if_neg h2]
  exact ⟨by omega, szL_ge h1 (by omega) (by omega) hr, szL_le (by omega) (by omega) hr, by omega⟩

theorem takeO (q : Int) (a : List (List Bool)) (s : S) : takeB DEP (oO q a) s = some (.st [.i q, .hs s.nx 0 (a.map oB).length (a.map oB).length], s.new 1 (a.map oB)) := by
  show takeB (7 + 1) (.st [_, _]) s = _
  simp only [takeB, takeL]
  rw [if_pos (show okD 7 (.ow 1 (a.map oB)) = true from okL 4 a)]
theorem roB (d : Nat) (r : List Bool) : roT (d + 2) (oB r) = some (eB r) := by
  have h : overL (fun c => (roT (d + 1) c).map fun t => (t, ([] : List Nat))) (r.map .b) = some (r.map .b, []) := overL_map fun x _ => rfl
  have e : roT (d + 2) (oB r) = (match overL (fun c => (roT (d + 1) c).map fun t => (t, ([] : List Nat))) (r.map V.b) with | some (ts, _) => some ts | none => none).map .sl := rfl
  rw [e, h]; rfl
theorem snapO {H : Nat → Option Blk} {q : Int} {a : List (List Bool)} {b n c : Nat} (hB : H b = some ⟨1, a.map oB, false⟩) (hn : n = (a.map oB).length) : snapB DEP H (.st [.i q, .hs b 0 n c]) = some (eO q a, [b]) :=
  snapB_st (overL_mk (L1 := []) (L2 := [b]) rfl (overL_mk (L1 := [b]) (L2 := []) (snapB_hs (d := 6) (B := ⟨1, a.map oB, false⟩) hB (overL_map fun r _ => by
    show snapB 6 H (oB r) = _
    show (roT 6 (oB r)).map _ = _
    rw [roB 4]; rfl) hn) rfl))
theorem handOO {H : Nat → Option Blk} {q p : Int} {a b : List (List Bool)} {x y n c m e : Nat} (hx : H x = some ⟨1, a.map oB, false⟩) (hn : n = (a.map oB).length) (hy : H y = some ⟨1, b.map oB, false⟩) (hm : m = (b.map oB).length) :
    handB H [] [.st [.i q, .hs x 0 n c], .st [.i p, .hs y 0 m e]] = some ([eO q a, eO p b], [x, y], []) := by
  simp only [handB, List.headD_nil, snapO hx hn, snapO hy hm, Option.map_some, List.append_nil, List.singleton_append]
  rfl

theorem k3 (n m : Int) (a b : List (List Bool)) (ha : a.length ≤ 9223372036854775807) (hra : ∀ r ∈ a, r.length ≤ 9223372036854775807) (hb : b.length ≤ 9223372036854775807) (hrb : ∀ r ∈ b, r.length ≤ 9223372036854775807) : CALLB Γ T 3 [] [eO n a, eO m b] = some (.b true, []) := by
  apply call_ro rfl rfl rfl rfl
  repeat' (first | apply sq_n | apply sq_r | apply sq_x | apply bk_n | apply bk_r | apply bk_x | (apply bk_y (by decide)) | apply wp_seq | apply wp_rg | apply wr_nil | apply wr_op | apply wo_of rfl | apply wp_skip | apply wp_ret | (apply wp_cond rfl <;> intro hc) | apply wp_blk | apply wp_ex | apply wr_gt rfl (by assumption) | apply wr_gf rfl (by assumption) | (apply wr_gc rfl <;> intro hg) | apply wo_call0 rfl rfl rfl rfl (k9 n 1048576 a ha) rfl)
  · exact ⟨_, _, _, rfl, rfl, List.nodup_nil⟩
  obtain ⟨h1, h2, h3, h4⟩ := szO_ge (of_decide_eq_false hc) (by omega) (by omega) ha hra
  repeat' (first | apply sq_n | apply sq_r | apply sq_x | apply bk_n | apply bk_r | apply bk_x | (apply bk_y (by decide)) | apply wp_seq | apply wp_rg | apply wr_nil | apply wr_op | apply wo_of rfl | apply wp_skip | apply wp_ret | (apply wp_cond rfl <;> intro hc) | apply wp_blk | apply wp_ex | apply wr_gt rfl (by assumption) | apply wr_gf rfl (by assumption) | (apply wr_gc rfl <;> intro hg) | apply wo_call0 rfl rfl rfl rfl (k9 m _ b hb) rfl)
  · exact ⟨_, _, _, rfl, rfl, List.nodup_nil⟩
  obtain ⟨h5, h6, h7, h8⟩ := szO_ge (of_decide_eq_false hc) h3 h4 hb hrb
  have a1 : a.length ≤ 2 ^ 36 := by omega
  have a2 : ∀ r ∈ a, r.length ≤ 2 ^ 36 := fun r h => by have := h2 r h; omega
  have b1 : b.length ≤ 2 ^ 36 := by omega
  have b2 : ∀ r ∈ b, r.length ≤ 2 ^ 36 := fun r h => by have := h6 r h; omega
  have a3 : a.length ≤ 2 ^ 40 := by omega
  have a4 : ∀ r ∈ a, r.length ≤ 2 ^ 40 := fun r h => by have := h2 r h; omega
  have b3 : b.length ≤ 2 ^ 40 := by omega
  have b4 : ∀ r ∈ b, r.length ≤ 2 ^ 40 := fun r h => by have := h6 r h; omega
  repeat' (first | apply sq_n | apply sq_r | apply sq_x | apply bk_n | apply bk_r | apply bk_x | (apply bk_y (by decide)) | apply wp_seq | apply wp_rg | apply wr_nil | apply wr_op | apply wo_of rfl | apply wp_skip | apply wp_ret | (apply wp_cond rfl <;> intro hc) | apply wp_blk | apply wp_ex | apply wr_gt rfl (by assumption) | apply wr_gf rfl (by assumption) | (apply wr_gc rfl <;> intro hg) | apply wo_call0 rfl rfl rfl rfl (k11 n a a1 a2) (takeO n a _) | apply wo_call0 rfl rfl rfl rfl (k11 m b b1 b2) (takeO m b _) | apply wo_callr (f := 10) (caps := []) rfl rfl rfl rfl (handOO rfl rfl rfl rfl) (k10 n m a b a3 a4) rfl rfl | apply wo_callr (f := 12) (caps := []) rfl rfl rfl rfl (handOO rfl rfl rfl rfl) (k12 n m a b a3 a4) rfl rfl | apply wo_callr (f := 13) (caps := []) rfl rfl rfl rfl (handOO rfl rfl rfl rfl) (k13 n n a a a3 a4) rfl rfl | apply wo_callr (f := 13) (caps := []) rfl rfl rfl rfl (handOO rfl rfl rfl rfl) (k13 m m b b b3 b4) rfl rfl)
  · exfalso; revert hc; cases decide (n = m ∧ a = b) <;> simp
  · exfalso; simp at hc
  · exfalso; simp at hc
  · exact ⟨_, _, _, rfl, rfl, List.nodup_nil⟩

open Go.Proofs
theorem tb3 : Am.tab Try.prog Γ.md 3 = some c3.er := by
  rw [tab, Try.func3]
  kernel_rfl
theorem sk3 : c3.body.sok = true := by kernel_rfl
theorem tb10 : Am.tab Try.prog Γ.md 10 = some c10.er := by
  rw [tab, Try.func10]
  kernel_rfl
theorem sk10 : c10.body.sok = true := by kernel_rfl
theorem tb71 : Am.tab Try.prog Γ.md 71 = some c71.er := by
  rw [tab, Try.func71]
  kernel_rfl
theorem sk71 : c71.body.sok = true := by kernel_rfl
theorem tb45 : Am.tab Try.prog Γ.md 45 = some c45.er := by
  rw [tab, Try.func45]
  kernel_rfl
theorem sk45 : c45.body.sok = true := by kernel_rfl
theorem tb13 : Am.tab Try.prog Γ.md 13 = some c13.er := by
  rw [tab, Try.func13]
  kernel_rfl
theorem sk13 : c13.body.sok = true := by kernel_rfl
theorem tb44 : Am.tab Try.prog Γ.md 44 = some c44.er := by
  rw [tab, Try.func44]
  kernel_rfl
theorem sk44 : c44.body.sok = true := by kernel_rfl
theorem tb43 : Am.tab Try.prog Γ.md 43 = some c43.er := by
  rw [tab, Try.func43]
  kernel_rfl
theorem sk43 : c43.body.sok = true := by kernel_rfl
theorem tb42 : Am.tab Try.prog Γ.md 42 = some c42.er := by
  rw [tab, Try.func42]
  kernel_rfl
theorem sk42 : c42.body.sok = true := by kernel_rfl
theorem tb12 : Am.tab Try.prog Γ.md 12 = some c12.er := by
  rw [tab, Try.func12]
  kernel_rfl
theorem sk12 : c12.body.sok = true := by kernel_rfl
theorem tb9 : Am.tab Try.prog Γ.md 9 = some c9.er := by
  rw [tab, Try.func9]
  kernel_rfl
theorem sk9 : c9.body.sok = true := by kernel_rfl
theorem tb11 : Am.tab Try.prog Γ.md 11 = some c11.er := by
  rw [tab, Try.func11]
  kernel_rfl
theorem sk11 : c11.body.sok = true := by kernel_rfl
theorem tb40 : Am.tab Try.prog Γ.md 40 = some c40.er := by
  rw [tab, Try.func40]
  kernel_rfl
theorem sk40 : c40.body.sok = true := by kernel_rfl
theorem tb69 : Am.tab Try.prog Γ.md 69 = some c69.er := by
  rw [tab, Try.func69]
  kernel_rfl
theorem sk69 : c69.body.sok = true := by kernel_rfl
theorem tb70 : Am.tab Try.prog Γ.md 70 = some c70.er := by
  rw [tab, Try.func70]
  kernel_rfl
theorem sk70 : c70.body.sok = true := by kernel_rfl
theorem tb41 : Am.tab Try.prog Γ.md 41 = some c41.er := by
  rw [tab, Try.func41]
  kernel_rfl
theorem sk41 : c41.body.sok = true := by kernel_rfl

theorem mixed : Try.prog.follows .mixedOrders = true := by kernel_rfl
theorem envOK : EnvOK Try.prog Γ := by
  refine ⟨fun f F h => ?_, fun f p ms args r us h => (by cases h), mixed⟩
  obtain ⟨x, hx, rfl⟩ := Option.map_eq_some_iff.1 (show (T f).map FB.er = some F from h)
  unfold T at hx
  split at hx
  · cases hx; exact tb3
  · cases hx; exact tb10
  · cases hx; exact tb71
  · cases hx; exact tb45
  · cases hx; exact tb13
  · cases hx; exact tb44
  · cases hx; exact tb43
  · cases hx; exact tb42
  · cases hx; exact tb12
  · cases hx; exact tb9
  · cases hx; exact tb11
  · cases hx; exact tb40
  · cases hx; exact tb69
  · cases hx; exact tb70
  · cases hx; exact tb41
  · cases hx
theorem envB : EnvB Γ T := by
  refine ⟨fun f x hx => ⟨by show (T f).map FB.er = _; rw [hx]; rfl, ?_⟩, fun f p args r us h => (by cases h)⟩
  unfold T at hx
  split at hx
  · cases hx; exact sk3
  · cases hx; exact sk10
  · cases hx; exact sk71
  · cases hx; exact sk45
  · cases hx; exact sk13
  · cases hx; exact sk44
  · cases hx; exact sk43
  · cases hx; exact sk42
  · cases hx; exact sk12
  · cases hx; exact sk9
  · cases hx; exact sk11
  · cases hx; exact sk40
  · cases hx; exact sk69
  · cases hx; exact sk70
  · cases hx; exact sk41
  · cases hx
theorem listMap {α : Type} {f : α → V} {Q : α → Prop} : ∀ {es : List V}, (∀ x ∈ es, ∃ y, x = f y ∧ Q y) → ∃ l : List α, es = l.map f ∧ ∀ y ∈ l, Q y
  | [], _ => ⟨[], rfl, by simp⟩
  | x :: es, h => by
    obtain ⟨y, rfl, hy⟩ := h x (by simp)
    obtain ⟨l, rfl, hl⟩ := listMap (es := es) fun z hz => h z (by simp [hz])
    exact ⟨y :: l, rfl, by simpa using ⟨hy, hl⟩⟩

section
variable {P : Program} {d : Nat} {t : TypeId} {v : V}
theorem ty_struct {fs : Array Field} (hu : P.underlying t = some (.struct fs)) (h : TY P (d + 1) t v) : ∃ cs, v = .st cs ∧ cs.length = fs.size ∧ ∀ (i : Nat) (f : Field), fs[i]? = some f → ∃ c, cs[i]? = some c ∧ TY P d f.type c := by simp only [TY, hu] at h; exact h
theorem ty_slice {e : TypeId} (hu : P.underlying t = some (.slice e)) (h : TY P (d + 1) t v) : ∃ es, v = .sl es ∧ es.length ≤ maxLen ∧ ∀ x ∈ es, TY P d e x := by simp only [TY, hu] at h; exact h
theorem ty_bool (hu : P.underlying t = some .bool) (h : TY P (d + 1) t v) : ∃ b, v = .b b := by simp only [TY, hu] at h; exact h
theorem ty_int {k : IntKind} (hu : P.underlying t = some (.int k)) (h : TY P (d + 1) t v) : ∃ n, v = .im (.int k n) ∧ (Lit.int k n).wf = true := by simp only [TY, hu] at h; exact h
end
theorem tyO {v : V} (h : TY Try.prog 8 24 v) : ∃ n a, v = eO n a ∧ a.length ≤ 9223372036854775807 ∧ ∀ r ∈ a, r.length ≤ 9223372036854775807 := by
  obtain ⟨cs, rfl, hl, hc⟩ := ty_struct (d := 7) Try.underlying24 h
  obtain ⟨c0, h0, t0⟩ := hc 0 _ rfl
  obtain ⟨c1, h1, t1⟩ := hc 1 _ rfl
  obtain ⟨n, rfl, _⟩ := ty_int (d := 6) Try.underlying3 t0
  obtain ⟨es, rfl, hle, he⟩ := ty_slice (d := 6) Try.underlying22 t1
  have : ∃ a : List (List Bool), es = a.map eB ∧ ∀ r ∈ a, r.length ≤ maxLen := by
    refine listMap fun x hx => ?_
    have t := he x hx
    obtain ⟨bs, rfl, hlb, hb⟩ := ty_slice (d := 5) Try.underlying60 t
    have : ∃ l : List Bool, bs = l.map .b ∧ ∀ y ∈ l, True := by
      refine listMap fun y hy => ?_
      have t := hb y hy
      obtain ⟨b, rfl⟩ := ty_bool (d := 4) Try.underlying4 t
      exact ⟨b, rfl, trivial⟩
    obtain ⟨l, rfl, _⟩ := this
    exact ⟨l, rfl, by simpa using hlb⟩
  obtain ⟨a, rfl, ha⟩ := this
  refine ⟨n, a, ?_, by simpa [maxLen] using hle, fun r hr => by simpa [maxLen] using ha r hr⟩
  match cs, hl, h0, h1 with
  | [x, y], _, h0, h1 =>
    simp at h0 h1
    subst h0 h1
    rfl
theorem own : ownKnob Try.prog.godebug = none := by kernel_rfl
theorem kids : Kids Try.prog (· < Try.prog.types.size) := kids_rows (by kernel_rfl) (by kernel_rfl)
theorem full : ∀ t e, t < Try.prog.types.size → Try.prog.underlying t = some (.slice e) → 0 < Try.prog.cellsOf e := slices_full_of _ (by kernel_rfl)
theorem ok24 : okT Try.prog 8 24 = true := by kernel_rfl
theorem lt24 : 24 < Try.prog.types.size := of_decide_eq_true (by kernel_rfl)

theorem iso3 (vs : List V) (h : TYs Try.prog 8 [24, 24] vs) : IsoOK Try.prog 3 [] vs (.b true) [] := by
  obtain ⟨v, vs', rfl, h1, w, vs'', rfl, h2, rfl⟩ := h
  obtain ⟨n, a, rfl, ha, hra⟩ := tyO h1
  obtain ⟨m, b, rfl, hb, hrb⟩ := tyO h2
  exact CALLB_ok envOK envB rfl (by simp only [PurL]; exact ⟨Ror.pur _ h1.ror, Ror.pur _ h2.ror, trivial⟩) (k3 n m a b ha hra hb hrb)

open Go.Proofs.Ytocgmaekciphcaa in
set_option maxRecDepth 100000 in
theorem lifted (os : Os) (started : os.Started) (H : Type) (enc : TypeId × Value → H) :
    ReturnsInHanded {} Try.checked os 3 .any (Rows.fnExactEqualOrdersSpec.pre6 enc Try.prog Try.f3 Rows.fnExactEqualOrdersRow.domain false) (Rows.fnExactEqualOrdersSpec.post enc Try.prog Try.f3 false true false false) := by
  refine returnsInHanded_of_change (C := Try.checked) own started (by kernel_rfl) Try.func3
    (ChangeSpec.witness6 (enc := enc) (C := Try.checked) false ⟨#[], #[.agg #[.int .i64 0, .slice none 0 0], .agg #[.int .i64 0, .slice none 0 0]], []⟩ 8 (by kernel_rfl) (by kernel_rfl) (by kernel_rfl) (by kernel_rfl)) ?_
  intro W base args ds gs before hval hW hcnd _
  exact law_post (d := 8) (tb := 4) kids full hval hW rfl (fun ds hd => by
    match ds, hd with
    | [d1, d2], _ => rfl) rfl Try.underlying4 (by
      intro t ht
      have : t = 24 := by simpa [Try.f3] using ht
      subst this; exact ⟨ok24, lt24⟩) iso3

end Go.Am

namespace Go.Proofs.Ytocgmaekciphcaa
open Go.Am in
theorem fnExactEqualOrders_holds : Rows.FnExactEqualOrdersSaid :=
  OpenClaim.holds_of_wide 3 Try.f3 rfl rfl rfl rfl rfl rfl rfl ⟨rfl, rfl, rfl, rfl, rfl⟩ rfl rfl rfl rfl rfl (by kernel_rfl) Try.func3 (by kernel_rfl)
    (of_decide_eq_true (by kernel_rfl)) (by unfold Func.isWrapper; first | (rw [if_pos (by decide +kernel)]; kernel_rfl) | (rw [if_neg (by decide +kernel)]; exact ⟨rfl, rfl⟩))
    (fun os started H enc _ => Go.Am.lifted os started H enc)
#print axioms fnExactEqualOrders_holds
end Go.Proofs.Ytocgmaekciphcaa
