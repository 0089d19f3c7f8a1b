import Derived.Test.YtmiffikcnkgcpaaDoorCtx
namespace Go.Proofs.YtmiffikcnkgcpaaDoor
open Go Go.Ab
set_option maxRecDepth 100000

def m0 : Memo := []
theorem m0_ok : MemoOk X m0 := memo_nil
theorem c1 : topK X (memoK (evF X ovr 200) m0) 200 14 [(.v (.string ⟨#[49, 55, 45, 74, 117, 108, 45, 49, 57, 57, 54]⟩)), (.v (.string ⟨#[45]⟩))] = some (.lst 1 false [(.v (.string ⟨#[49, 55]⟩)), (.v (.string ⟨#[74, 117, 108]⟩)), (.v (.string ⟨#[49, 57, 57, 54]⟩))]) := by kernel_rfl
theorem p1 : PureCall X 14 [(.v (.string ⟨#[49, 55, 45, 74, 117, 108, 45, 49, 57, 57, 54]⟩)), (.v (.string ⟨#[45]⟩))] (.lst 1 false [(.v (.string ⟨#[49, 55]⟩)), (.v (.string ⟨#[74, 117, 108]⟩)), (.v (.string ⟨#[49, 57, 57, 54]⟩))]) := top_ok soundX (memo_ok (ev_ok soundX ovr_ok 200) m0 m0_ok) 200 _ _ _ c1
def m1 : Memo := (14, [(.v (.string ⟨#[49, 55, 45, 74, 117, 108, 45, 49, 57, 57, 54]⟩)), (.v (.string ⟨#[45]⟩))], (.lst 1 false [(.v (.string ⟨#[49, 55]⟩)), (.v (.string ⟨#[74, 117, 108]⟩)), (.v (.string ⟨#[49, 57, 57, 54]⟩))])) :: m0
theorem m1_ok : MemoOk X m1 := memo_cons p1 m0_ok
theorem c2 : topK X (memoK (evF X ovr 200) m0) 200 27 [(.v (.string ⟨#[49, 55]⟩)), (.v (.int .i64 (1))), (.v (.int .i64 (2)))] = some (.tup [(.v (.int .i64 (17))), (.v (.bool true))]) := by kernel_rfl
theorem p2 : PureCall X 27 [(.v (.string ⟨#[49, 55]⟩)), (.v (.int .i64 (1))), (.v (.int .i64 (2)))] (.tup [(.v (.int .i64 (17))), (.v (.bool true))]) := top_ok soundX (memo_ok (ev_ok soundX ovr_ok 200) m0 m0_ok) 200 _ _ _ c2
def m2 : Memo := (27, [(.v (.string ⟨#[49, 55]⟩)), (.v (.int .i64 (1))), (.v (.int .i64 (2)))], (.tup [(.v (.int .i64 (17))), (.v (.bool true))])) :: m1
theorem m2_ok : MemoOk X m2 := memo_cons p2 m1_ok
theorem c3 : topK X (memoK (evF X ovr 200) m0) 200 27 [(.v (.string ⟨#[49, 57, 57, 54]⟩)), (.v (.int .i64 (4))), (.v (.int .i64 (4)))] = some (.tup [(.v (.int .i64 (1996))), (.v (.bool true))]) := by kernel_rfl
theorem p3 : PureCall X 27 [(.v (.string ⟨#[49, 57, 57, 54]⟩)), (.v (.int .i64 (4))), (.v (.int .i64 (4)))] (.tup [(.v (.int .i64 (1996))), (.v (.bool true))]) := top_ok soundX (memo_ok (ev_ok soundX ovr_ok 200) m0 m0_ok) 200 _ _ _ c3
def m3 : Memo := (27, [(.v (.string ⟨#[49, 57, 57, 54]⟩)), (.v (.int .i64 (4))), (.v (.int .i64 (4)))], (.tup [(.v (.int .i64 (1996))), (.v (.bool true))])) :: m2
theorem m3_ok : MemoOk X m3 := memo_cons p3 m2_ok
theorem c4 : topK X (memoK (evF X ovr 200) m0) 200 28 [(.v (.string ⟨#[74, 97, 110]⟩)), (.v (.string ⟨#[74, 117, 108]⟩))] = some (.v (.bool false)) := by kernel_rfl
theorem p4 : PureCall X 28 [(.v (.string ⟨#[74, 97, 110]⟩)), (.v (.string ⟨#[74, 117, 108]⟩))] (.v (.bool false)) := top_ok soundX (memo_ok (ev_ok soundX ovr_ok 200) m0 m0_ok) 200 _ _ _ c4
def m4 : Memo := (28, [(.v (.string ⟨#[74, 97, 110]⟩)), (.v (.string ⟨#[74, 117, 108]⟩))], (.v (.bool false))) :: m3
theorem m4_ok : MemoOk X m4 := memo_cons p4 m3_ok
theorem c5 : topK X (memoK (evF X ovr 200) m0) 200 28 [(.v (.string ⟨#[70, 101, 98]⟩)), (.v (.string ⟨#[74, 117, 108]⟩))] = some (.v (.bool false)) := by kernel_rfl
theorem p5 : PureCall X 28 [(.v (.string ⟨#[70, 101, 98]⟩)), (.v (.string ⟨#[74, 117, 108]⟩))] (.v (.bool false)) := top_ok soundX (memo_ok (ev_ok soundX ovr_ok 200) m0 m0_ok) 200 _ _ _ c5
def m5 : Memo := (28, [(.v (.string ⟨#[70, 101, 98]⟩)), (.v (.string ⟨#[74, 117, 108]⟩))], (.v (.bool false))) :: m4
theorem m5_ok : MemoOk X m5 := memo_cons p5 m4_ok
theorem c6 : topK X (memoK (evF X ovr 200) m0) 200 28 [(.v (.string ⟨#[77, 97, 114]⟩)), (.v (.string ⟨#[74, 117, 108]⟩))] = some (.v (.bool false)) := by kernel_rfl
theorem p6 : PureCall X 28 [(.v (.string ⟨#[77, 97, 114]⟩)), (.v (.string ⟨#[74, 117, 108]⟩))] (.v (.bool false)) := top_ok soundX (memo_ok (ev_ok soundX ovr_ok 200) m0 m0_ok) 200 _ _ _ c6
def m6 : Memo := (28, [(.v (.string ⟨#[77, 97, 114]⟩)), (.v (.string ⟨#[74, 117, 108]⟩))], (.v (.bool false))) :: m5
theorem m6_ok : MemoOk X m6 := memo_cons p6 m5_ok
theorem c7 : topK X (memoK (evF X ovr 200) m0) 200 28 [(.v (.string ⟨#[65, 112, 114]⟩)), (.v (.string ⟨#[74, 117, 108]⟩))] = some (.v (.bool false)) := by kernel_rfl
theorem p7 : PureCall X 28 [(.v (.string ⟨#[65, 112, 114]⟩)), (.v (.string ⟨#[74, 117, 108]⟩))] (.v (.bool false)) := top_ok soundX (memo_ok (ev_ok soundX ovr_ok 200) m0 m0_ok) 200 _ _ _ c7
def m7 : Memo := (28, [(.v (.string ⟨#[65, 112, 114]⟩)), (.v (.string ⟨#[74, 117, 108]⟩))], (.v (.bool false))) :: m6
theorem m7_ok : MemoOk X m7 := memo_cons p7 m6_ok
theorem c8 : topK X (memoK (evF X ovr 200) m0) 200 28 [(.v (.string ⟨#[77, 97, 121]⟩)), (.v (.string ⟨#[74, 117, 108]⟩))] = some (.v (.bool false)) := by kernel_rfl
theorem p8 : PureCall X 28 [(.v (.string ⟨#[77, 97, 121]⟩)), (.v (.string ⟨#[74, 117, 108]⟩))] (.v (.bool false)) := top_ok soundX (memo_ok (ev_ok soundX ovr_ok 200) m0 m0_ok) 200 _ _ _ c8
def m8 : Memo := (28, [(.v (.string ⟨#[77, 97, 121]⟩)), (.v (.string ⟨#[74, 117, 108]⟩))], (.v (.bool false))) :: m7
theorem m8_ok : MemoOk X m8 := memo_cons p8 m7_ok
theorem c9 : topK X (memoK (evF X ovr 200) m0) 200 28 [(.v (.string ⟨#[74, 117, 110]⟩)), (.v (.string ⟨#[74, 117, 108]⟩))] = some (.v (.bool false)) := by kernel_rfl
theorem p9 : PureCall X 28 [(.v (.string ⟨#[74, 117, 110]⟩)), (.v (.string ⟨#[74, 117, 108]⟩))] (.v (.bool false)) := top_ok soundX (memo_ok (ev_ok soundX ovr_ok 200) m0 m0_ok) 200 _ _ _ c9
def m9 : Memo := (28, [(.v (.string ⟨#[74, 117, 110]⟩)), (.v (.string ⟨#[74, 117, 108]⟩))], (.v (.bool false))) :: m8
theorem m9_ok : MemoOk X m9 := memo_cons p9 m8_ok
theorem c10 : topK X (memoK (evF X ovr 200) m0) 200 28 [(.v (.string ⟨#[74, 117, 108]⟩)), (.v (.string ⟨#[74, 117, 108]⟩))] = some (.v (.bool true)) := by kernel_rfl
theorem p10 : PureCall X 28 [(.v (.string ⟨#[74, 117, 108]⟩)), (.v (.string ⟨#[74, 117, 108]⟩))] (.v (.bool true)) := top_ok soundX (memo_ok (ev_ok soundX ovr_ok 200) m0 m0_ok) 200 _ _ _ c10
def m10 : Memo := (28, [(.v (.string ⟨#[74, 117, 108]⟩)), (.v (.string ⟨#[74, 117, 108]⟩))], (.v (.bool true))) :: m9
theorem m10_ok : MemoOk X m10 := memo_cons p10 m9_ok
theorem c11 : topK X (memoK (evF X ovr 200) m10) 200 15 [(.v (.string ⟨#[49, 55]⟩)), (.v (.string ⟨#[74, 117, 108]⟩)), (.v (.string ⟨#[49, 57, 57, 54]⟩))] = some (.tup [(.v (.int .i64 (9694))), (.v (.bool true))]) := by kernel_rfl
theorem p11 : PureCall X 15 [(.v (.string ⟨#[49, 55]⟩)), (.v (.string ⟨#[74, 117, 108]⟩)), (.v (.string ⟨#[49, 57, 57, 54]⟩))] (.tup [(.v (.int .i64 (9694))), (.v (.bool true))]) := top_ok soundX (memo_ok (ev_ok soundX ovr_ok 200) m10 m10_ok) 200 _ _ _ c11
def m11 : Memo := (15, [(.v (.string ⟨#[49, 55]⟩)), (.v (.string ⟨#[74, 117, 108]⟩)), (.v (.string ⟨#[49, 57, 57, 54]⟩))], (.tup [(.v (.int .i64 (9694))), (.v (.bool true))])) :: m10
theorem m11_ok : MemoOk X m11 := memo_cons p11 m10_ok
theorem c12 : topK X (memoK (evF X ovr 200) m0) 200 14 [(.v (.string ⟨#[48, 50, 58, 52, 52, 58, 50, 53]⟩)), (.v (.string ⟨#[58]⟩))] = some (.lst 1 false [(.v (.string ⟨#[48, 50]⟩)), (.v (.string ⟨#[52, 52]⟩)), (.v (.string ⟨#[50, 53]⟩))]) := by kernel_rfl
theorem p12 : PureCall X 14 [(.v (.string ⟨#[48, 50, 58, 52, 52, 58, 50, 53]⟩)), (.v (.string ⟨#[58]⟩))] (.lst 1 false [(.v (.string ⟨#[48, 50]⟩)), (.v (.string ⟨#[52, 52]⟩)), (.v (.string ⟨#[50, 53]⟩))]) := top_ok soundX (memo_ok (ev_ok soundX ovr_ok 200) m0 m0_ok) 200 _ _ _ c12
def m12 : Memo := (14, [(.v (.string ⟨#[48, 50, 58, 52, 52, 58, 50, 53]⟩)), (.v (.string ⟨#[58]⟩))], (.lst 1 false [(.v (.string ⟨#[48, 50]⟩)), (.v (.string ⟨#[52, 52]⟩)), (.v (.string ⟨#[50, 53]⟩))])) :: m11
theorem m12_ok : MemoOk X m12 := memo_cons p12 m11_ok
theorem c13 : topK X (memoK (evF X ovr 200) m0) 200 27 [(.v (.string ⟨#[48, 50]⟩)), (.v (.int .i64 (2))), (.v (.int .i64 (2)))] = some (.tup [(.v (.int .i64 (2))), (.v (.bool true))]) := by kernel_rfl
theorem p13 : PureCall X 27 [(.v (.string ⟨#[48, 50]⟩)), (.v (.int .i64 (2))), (.v (.int .i64 (2)))] (.tup [(.v (.int .i64 (2))), (.v (.bool true))]) := top_ok soundX (memo_ok (ev_ok soundX ovr_ok 200) m0 m0_ok) 200 _ _ _ c13
def m13 : Memo := (27, [(.v (.string ⟨#[48, 50]⟩)), (.v (.int .i64 (2))), (.v (.int .i64 (2)))], (.tup [(.v (.int .i64 (2))), (.v (.bool true))])) :: m12
theorem m13_ok : MemoOk X m13 := memo_cons p13 m12_ok
theorem c14 : topK X (memoK (evF X ovr 200) m0) 200 27 [(.v (.string ⟨#[52, 52]⟩)), (.v (.int .i64 (2))), (.v (.int .i64 (2)))] = some (.tup [(.v (.int .i64 (44))), (.v (.bool true))]) := by kernel_rfl
theorem p14 : PureCall X 27 [(.v (.string ⟨#[52, 52]⟩)), (.v (.int .i64 (2))), (.v (.int .i64 (2)))] (.tup [(.v (.int .i64 (44))), (.v (.bool true))]) := top_ok soundX (memo_ok (ev_ok soundX ovr_ok 200) m0 m0_ok) 200 _ _ _ c14
def m14 : Memo := (27, [(.v (.string ⟨#[52, 52]⟩)), (.v (.int .i64 (2))), (.v (.int .i64 (2)))], (.tup [(.v (.int .i64 (44))), (.v (.bool true))])) :: m13
theorem m14_ok : MemoOk X m14 := memo_cons p14 m13_ok
theorem c15 : topK X (memoK (evF X ovr 200) m0) 200 27 [(.v (.string ⟨#[50, 53]⟩)), (.v (.int .i64 (2))), (.v (.int .i64 (2)))] = some (.tup [(.v (.int .i64 (25))), (.v (.bool true))]) := by kernel_rfl
theorem p15 : PureCall X 27 [(.v (.string ⟨#[50, 53]⟩)), (.v (.int .i64 (2))), (.v (.int .i64 (2)))] (.tup [(.v (.int .i64 (25))), (.v (.bool true))]) := top_ok soundX (memo_ok (ev_ok soundX ovr_ok 200) m0 m0_ok) 200 _ _ _ c15
def m15 : Memo := (27, [(.v (.string ⟨#[50, 53]⟩)), (.v (.int .i64 (2))), (.v (.int .i64 (2)))], (.tup [(.v (.int .i64 (25))), (.v (.bool true))])) :: m14
theorem m15_ok : MemoOk X m15 := memo_cons p15 m14_ok
theorem c16 : topK X (memoK (evF X ovr 200) m15) 200 17 [(.v (.string ⟨#[48, 50, 58, 52, 52, 58, 50, 53]⟩)), (.v (.bool false))] = some (.tup [(.v (.int .i64 (9865))), (.v (.bool true))]) := by kernel_rfl
theorem p16 : PureCall X 17 [(.v (.string ⟨#[48, 50, 58, 52, 52, 58, 50, 53]⟩)), (.v (.bool false))] (.tup [(.v (.int .i64 (9865))), (.v (.bool true))]) := top_ok soundX (memo_ok (ev_ok soundX ovr_ok 200) m15 m15_ok) 200 _ _ _ c16
def m16 : Memo := (17, [(.v (.string ⟨#[48, 50, 58, 52, 52, 58, 50, 53]⟩)), (.v (.bool false))], (.tup [(.v (.int .i64 (9865))), (.v (.bool true))])) :: m15
theorem m16_ok : MemoOk X m16 := memo_cons p16 m15_ok
theorem c17 : topK X (memoK (evF X ovr 200) m0) 200 27 [(.v (.string ⟨#[48, 55, 48, 48]⟩)), (.v (.int .i64 (4))), (.v (.int .i64 (4)))] = some (.tup [(.v (.int .i64 (700))), (.v (.bool true))]) := by kernel_rfl
theorem p17 : PureCall X 27 [(.v (.string ⟨#[48, 55, 48, 48]⟩)), (.v (.int .i64 (4))), (.v (.int .i64 (4)))] (.tup [(.v (.int .i64 (700))), (.v (.bool true))]) := top_ok soundX (memo_ok (ev_ok soundX ovr_ok 200) m0 m0_ok) 200 _ _ _ c17
def m17 : Memo := (27, [(.v (.string ⟨#[48, 55, 48, 48]⟩)), (.v (.int .i64 (4))), (.v (.int .i64 (4)))], (.tup [(.v (.int .i64 (700))), (.v (.bool true))])) :: m16
theorem m17_ok : MemoOk X m17 := memo_cons p17 m16_ok
theorem c18 : topK X (memoK (evF X ovr 200) m17) 200 18 [(.v (.string ⟨#[45, 48, 55, 48, 48]⟩))] = some (.tup [(.v (.int .i64 (-25200))), (.v (.bool true))]) := by kernel_rfl
theorem p18 : PureCall X 18 [(.v (.string ⟨#[45, 48, 55, 48, 48]⟩))] (.tup [(.v (.int .i64 (-25200))), (.v (.bool true))]) := top_ok soundX (memo_ok (ev_ok soundX ovr_ok 200) m17 m17_ok) 200 _ _ _ c18
def m18 : Memo := (18, [(.v (.string ⟨#[45, 48, 55, 48, 48]⟩))], (.tup [(.v (.int .i64 (-25200))), (.v (.bool true))])) :: m17
theorem m18_ok : MemoOk X m18 := memo_cons p18 m17_ok
theorem c19 : topK X (memoK (evF X ovr 200) m18) 200 7 [(.v (.string ⟨#[49, 55, 45, 74, 117, 108, 45, 49, 57, 57, 54, 32, 48, 50, 58, 52, 52, 58, 50, 53, 32, 45, 48, 55, 48, 48]⟩))] = some (.tup [(.v (.int .i64 (837596665))), (.v (.int .i64 (0)))]) := by kernel_rfl
theorem p19 : PureCall X 7 [(.v (.string ⟨#[49, 55, 45, 74, 117, 108, 45, 49, 57, 57, 54, 32, 48, 50, 58, 52, 52, 58, 50, 53, 32, 45, 48, 55, 48, 48]⟩))] (.tup [(.v (.int .i64 (837596665))), (.v (.int .i64 (0)))]) := top_ok soundX (memo_ok (ev_ok soundX ovr_ok 200) m18 m18_ok) 200 _ _ _ c19
def m19 : Memo := (7, [(.v (.string ⟨#[49, 55, 45, 74, 117, 108, 45, 49, 57, 57, 54, 32, 48, 50, 58, 52, 52, 58, 50, 53, 32, 45, 48, 55, 48, 48]⟩))], (.tup [(.v (.int .i64 (837596665))), (.v (.int .i64 (0)))])) :: m18
theorem m19_ok : MemoOk X m19 := memo_cons p19 m18_ok
theorem c20 : topK X (memoK (evF X ovr 200) m19) 200 8 [(.v (.int .i64 (9694)))] = some (.tup [(.v (.int .i64 (1996))), (.v (.int .i64 (7))), (.v (.int .i64 (17)))]) := by kernel_rfl
theorem p20 : PureCall X 8 [(.v (.int .i64 (9694)))] (.tup [(.v (.int .i64 (1996))), (.v (.int .i64 (7))), (.v (.int .i64 (17)))]) := top_ok soundX (memo_ok (ev_ok soundX ovr_ok 200) m19 m19_ok) 200 _ _ _ c20
def m20 : Memo := (8, [(.v (.int .i64 (9694)))], (.tup [(.v (.int .i64 (1996))), (.v (.int .i64 (7))), (.v (.int .i64 (17)))])) :: m19
theorem m20_ok : MemoOk X m20 := memo_cons p20 m19_ok
theorem c21 : topK X (memoK (evF X ovr 200) m20) 200 6 [(.v (.int .i64 (837596665)))] = some (.tup [(.v (.string ⟨#[49, 55, 45, 74, 117, 108, 45, 49, 57, 57, 54, 32, 48, 57, 58, 52, 52, 58, 50, 53, 32, 43, 48, 48, 48, 48]⟩)), (.v (.int .i64 (0)))]) := by kernel_rfl
theorem p21 : PureCall X 6 [(.v (.int .i64 (837596665)))] (.tup [(.v (.string ⟨#[49, 55, 45, 74, 117, 108, 45, 49, 57, 57, 54, 32, 48, 57, 58, 52, 52, 58, 50, 53, 32, 43, 48, 48, 48, 48]⟩)), (.v (.int .i64 (0)))]) := top_ok soundX (memo_ok (ev_ok soundX ovr_ok 200) m20 m20_ok) 200 _ _ _ c21
def m21 : Memo := (6, [(.v (.int .i64 (837596665)))], (.tup [(.v (.string ⟨#[49, 55, 45, 74, 117, 108, 45, 49, 57, 57, 54, 32, 48, 57, 58, 52, 52, 58, 50, 53, 32, 43, 48, 48, 48, 48]⟩)), (.v (.int .i64 (0)))])) :: m20
theorem m21_ok : MemoOk X m21 := memo_cons p21 m20_ok
theorem c22 : topK X (memoK (evF X ovr 200) m0) 200 14 [(.v (.string ⟨#[49, 45, 70, 101, 98, 45, 49, 57, 57, 52]⟩)), (.v (.string ⟨#[45]⟩))] = some (.lst 1 false [(.v (.string ⟨#[49]⟩)), (.v (.string ⟨#[70, 101, 98]⟩)), (.v (.string ⟨#[49, 57, 57, 52]⟩))]) := by kernel_rfl
theorem p22 : PureCall X 14 [(.v (.string ⟨#[49, 45, 70, 101, 98, 45, 49, 57, 57, 52]⟩)), (.v (.string ⟨#[45]⟩))] (.lst 1 false [(.v (.string ⟨#[49]⟩)), (.v (.string ⟨#[70, 101, 98]⟩)), (.v (.string ⟨#[49, 57, 57, 52]⟩))]) := top_ok soundX (memo_ok (ev_ok soundX ovr_ok 200) m0 m0_ok) 200 _ _ _ c22
def m22 : Memo := (14, [(.v (.string ⟨#[49, 45, 70, 101, 98, 45, 49, 57, 57, 52]⟩)), (.v (.string ⟨#[45]⟩))], (.lst 1 false [(.v (.string ⟨#[49]⟩)), (.v (.string ⟨#[70, 101, 98]⟩)), (.v (.string ⟨#[49, 57, 57, 52]⟩))])) :: m21
theorem m22_ok : MemoOk X m22 := memo_cons p22 m21_ok
theorem c23 : topK X (memoK (evF X ovr 200) m0) 200 27 [(.v (.string ⟨#[49]⟩)), (.v (.int .i64 (1))), (.v (.int .i64 (2)))] = some (.tup [(.v (.int .i64 (1))), (.v (.bool true))]) := by kernel_rfl
theorem p23 : PureCall X 27 [(.v (.string ⟨#[49]⟩)), (.v (.int .i64 (1))), (.v (.int .i64 (2)))] (.tup [(.v (.int .i64 (1))), (.v (.bool true))]) := top_ok soundX (memo_ok (ev_ok soundX ovr_ok 200) m0 m0_ok) 200 _ _ _ c23
def m23 : Memo := (27, [(.v (.string ⟨#[49]⟩)), (.v (.int .i64 (1))), (.v (.int .i64 (2)))], (.tup [(.v (.int .i64 (1))), (.v (.bool true))])) :: m22
theorem m23_ok : MemoOk X m23 := memo_cons p23 m22_ok
theorem c24 : topK X (memoK (evF X ovr 200) m0) 200 27 [(.v (.string ⟨#[49, 57, 57, 52]⟩)), (.v (.int .i64 (4))), (.v (.int .i64 (4)))] = some (.tup [(.v (.int .i64 (1994))), (.v (.bool true))]) := by kernel_rfl
theorem p24 : PureCall X 27 [(.v (.string ⟨#[49, 57, 57, 52]⟩)), (.v (.int .i64 (4))), (.v (.int .i64 (4)))] (.tup [(.v (.int .i64 (1994))), (.v (.bool true))]) := top_ok soundX (memo_ok (ev_ok soundX ovr_ok 200) m0 m0_ok) 200 _ _ _ c24
def m24 : Memo := (27, [(.v (.string ⟨#[49, 57, 57, 52]⟩)), (.v (.int .i64 (4))), (.v (.int .i64 (4)))], (.tup [(.v (.int .i64 (1994))), (.v (.bool true))])) :: m23
theorem m24_ok : MemoOk X m24 := memo_cons p24 m23_ok
theorem c25 : topK X (memoK (evF X ovr 200) m0) 200 28 [(.v (.string ⟨#[74, 97, 110]⟩)), (.v (.string ⟨#[70, 101, 98]⟩))] = some (.v (.bool false)) := by kernel_rfl
theorem p25 : PureCall X 28 [(.v (.string ⟨#[74, 97, 110]⟩)), (.v (.string ⟨#[70, 101, 98]⟩))] (.v (.bool false)) := top_ok soundX (memo_ok (ev_ok soundX ovr_ok 200) m0 m0_ok) 200 _ _ _ c25
def m25 : Memo := (28, [(.v (.string ⟨#[74, 97, 110]⟩)), (.v (.string ⟨#[70, 101, 98]⟩))], (.v (.bool false))) :: m24
theorem m25_ok : MemoOk X m25 := memo_cons p25 m24_ok
theorem c26 : topK X (memoK (evF X ovr 200) m0) 200 28 [(.v (.string ⟨#[70, 101, 98]⟩)), (.v (.string ⟨#[70, 101, 98]⟩))] = some (.v (.bool true)) := by kernel_rfl
theorem p26 : PureCall X 28 [(.v (.string ⟨#[70, 101, 98]⟩)), (.v (.string ⟨#[70, 101, 98]⟩))] (.v (.bool true)) := top_ok soundX (memo_ok (ev_ok soundX ovr_ok 200) m0 m0_ok) 200 _ _ _ c26
def m26 : Memo := (28, [(.v (.string ⟨#[70, 101, 98]⟩)), (.v (.string ⟨#[70, 101, 98]⟩))], (.v (.bool true))) :: m25
theorem m26_ok : MemoOk X m26 := memo_cons p26 m25_ok
theorem c27 : topK X (memoK (evF X ovr 200) m26) 200 15 [(.v (.string ⟨#[49]⟩)), (.v (.string ⟨#[70, 101, 98]⟩)), (.v (.string ⟨#[49, 57, 57, 52]⟩))] = some (.tup [(.v (.int .i64 (8797))), (.v (.bool true))]) := by kernel_rfl
theorem p27 : PureCall X 15 [(.v (.string ⟨#[49]⟩)), (.v (.string ⟨#[70, 101, 98]⟩)), (.v (.string ⟨#[49, 57, 57, 52]⟩))] (.tup [(.v (.int .i64 (8797))), (.v (.bool true))]) := top_ok soundX (memo_ok (ev_ok soundX ovr_ok 200) m26 m26_ok) 200 _ _ _ c27
def m27 : Memo := (15, [(.v (.string ⟨#[49]⟩)), (.v (.string ⟨#[70, 101, 98]⟩)), (.v (.string ⟨#[49, 57, 57, 52]⟩))], (.tup [(.v (.int .i64 (8797))), (.v (.bool true))])) :: m26
theorem m27_ok : MemoOk X m27 := memo_cons p27 m26_ok
theorem c28 : topK X (memoK (evF X ovr 200) m27) 200 11 [(.v (.string ⟨#[49, 45, 70, 101, 98, 45, 49, 57, 57, 52]⟩))] = some (.tup [(.v (.int .i64 (8797))), (.v (.int .i64 (0)))]) := by kernel_rfl
theorem p28 : PureCall X 11 [(.v (.string ⟨#[49, 45, 70, 101, 98, 45, 49, 57, 57, 52]⟩))] (.tup [(.v (.int .i64 (8797))), (.v (.int .i64 (0)))]) := top_ok soundX (memo_ok (ev_ok soundX ovr_ok 200) m27 m27_ok) 200 _ _ _ c28
def m28 : Memo := (11, [(.v (.string ⟨#[49, 45, 70, 101, 98, 45, 49, 57, 57, 52]⟩))], (.tup [(.v (.int .i64 (8797))), (.v (.int .i64 (0)))])) :: m27
theorem m28_ok : MemoOk X m28 := memo_cons p28 m27_ok
theorem c29 : topK X (memoK (evF X ovr 200) m28) 200 21 [(.v (.string ⟨#[87, 101, 100, 44, 32, 49, 55, 32, 74, 117, 108, 32, 49, 57, 57, 54, 32, 48, 50, 58, 50, 51, 58, 50, 53, 32, 45, 48, 55, 48, 48, 32, 40, 80, 68, 84, 41]⟩)), (.fn (.func 22) [] [])] = some (.lst 1 false [(.v (.string ⟨#[87, 101, 100, 44]⟩)), (.v (.string ⟨#[49, 55]⟩)), (.v (.string ⟨#[74, 117, 108]⟩)), (.v (.string ⟨#[49, 57, 57, 54]⟩)), (.v (.string ⟨#[48, 50, 58, 50, 51, 58, 50, 53]⟩)), (.v (.string ⟨#[45, 48, 55, 48, 48]⟩)), (.v (.string ⟨#[40, 80, 68, 84, 41]⟩))]) := by kernel_rfl
theorem p29 : PureCall X 21 [(.v (.string ⟨#[87, 101, 100, 44, 32, 49, 55, 32, 74, 117, 108, 32, 49, 57, 57, 54, 32, 48, 50, 58, 50, 51, 58, 50, 53, 32, 45, 48, 55, 48, 48, 32, 40, 80, 68, 84, 41]⟩)), (.fn (.func 22) [] [])] (.lst 1 false [(.v (.string ⟨#[87, 101, 100, 44]⟩)), (.v (.string ⟨#[49, 55]⟩)), (.v (.string ⟨#[74, 117, 108]⟩)), (.v (.string ⟨#[49, 57, 57, 54]⟩)), (.v (.string ⟨#[48, 50, 58, 50, 51, 58, 50, 53]⟩)), (.v (.string ⟨#[45, 48, 55, 48, 48]⟩)), (.v (.string ⟨#[40, 80, 68, 84, 41]⟩))]) := top_ok soundX (memo_ok (ev_ok soundX ovr_ok 200) m28 m28_ok) 200 _ _ _ c29
def m29 : Memo := (21, [(.v (.string ⟨#[87, 101, 100, 44, 32, 49, 55, 32, 74, 117, 108, 32, 49, 57, 57, 54, 32, 48, 50, 58, 50, 51, 58, 50, 53, 32, 45, 48, 55, 48, 48, 32, 40, 80, 68, 84, 41]⟩)), (.fn (.func 22) [] [])], (.lst 1 false [(.v (.string ⟨#[87, 101, 100, 44]⟩)), (.v (.string ⟨#[49, 55]⟩)), (.v (.string ⟨#[74, 117, 108]⟩)), (.v (.string ⟨#[49, 57, 57, 54]⟩)), (.v (.string ⟨#[48, 50, 58, 50, 51, 58, 50, 53]⟩)), (.v (.string ⟨#[45, 48, 55, 48, 48]⟩)), (.v (.string ⟨#[40, 80, 68, 84, 41]⟩))])) :: m28
theorem m29_ok : MemoOk X m29 := memo_cons p29 m28_ok
theorem c30 : topK X (memoK (evF X ovr 200) m0) 200 14 [(.v (.string ⟨#[48, 50, 58, 50, 51, 58, 50, 53]⟩)), (.v (.string ⟨#[58]⟩))] = some (.lst 1 false [(.v (.string ⟨#[48, 50]⟩)), (.v (.string ⟨#[50, 51]⟩)), (.v (.string ⟨#[50, 53]⟩))]) := by kernel_rfl
theorem p30 : PureCall X 14 [(.v (.string ⟨#[48, 50, 58, 50, 51, 58, 50, 53]⟩)), (.v (.string ⟨#[58]⟩))] (.lst 1 false [(.v (.string ⟨#[48, 50]⟩)), (.v (.string ⟨#[50, 51]⟩)), (.v (.string ⟨#[50, 53]⟩))]) := top_ok soundX (memo_ok (ev_ok soundX ovr_ok 200) m0 m0_ok) 200 _ _ _ c30
def m30 : Memo := (14, [(.v (.string ⟨#[48, 50, 58, 50, 51, 58, 50, 53]⟩)), (.v (.string ⟨#[58]⟩))], (.lst 1 false [(.v (.string ⟨#[48, 50]⟩)), (.v (.string ⟨#[50, 51]⟩)), (.v (.string ⟨#[50, 53]⟩))])) :: m29
theorem m30_ok : MemoOk X m30 := memo_cons p30 m29_ok
theorem c31 : topK X (memoK (evF X ovr 200) m0) 200 27 [(.v (.string ⟨#[50, 51]⟩)), (.v (.int .i64 (2))), (.v (.int .i64 (2)))] = some (.tup [(.v (.int .i64 (23))), (.v (.bool true))]) := by kernel_rfl
theorem p31 : PureCall X 27 [(.v (.string ⟨#[50, 51]⟩)), (.v (.int .i64 (2))), (.v (.int .i64 (2)))] (.tup [(.v (.int .i64 (23))), (.v (.bool true))]) := top_ok soundX (memo_ok (ev_ok soundX ovr_ok 200) m0 m0_ok) 200 _ _ _ c31
def m31 : Memo := (27, [(.v (.string ⟨#[50, 51]⟩)), (.v (.int .i64 (2))), (.v (.int .i64 (2)))], (.tup [(.v (.int .i64 (23))), (.v (.bool true))])) :: m30
theorem m31_ok : MemoOk X m31 := memo_cons p31 m30_ok
theorem c32 : topK X (memoK (evF X ovr 200) m31) 200 17 [(.v (.string ⟨#[48, 50, 58, 50, 51, 58, 50, 53]⟩)), (.v (.bool true))] = some (.tup [(.v (.int .i64 (8605))), (.v (.bool true))]) := by kernel_rfl
theorem p32 : PureCall X 17 [(.v (.string ⟨#[48, 50, 58, 50, 51, 58, 50, 53]⟩)), (.v (.bool true))] (.tup [(.v (.int .i64 (8605))), (.v (.bool true))]) := top_ok soundX (memo_ok (ev_ok soundX ovr_ok 200) m31 m31_ok) 200 _ _ _ c32
def m32 : Memo := (17, [(.v (.string ⟨#[48, 50, 58, 50, 51, 58, 50, 53]⟩)), (.v (.bool true))], (.tup [(.v (.int .i64 (8605))), (.v (.bool true))])) :: m31
theorem m32_ok : MemoOk X m32 := memo_cons p32 m31_ok
theorem c33 : topK X (memoK (evF X ovr 200) m32) 200 12 [(.v (.string ⟨#[87, 101, 100, 44, 32, 49, 55, 32, 74, 117, 108, 32, 49, 57, 57, 54, 32, 48, 50, 58, 50, 51, 58, 50, 53, 32, 45, 48, 55, 48, 48, 32, 40, 80, 68, 84, 41]⟩))] = some (.tup [(.v (.int .i64 (9694))), (.v (.int .i64 (0)))]) := by kernel_rfl
theorem p33 : PureCall X 12 [(.v (.string ⟨#[87, 101, 100, 44, 32, 49, 55, 32, 74, 117, 108, 32, 49, 57, 57, 54, 32, 48, 50, 58, 50, 51, 58, 50, 53, 32, 45, 48, 55, 48, 48, 32, 40, 80, 68, 84, 41]⟩))] (.tup [(.v (.int .i64 (9694))), (.v (.int .i64 (0)))]) := top_ok soundX (memo_ok (ev_ok soundX ovr_ok 200) m32 m32_ok) 200 _ _ _ c33
def m33 : Memo := (12, [(.v (.string ⟨#[87, 101, 100, 44, 32, 49, 55, 32, 74, 117, 108, 32, 49, 57, 57, 54, 32, 48, 50, 58, 50, 51, 58, 50, 53, 32, 45, 48, 55, 48, 48, 32, 40, 80, 68, 84, 41]⟩))], (.tup [(.v (.int .i64 (9694))), (.v (.int .i64 (0)))])) :: m32
theorem m33_ok : MemoOk X m33 := memo_cons p33 m32_ok
theorem c34 : topK X (memoK (evF X ovr 200) m33) 200 5 [] = some (.v (.bool true)) := by kernel_rfl
theorem p34 : PureCall X 5 [] (.v (.bool true)) := top_ok soundX (memo_ok (ev_ok soundX ovr_ok 200) m33 m33_ok) 200 _ _ _ c34
def m34 : Memo := (5, [], (.v (.bool true))) :: m33
theorem m34_ok : MemoOk X m34 := memo_cons p34 m33_ok
theorem pc_alive : PureCall X f_law07_alive [] (.v (.bool true)) := p34
end Go.Proofs.YtmiffikcnkgcpaaDoor
