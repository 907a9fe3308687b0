import Derived.Test.YtieaibebnkdmhaaLaw1
/-  What the examples of the chapter come to. -/
namespace Go.Proofs.Ytieaibebnkdmhaa

theorem ev_b : vbook bN bS = 0 := by decide +kernel
theorem ev_c : vbook cN cS' = 0 := by decide +kernel
theorem ev_f : FirstR bN bS = [0, 1, 2] := by decide +kernel
theorem ev_l : LastR bN bS = [2, 0, 1] := by decide +kernel
theorem ev_a : AllR bN bS = [[0, 1, 2], [1, 2, 0], [2, 0, 1]] := by decide +kernel
theorem ev_o : AllR cN cS' = [[0, -1]] := by decide +kernel
theorem ev_n : cmat cN cS' [1, 0] = 2 := by decide +kernel
theorem ev_5 : vmatch cN cS' [1, 0] = 0 := by decide +kernel
theorem ev_6 : vmatch cN cS' [1, 1] = 16 := by decide +kernel
theorem ev_7 : vmatch cN cS' [0, 0] = 11 := by decide +kernel
theorem ev_8 : unsR bN bS [0, 2, 1] = (2, 0, 0) := by decide +kernel
theorem ev_9 : (unsR cN cS' [0, -1]).2.2 = 5 := by decide +kernel
theorem ev_10 : KindR bN bS 0 0 = (1, 0) := by decide +kernel
theorem ev_11 : KindR cN cS' 0 0 = (2, 0) := by decide +kernel
theorem ev_12 : (KindR cN cS' 2 0).2 = 2 := by decide +kernel
theorem ev_13 : vsett bN bS [1, 2, 0] [2, 0, 1] = 0 := by decide +kernel
theorem ev_m : BetterR bN bS [1, 2, 0] [2, 0, 1] = [1, 2, 0] := by decide +kernel
theorem ev_w : WorseR bN bS [1, 2, 0] [2, 0, 1] = [2, 0, 1] := by decide +kernel
theorem ev_15 : vsett bN bS [0, 1, 2] [0, 2, 1] = 24 := by decide +kernel
theorem ev_k1 : vmatch cN cS' [0, 2] = 3 := by decide +kernel
theorem ev_k2 : unsR cN cS' [1, 0] = (0, 0, 0) := by decide +kernel
theorem ev_k3 : unsR cN cS' [-1, -1] = (0, 0, 0) := by decide +kernel
theorem ev_k4 : KindR cN cS' 1 0 = (0, 0) := by decide +kernel
theorem ev_k5 : FirstR cN cS' = [0, -1] := by decide +kernel
end Go.Proofs.Ytieaibebnkdmhaa
