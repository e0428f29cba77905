/- The law with any of its numbers given. No conditions. -/
import Derived.Test.YtggofakkkkkbcaaGreatDoorHn1
import Derived.Test.YtggofakkkkkbcaaGreatDoorHn2
import Derived.Test.YtggofakkkkkbcaaGreatDoorHn3
import Derived.Test.YtggofakkkkkbcaaGreatDoorHn4
import Derived.Test.YtggofakkkkkbcaaGreatDoorHn5
import Derived.Test.YtggofakkkkkbcaaGreatDoorHn6
import Derived.Test.YtggofakkkkkbcaaGreatDoorHn7
import Derived.Test.YtggofakkkkkbcaaGreatDoorHn8
namespace Go.Proofs.YtggofakkkkkbcaaGreatDoor.Ev
theorem done (n m : Nat) (hn : n < 8) (hm : m < 16) : Done n m := by
  rcases Nat.lt_or_ge n 1 with h0 | h0
  · obtain rfl : n = 0 := by omega
    rcases Nat.lt_or_ge m 1 with g0 | g0
    · obtain rfl : m = 0 := by omega
      exact c0_0
    rcases Nat.lt_or_ge m 2 with g1 | g1
    · obtain rfl : m = 1 := by omega
      exact c0_1
    rcases Nat.lt_or_ge m 3 with g2 | g2
    · obtain rfl : m = 2 := by omega
      exact c0_2
    rcases Nat.lt_or_ge m 4 with g3 | g3
    · obtain rfl : m = 3 := by omega
      exact c0_3
    rcases Nat.lt_or_ge m 5 with g4 | g4
    · obtain rfl : m = 4 := by omega
      exact c0_4
    rcases Nat.lt_or_ge m 6 with g5 | g5
    · obtain rfl : m = 5 := by omega
      exact c0_5
    rcases Nat.lt_or_ge m 7 with g6 | g6
    · obtain rfl : m = 6 := by omega
      exact c0_6
    rcases Nat.lt_or_ge m 8 with g7 | g7
    · obtain rfl : m = 7 := by omega
      exact c0_7
    rcases Nat.lt_or_ge m 9 with g8 | g8
    · obtain rfl : m = 8 := by omega
      exact c0_8
    rcases Nat.lt_or_ge m 10 with g9 | g9
    · obtain rfl : m = 9 := by omega
      exact c0_9
    rcases Nat.lt_or_ge m 11 with g10 | g10
    · obtain rfl : m = 10 := by omega
      exact c0_10
    rcases Nat.lt_or_ge m 12 with g11 | g11
    · obtain rfl : m = 11 := by omega
      exact c0_11
    rcases Nat.lt_or_ge m 13 with g12 | g12
    · obtain rfl : m = 12 := by omega
      exact c0_12
    rcases Nat.lt_or_ge m 14 with g13 | g13
    · obtain rfl : m = 13 := by omega
      exact c0_13
    rcases Nat.lt_or_ge m 15 with g14 | g14
    · obtain rfl : m = 14 := by omega
      exact c0_14
    rcases Nat.lt_or_ge m 16 with g15 | g15
    · obtain rfl : m = 15 := by omega
      exact c0_15
    omega
  rcases Nat.lt_or_ge n 2 with h1 | h1
  · obtain rfl : n = 1 := by omega
    rcases Nat.lt_or_ge m 1 with g0 | g0
    · obtain rfl : m = 0 := by omega
      exact c1_0
    rcases Nat.lt_or_ge m 2 with g1 | g1
    · obtain rfl : m = 1 := by omega
      exact c1_1
    rcases Nat.lt_or_ge m 3 with g2 | g2
    · obtain rfl : m = 2 := by omega
      exact c1_2
    rcases Nat.lt_or_ge m 4 with g3 | g3
    · obtain rfl : m = 3 := by omega
      exact c1_3
    rcases Nat.lt_or_ge m 5 with g4 | g4
    · obtain rfl : m = 4 := by omega
      exact c1_4
    rcases Nat.lt_or_ge m 6 with g5 | g5
    · obtain rfl : m = 5 := by omega
      exact c1_5
    rcases Nat.lt_or_ge m 7 with g6 | g6
    · obtain rfl : m = 6 := by omega
      exact c1_6
    rcases Nat.lt_or_ge m 8 with g7 | g7
    · obtain rfl : m = 7 := by omega
      exact c1_7
    rcases Nat.lt_or_ge m 9 with g8 | g8
    · obtain rfl : m = 8 := by omega
      exact c1_8
    rcases Nat.lt_or_ge m 10 with g9 | g9
    · obtain rfl : m = 9 := by omega
      exact c1_9
    rcases Nat.lt_or_ge m 11 with g10 | g10
    · obtain rfl : m = 10 := by omega
      exact c1_10
    rcases Nat.lt_or_ge m 12 with g11 | g11
    · obtain rfl : m = 11 := by omega
      exact c1_11
    rcases Nat.lt_or_ge m 13 with g12 | g12
    · obtain rfl : m = 12 := by omega
      exact c1_12
    rcases Nat.lt_or_ge m 14 with g13 | g13
    · obtain rfl : m = 13 := by omega
      exact c1_13
    rcases Nat.lt_or_ge m 15 with g14 | g14
    · obtain rfl : m = 14 := by omega
      exact c1_14
    rcases Nat.lt_or_ge m 16 with g15 | g15
    · obtain rfl : m = 15 := by omega
      exact c1_15
    omega
  rcases Nat.lt_or_ge n 3 with h2 | h2
  · obtain rfl : n = 2 := by omega
    rcases Nat.lt_or_ge m 1 with g0 | g0
    · obtain rfl : m = 0 := by omega
      exact c2_0
    rcases Nat.lt_or_ge m 2 with g1 | g1
    · obtain rfl : m = 1 := by omega
      exact c2_1
    rcases Nat.lt_or_ge m 3 with g2 | g2
    · obtain rfl : m = 2 := by omega
      exact c2_2
    rcases Nat.lt_or_ge m 4 with g3 | g3
    · obtain rfl : m = 3 := by omega
      exact c2_3
    rcases Nat.lt_or_ge m 5 with g4 | g4
    · obtain rfl : m = 4 := by omega
      exact c2_4
    rcases Nat.lt_or_ge m 6 with g5 | g5
    · obtain rfl : m = 5 := by omega
      exact c2_5
    rcases Nat.lt_or_ge m 7 with g6 | g6
    · obtain rfl : m = 6 := by omega
      exact c2_6
    rcases Nat.lt_or_ge m 8 with g7 | g7
    · obtain rfl : m = 7 := by omega
      exact c2_7
    rcases Nat.lt_or_ge m 9 with g8 | g8
    · obtain rfl : m = 8 := by omega
      exact c2_8
    rcases Nat.lt_or_ge m 10 with g9 | g9
    · obtain rfl : m = 9 := by omega
      exact c2_9
    rcases Nat.lt_or_ge m 11 with g10 | g10
    · obtain rfl : m = 10 := by omega
      exact c2_10
    rcases Nat.lt_or_ge m 12 with g11 | g11
    · obtain rfl : m = 11 := by omega
      exact c2_11
    rcases Nat.lt_or_ge m 13 with g12 | g12
    · obtain rfl : m = 12 := by omega
      exact c2_12
    rcases Nat.lt_or_ge m 14 with g13 | g13
    · obtain rfl : m = 13 := by omega
      exact c2_13
    rcases Nat.lt_or_ge m 15 with g14 | g14
    · obtain rfl : m = 14 := by omega
      exact c2_14
    rcases Nat.lt_or_ge m 16 with g15 | g15
    · obtain rfl : m = 15 := by omega
      exact c2_15
    omega
  rcases Nat.lt_or_ge n 4 with h3 | h3
  · obtain rfl : n = 3 := by omega
    rcases Nat.lt_or_ge m 1 with g0 | g0
    · obtain rfl : m = 0 := by omega
      exact c3_0
    rcases Nat.lt_or_ge m 2 with g1 | g1
    · obtain rfl : m = 1 := by omega
      exact c3_1
    rcases Nat.lt_or_ge m 3 with g2 | g2
    · obtain rfl : m = 2 := by omega
      exact c3_2
    rcases Nat.lt_or_ge m 4 with g3 | g3
    · obtain rfl : m = 3 := by omega
      exact c3_3
    rcases Nat.lt_or_ge m 5 with g4 | g4
    · obtain rfl : m = 4 := by omega
      exact c3_4
    rcases Nat.lt_or_ge m 6 with g5 | g5
    · obtain rfl : m = 5 := by omega
      exact c3_5
    rcases Nat.lt_or_ge m 7 with g6 | g6
    · obtain rfl : m = 6 := by omega
      exact c3_6
    rcases Nat.lt_or_ge m 8 with g7 | g7
    · obtain rfl : m = 7 := by omega
      exact c3_7
    rcases Nat.lt_or_ge m 9 with g8 | g8
    · obtain rfl : m = 8 := by omega
      exact c3_8
    rcases Nat.lt_or_ge m 10 with g9 | g9
    · obtain rfl : m = 9 := by omega
      exact c3_9
    rcases Nat.lt_or_ge m 11 with g10 | g10
    · obtain rfl : m = 10 := by omega
      exact c3_10
    rcases Nat.lt_or_ge m 12 with g11 | g11
    · obtain rfl : m = 11 := by omega
      exact c3_11
    rcases Nat.lt_or_ge m 13 with g12 | g12
    · obtain rfl : m = 12 := by omega
      exact c3_12
    rcases Nat.lt_or_ge m 14 with g13 | g13
    · obtain rfl : m = 13 := by omega
      exact c3_13
    rcases Nat.lt_or_ge m 15 with g14 | g14
    · obtain rfl : m = 14 := by omega
      exact c3_14
    rcases Nat.lt_or_ge m 16 with g15 | g15
    · obtain rfl : m = 15 := by omega
      exact c3_15
    omega
  rcases Nat.lt_or_ge n 5 with h4 | h4
  · obtain rfl : n = 4 := by omega
    rcases Nat.lt_or_ge m 1 with g0 | g0
    · obtain rfl : m = 0 := by omega
      exact c4_0
    rcases Nat.lt_or_ge m 2 with g1 | g1
    · obtain rfl : m = 1 := by omega
      exact c4_1
    rcases Nat.lt_or_ge m 3 with g2 | g2
    · obtain rfl : m = 2 := by omega
      exact c4_2
    rcases Nat.lt_or_ge m 4 with g3 | g3
    · obtain rfl : m = 3 := by omega
      exact c4_3
    rcases Nat.lt_or_ge m 5 with g4 | g4
    · obtain rfl : m = 4 := by omega
      exact c4_4
    rcases Nat.lt_or_ge m 6 with g5 | g5
    · obtain rfl : m = 5 := by omega
      exact c4_5
    rcases Nat.lt_or_ge m 7 with g6 | g6
    · obtain rfl : m = 6 := by omega
      exact c4_6
    rcases Nat.lt_or_ge m 8 with g7 | g7
    · obtain rfl : m = 7 := by omega
      exact c4_7
    rcases Nat.lt_or_ge m 9 with g8 | g8
    · obtain rfl : m = 8 := by omega
      exact c4_8
    rcases Nat.lt_or_ge m 10 with g9 | g9
    · obtain rfl : m = 9 := by omega
      exact c4_9
    rcases Nat.lt_or_ge m 11 with g10 | g10
    · obtain rfl : m = 10 := by omega
      exact c4_10
    rcases Nat.lt_or_ge m 12 with g11 | g11
    · obtain rfl : m = 11 := by omega
      exact c4_11
    rcases Nat.lt_or_ge m 13 with g12 | g12
    · obtain rfl : m = 12 := by omega
      exact c4_12
    rcases Nat.lt_or_ge m 14 with g13 | g13
    · obtain rfl : m = 13 := by omega
      exact c4_13
    rcases Nat.lt_or_ge m 15 with g14 | g14
    · obtain rfl : m = 14 := by omega
      exact c4_14
    rcases Nat.lt_or_ge m 16 with g15 | g15
    · obtain rfl : m = 15 := by omega
      exact c4_15
    omega
  rcases Nat.lt_or_ge n 6 with h5 | h5
  · obtain rfl : n = 5 := by omega
    rcases Nat.lt_or_ge m 1 with g0 | g0
    · obtain rfl : m = 0 := by omega
      exact c5_0
    rcases Nat.lt_or_ge m 2 with g1 | g1
    · obtain rfl : m = 1 := by omega
      exact c5_1
    rcases Nat.lt_or_ge m 3 with g2 | g2
    · obtain rfl : m = 2 := by omega
      exact c5_2
    rcases Nat.lt_or_ge m 4 with g3 | g3
    · obtain rfl : m = 3 := by omega
      exact c5_3
    rcases Nat.lt_or_ge m 5 with g4 | g4
    · obtain rfl : m = 4 := by omega
      exact c5_4
    rcases Nat.lt_or_ge m 6 with g5 | g5
    · obtain rfl : m = 5 := by omega
      exact c5_5
    rcases Nat.lt_or_ge m 7 with g6 | g6
    · obtain rfl : m = 6 := by omega
      exact c5_6
    rcases Nat.lt_or_ge m 8 with g7 | g7
    · obtain rfl : m = 7 := by omega
      exact c5_7
    rcases Nat.lt_or_ge m 9 with g8 | g8
    · obtain rfl : m = 8 := by omega
      exact c5_8
    rcases Nat.lt_or_ge m 10 with g9 | g9
    · obtain rfl : m = 9 := by omega
      exact c5_9
    rcases Nat.lt_or_ge m 11 with g10 | g10
    · obtain rfl : m = 10 := by omega
      exact c5_10
    rcases Nat.lt_or_ge m 12 with g11 | g11
    · obtain rfl : m = 11 := by omega
      exact c5_11
    rcases Nat.lt_or_ge m 13 with g12 | g12
    · obtain rfl : m = 12 := by omega
      exact c5_12
    rcases Nat.lt_or_ge m 14 with g13 | g13
    · obtain rfl : m = 13 := by omega
      exact c5_13
    rcases Nat.lt_or_ge m 15 with g14 | g14
    · obtain rfl : m = 14 := by omega
      exact c5_14
    rcases Nat.lt_or_ge m 16 with g15 | g15
    · obtain rfl : m = 15 := by omega
      exact c5_15
    omega
  rcases Nat.lt_or_ge n 7 with h6 | h6
  · obtain rfl : n = 6 := by omega
    rcases Nat.lt_or_ge m 1 with g0 | g0
    · obtain rfl : m = 0 := by omega
      exact c6_0
    rcases Nat.lt_or_ge m 2 with g1 | g1
    · obtain rfl : m = 1 := by omega
      exact c6_1
    rcases Nat.lt_or_ge m 3 with g2 | g2
    · obtain rfl : m = 2 := by omega
      exact c6_2
    rcases Nat.lt_or_ge m 4 with g3 | g3
    · obtain rfl : m = 3 := by omega
      exact c6_3
    rcases Nat.lt_or_ge m 5 with g4 | g4
    · obtain rfl : m = 4 := by omega
      exact c6_4
    rcases Nat.lt_or_ge m 6 with g5 | g5
    · obtain rfl : m = 5 := by omega
      exact c6_5
    rcases Nat.lt_or_ge m 7 with g6 | g6
    · obtain rfl : m = 6 := by omega
      exact c6_6
    rcases Nat.lt_or_ge m 8 with g7 | g7
    · obtain rfl : m = 7 := by omega
      exact c6_7
    rcases Nat.lt_or_ge m 9 with g8 | g8
    · obtain rfl : m = 8 := by omega
      exact c6_8
    rcases Nat.lt_or_ge m 10 with g9 | g9
    · obtain rfl : m = 9 := by omega
      exact c6_9
    rcases Nat.lt_or_ge m 11 with g10 | g10
    · obtain rfl : m = 10 := by omega
      exact c6_10
    rcases Nat.lt_or_ge m 12 with g11 | g11
    · obtain rfl : m = 11 := by omega
      exact c6_11
    rcases Nat.lt_or_ge m 13 with g12 | g12
    · obtain rfl : m = 12 := by omega
      exact c6_12
    rcases Nat.lt_or_ge m 14 with g13 | g13
    · obtain rfl : m = 13 := by omega
      exact c6_13
    rcases Nat.lt_or_ge m 15 with g14 | g14
    · obtain rfl : m = 14 := by omega
      exact c6_14
    rcases Nat.lt_or_ge m 16 with g15 | g15
    · obtain rfl : m = 15 := by omega
      exact c6_15
    omega
  rcases Nat.lt_or_ge n 8 with h7 | h7
  · obtain rfl : n = 7 := by omega
    rcases Nat.lt_or_ge m 1 with g0 | g0
    · obtain rfl : m = 0 := by omega
      exact c7_0
    rcases Nat.lt_or_ge m 2 with g1 | g1
    · obtain rfl : m = 1 := by omega
      exact c7_1
    rcases Nat.lt_or_ge m 3 with g2 | g2
    · obtain rfl : m = 2 := by omega
      exact c7_2
    rcases Nat.lt_or_ge m 4 with g3 | g3
    · obtain rfl : m = 3 := by omega
      exact c7_3
    rcases Nat.lt_or_ge m 5 with g4 | g4
    · obtain rfl : m = 4 := by omega
      exact c7_4
    rcases Nat.lt_or_ge m 6 with g5 | g5
    · obtain rfl : m = 5 := by omega
      exact c7_5
    rcases Nat.lt_or_ge m 7 with g6 | g6
    · obtain rfl : m = 6 := by omega
      exact c7_6
    rcases Nat.lt_or_ge m 8 with g7 | g7
    · obtain rfl : m = 7 := by omega
      exact c7_7
    rcases Nat.lt_or_ge m 9 with g8 | g8
    · obtain rfl : m = 8 := by omega
      exact c7_8
    rcases Nat.lt_or_ge m 10 with g9 | g9
    · obtain rfl : m = 9 := by omega
      exact c7_9
    rcases Nat.lt_or_ge m 11 with g10 | g10
    · obtain rfl : m = 10 := by omega
      exact c7_10
    rcases Nat.lt_or_ge m 12 with g11 | g11
    · obtain rfl : m = 11 := by omega
      exact c7_11
    rcases Nat.lt_or_ge m 13 with g12 | g12
    · obtain rfl : m = 12 := by omega
      exact c7_12
    rcases Nat.lt_or_ge m 14 with g13 | g13
    · obtain rfl : m = 13 := by omega
      exact c7_13
    rcases Nat.lt_or_ge m 15 with g14 | g14
    · obtain rfl : m = 14 := by omega
      exact c7_14
    rcases Nat.lt_or_ge m 16 with g15 | g15
    · obtain rfl : m = 15 := by omega
      exact c7_15
    omega
  omega
end Go.Proofs.YtggofakkkkkbcaaGreatDoor.Ev
