/- A call that is known: what it comes to. No conditions. -/
import Derived.Test.YtnpkdiffpgcbhaaGreatDoorHa
namespace Go.Proofs.YtnpkdiffpgcbhaaGreatDoor.Ev
open Go Go.RowKit
noncomputable def F1 : KF := ⟨20, [(.str 60 1114035757171589384532256266318345622835774239147107351875228562062387561710323002198057349168409272066784657896874394028380406678660573982186845)], 129, gB, (.tup [(.agg [(.int .i64 (.ofNat 4)), (.bool false), (.int .i64 (.ofNat 0)), (.str 0 0), (.sl 739 0 1 1 false 5)]), (.int .i64 (.ofNat 0))]), gB ++ [(711, .cells (.n (some (.int .i64 (.ofNat 4))) (.n (some (.int .i64 (.ofNat 0))) .e (.n (some .nils) .e .e)) (.n (some (.bool false)) .e (.n (some (.str 0 0)) .e .e))) none 5 52 0 0 true []),
   (712, .cells (.n (some (.int .i64 (.ofNat 4))) (.n (some (.int .i64 (.ofNat 0))) .e (.n (some (.sl 711 0 1 1 false 5)) .e .e)) (.n (some (.bool false)) .e (.n (some (.str 0 0)) .e .e))) none 5 52 0 0 true []),
   (713, .cells (.n (some (.int .i64 (.ofNat 4))) (.n (some (.int .i64 (.ofNat 0))) .e (.n (some (.sl 712 0 1 1 false 5)) .e .e)) (.n (some (.bool false)) .e (.n (some (.str 0 0)) .e .e))) none 5 52 0 0 true []),
   (714, .cells (.n (some (.int .i64 (.ofNat 4))) (.n (some (.int .i64 (.ofNat 0))) .e (.n (some (.sl 713 0 1 1 false 5)) .e .e)) (.n (some (.bool false)) .e (.n (some (.str 0 0)) .e .e))) none 5 52 0 0 true []),
   (715, .cells (.n (some (.int .i64 (.ofNat 4))) (.n (some (.int .i64 (.ofNat 0))) .e (.n (some (.sl 714 0 1 1 false 5)) .e .e)) (.n (some (.bool false)) .e (.n (some (.str 0 0)) .e .e))) none 5 52 0 0 true []),
   (716, .cells (.n (some (.int .i64 (.ofNat 4))) (.n (some (.int .i64 (.ofNat 0))) .e (.n (some (.sl 715 0 1 1 false 5)) .e .e)) (.n (some (.bool false)) .e (.n (some (.str 0 0)) .e .e))) none 5 52 0 0 true []),
   (717, .cells (.n (some (.int .i64 (.ofNat 4))) (.n (some (.int .i64 (.ofNat 0))) .e (.n (some (.sl 716 0 1 1 false 5)) .e .e)) (.n (some (.bool false)) .e (.n (some (.str 0 0)) .e .e))) none 5 52 0 0 true []),
   (718, .cells (.n (some (.int .i64 (.ofNat 4))) (.n (some (.int .i64 (.ofNat 0))) .e (.n (some (.sl 717 0 1 1 false 5)) .e .e)) (.n (some (.bool false)) .e (.n (some (.str 0 0)) .e .e))) none 5 52 0 0 true []),
   (719, .cells (.n (some (.int .i64 (.ofNat 4))) (.n (some (.int .i64 (.ofNat 0))) .e (.n (some (.sl 718 0 1 1 false 5)) .e .e)) (.n (some (.bool false)) .e (.n (some (.str 0 0)) .e .e))) none 5 52 0 0 true []),
   (720, .cells (.n (some (.int .i64 (.ofNat 4))) (.n (some (.int .i64 (.ofNat 0))) .e (.n (some (.sl 719 0 1 1 false 5)) .e .e)) (.n (some (.bool false)) .e (.n (some (.str 0 0)) .e .e))) none 5 52 0 0 true []),
   (721, .cells (.n (some (.int .i64 (.ofNat 4))) (.n (some (.int .i64 (.ofNat 0))) .e (.n (some (.sl 720 0 1 1 false 5)) .e .e)) (.n (some (.bool false)) .e (.n (some (.str 0 0)) .e .e))) none 5 52 0 0 true []),
   (722, .cells (.n (some (.int .i64 (.ofNat 4))) (.n (some (.int .i64 (.ofNat 0))) .e (.n (some (.sl 721 0 1 1 false 5)) .e .e)) (.n (some (.bool false)) .e (.n (some (.str 0 0)) .e .e))) none 5 52 0 0 true []),
   (723, .cells (.n (some (.int .i64 (.ofNat 4))) (.n (some (.int .i64 (.ofNat 0))) .e (.n (some (.sl 722 0 1 1 false 5)) .e .e)) (.n (some (.bool false)) .e (.n (some (.str 0 0)) .e .e))) none 5 52 0 0 true []),
   (724, .cells (.n (some (.int .i64 (.ofNat 4))) (.n (some (.int .i64 (.ofNat 0))) .e (.n (some (.sl 723 0 1 1 false 5)) .e .e)) (.n (some (.bool false)) .e (.n (some (.str 0 0)) .e .e))) none 5 52 0 0 true []),
   (725, .cells (.n (some (.int .i64 (.ofNat 4))) (.n (some (.int .i64 (.ofNat 0))) .e (.n (some (.sl 724 0 1 1 false 5)) .e .e)) (.n (some (.bool false)) .e (.n (some (.str 0 0)) .e .e))) none 5 52 0 0 true []),
   (726, .cells (.n (some (.int .i64 (.ofNat 4))) (.n (some (.int .i64 (.ofNat 0))) .e (.n (some (.sl 725 0 1 1 false 5)) .e .e)) (.n (some (.bool false)) .e (.n (some (.str 0 0)) .e .e))) none 5 52 0 0 true []),
   (727, .cells (.n (some (.int .i64 (.ofNat 4))) (.n (some (.int .i64 (.ofNat 0))) .e (.n (some (.sl 726 0 1 1 false 5)) .e .e)) (.n (some (.bool false)) .e (.n (some (.str 0 0)) .e .e))) none 5 52 0 0 true []),
   (728, .cells (.n (some (.int .i64 (.ofNat 4))) (.n (some (.int .i64 (.ofNat 0))) .e (.n (some (.sl 727 0 1 1 false 5)) .e .e)) (.n (some (.bool false)) .e (.n (some (.str 0 0)) .e .e))) none 5 52 0 0 true []),
   (729, .cells (.n (some (.int .i64 (.ofNat 4))) (.n (some (.int .i64 (.ofNat 0))) .e (.n (some (.sl 728 0 1 1 false 5)) .e .e)) (.n (some (.bool false)) .e (.n (some (.str 0 0)) .e .e))) none 5 52 0 0 true []),
   (730, .cells (.n (some (.int .i64 (.ofNat 4))) (.n (some (.int .i64 (.ofNat 0))) .e (.n (some (.sl 729 0 1 1 false 5)) .e .e)) (.n (some (.bool false)) .e (.n (some (.str 0 0)) .e .e))) none 5 52 0 0 true []),
   (731, .cells (.n (some (.int .i64 (.ofNat 4))) (.n (some (.int .i64 (.ofNat 0))) .e (.n (some (.sl 730 0 1 1 false 5)) .e .e)) (.n (some (.bool false)) .e (.n (some (.str 0 0)) .e .e))) none 5 52 0 0 true []),
   (732, .cells (.n (some (.int .i64 (.ofNat 4))) (.n (some (.int .i64 (.ofNat 0))) .e (.n (some (.sl 731 0 1 1 false 5)) .e .e)) (.n (some (.bool false)) .e (.n (some (.str 0 0)) .e .e))) none 5 52 0 0 true []),
   (733, .cells (.n (some (.int .i64 (.ofNat 4))) (.n (some (.int .i64 (.ofNat 0))) .e (.n (some (.sl 732 0 1 1 false 5)) .e .e)) (.n (some (.bool false)) .e (.n (some (.str 0 0)) .e .e))) none 5 52 0 0 true []),
   (734, .cells (.n (some (.int .i64 (.ofNat 4))) (.n (some (.int .i64 (.ofNat 0))) .e (.n (some (.sl 733 0 1 1 false 5)) .e .e)) (.n (some (.bool false)) .e (.n (some (.str 0 0)) .e .e))) none 5 52 0 0 true []),
   (735, .cells (.n (some (.int .i64 (.ofNat 4))) (.n (some (.int .i64 (.ofNat 0))) .e (.n (some (.sl 734 0 1 1 false 5)) .e .e)) (.n (some (.bool false)) .e (.n (some (.str 0 0)) .e .e))) none 5 52 0 0 true []),
   (736, .cells (.n (some (.int .i64 (.ofNat 4))) (.n (some (.int .i64 (.ofNat 0))) .e (.n (some (.sl 735 0 1 1 false 5)) .e .e)) (.n (some (.bool false)) .e (.n (some (.str 0 0)) .e .e))) none 5 52 0 0 true []),
   (737, .cells (.n (some (.int .i64 (.ofNat 4))) (.n (some (.int .i64 (.ofNat 0))) .e (.n (some (.sl 736 0 1 1 false 5)) .e .e)) (.n (some (.bool false)) .e (.n (some (.str 0 0)) .e .e))) none 5 52 0 0 true []),
   (738, .cells (.n (some (.int .i64 (.ofNat 4))) (.n (some (.int .i64 (.ofNat 0))) .e (.n (some (.sl 737 0 1 1 false 5)) .e .e)) (.n (some (.bool false)) .e (.n (some (.str 0 0)) .e .e))) none 5 52 0 0 true []),
   (739, .cells (.n (some (.int .i64 (.ofNat 4))) (.n (some (.int .i64 (.ofNat 0))) .e (.n (some (.sl 738 0 1 1 false 5)) .e .e)) (.n (some (.bool false)) .e (.n (some (.str 0 0)) .e .e))) none 5 52 0 0 true [])], 740⟩
theorem F1_ok : FactOk Tryz.prog F1 := fact_ok mixed extFine (knId_ok _) (n := 3000) (by kernel_rfl)
theorem F1_sib : sibIn F1.hin = true := by kernel_rfl
end Go.Proofs.YtnpkdiffpgcbhaaGreatDoor.Ev
