/- The laws' awake: true. -/
import Derived.Test.YteaamcekofmeaaaSpC
namespace Go.Proofs.Yteaamcekofmeaaa
open Go.RowKit

theorem spawake_calls (w : World) : Calls Try.prog 9 #[] w fun e w' => e = .returned (.bool true) ∧ Kept (fun _ => False) w w' := by
  go_enter Try.func9, Try.ntmps9
  go_wp2_with fail
  refine (New_ok 3 w (by omega) (by omega)).mono ?_
  rintro e w1 ⟨b, c, hb, hc, rfl, h1, k1⟩
  have c2 := Take_calls h1
  rw [show tkRes (List.replicate 3 0) = (0, 0, [2, 0, 0]) from by decide] at c2
  have C2 := Lib.hid c2; clear c2
  go_wp2_with fail
  refine C2.out.mono ?_
  rintro e w2 ⟨rfl, h2, k2⟩
  have c3 := Take_calls h2
  rw [show tkRes (0, 0, [2, 0, 0]).2.2 = (1, 0, [2, 2, 0]) from by decide] at c3
  have C3 := Lib.hid c3; clear c3
  go_wp2_with fail
  refine C3.out.mono ?_
  rintro e w3 ⟨rfl, h3, k3⟩
  have c4 := Give_calls h3 0
  rw [show gvRes (1, 0, [2, 2, 0]).2.2 0 = (0, [0, 2, 0]) from by decide] at c4
  have C4 := Lib.hid c4; clear c4
  go_wp2_with fail
  refine C4.out.mono ?_
  rintro e w4 ⟨rfl, h4, k4⟩
  have c5 := Take_calls h4
  rw [show tkRes (0, [0, 2, 0]).2 = (0, 0, [2, 2, 0]) from by decide] at c5
  have C5 := Lib.hid c5; clear c5
  go_wp2_with fail
  refine C5.out.mono ?_
  rintro e w5 ⟨rfl, h5, k5⟩
  have c6 := Text_calls h5
  rw [show bstr (bys (0, 0, [2, 2, 0]).2.2) = ⟨#[3]⟩ from by decide] at c6
  have C6 := Lib.hid c6; clear c6
  go_wp2_with fail
  refine C6.out.mono ?_
  rintro e w6 ⟨rfl, k6⟩
  have c7 := State_calls (h5.kept k6 id id) 1
  rw [show stAt (0, 0, [2, 2, 0]).2.2 1 = 2 from by decide] at c7
  have C7 := Lib.hid c7; clear c7
  go_wp2_with fail
  refine C7.out.mono ?_
  rintro e w7 ⟨rfl, rfl⟩
  go_wp2_with fail
  go_ret
  have k := (((k2.trans k3).trans k4).trans k5).then k6 (fun _ _ h => h.elim)
  exact ⟨rfl, k1.then k (fun i hi e => by omega)⟩

end Go.Proofs.Yteaamcekofmeaaa
