/- Proved: the statement lodestarlaw27.ServeNone (Rows.ServeNoneCardSaid): called with any request of three strings it returns true and turns nothing that was there, its listed variables tied to the program's text. Conditions: the given row's own and no other: each listed variable reads as listed (unicode/utf8.first by the form's constant). -/
import Derived.Test.YtonckhnoealepaaGreatDoorProof
import Derived.Test.YtonckhnoealepaaGreatDoorTieG
import Derived.Test.YtonckhnoealepaaGreatDoorKa
import Derived.Test.YtonckhnoealepaaGreatDoorKb
import Derived.Test.YtonckhnoealepaaGreatDoorCards
import Derived.SevenTiedAt
namespace Go.Proofs.YtonckhnoealepaaGreatDoor
open Go
theorem serveNone_card : Rows.ServeNoneCardSaid :=
  Claim7.holds_tied_plain_at .later [] [.data, .data, .data, .sentinel, .sentinel, .pinned, .data, .sentinel, .handle, .data] true (true, "ec3f2a2a2f763dae98f05af3ad99f9db75926f4b448dfa4cde32cde8ad3cc7b2") true
    serveNone_holds (fun _ h => by cases h) card_wf (fun _ h => by cases h) serveNone_row_tie rfl ⟨rfl, rfl⟩ card_main rfl
    (fun f fn hf hfn => by
      obtain rfl : f = 3 := Option.some.inj (card_func.symm.trans hf) |>.symm
      obtain rfl : fn = Tryz.f3 := (Option.some.inj (Tryz.func3.symm.trans hfn)).symm
      exact ⟨card_looks, fun j t ht => by
        rw [Tryz.params3] at ht
        have h3 : t = 23 := by
          rcases j with _ | j
          · simpa using ht.symm
          · simp at ht
        subst h3
        exact card_stand⟩)
    card_goes
end Go.Proofs.YtonckhnoealepaaGreatDoor
