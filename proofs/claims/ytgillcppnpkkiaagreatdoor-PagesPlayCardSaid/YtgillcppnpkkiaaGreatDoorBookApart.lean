/- A Book: Apart. Printed by wip/tools/apart_gen.py. -/
import Derived.Test.YtgillcppnpkkiaaGreatDoorBookLook
namespace Go.Proofs.YtgillcppnpkkiaaGreatDoor
open Go Go.RowKit
section
variable {w : World} {k : Nat} {B : Bk}
set_option maxHeartbeats 4000000 in
set_option maxRecDepth 100000 in
theorem book_apart (h : BookRep w k B) (hn : B.n ≤ 100000) : Calls Tryz.prog 34 #[.pointer (some ⟨k, 0, none⟩)] w fun e w' => e = .returned (.bool true) ∧ Mod (BS k B) w w' := by
  have HF := Lib.hid (fill_byte h hn)
  have H := Lib.hid h
  clear h
  go_enter Tryz.func34, Tryz.ntmps34
  go_wp2_with (first
    | (go_at_call 58; refine HF.out.mono ?_; rintro e w1 ⟨rfl, hf1⟩
       have HF1 := Lib.hid hf1
       have HB1 := Lib.hid hf1.rep.blk
       have HG := Lib.hid (grow_byte H.out hf1 hn)
       clear hf1)
    | (go_at_call 59; refine (fill_Id HB1.out).mono ?_; rintro e w' ⟨rfl, rfl⟩)
    | (go_at_call 60; refine (fill_Int HB1.out).mono ?_; rintro e w' ⟨rfl, rfl⟩)
    | (go_at_call 61; refine (fill_Text HB1.out).mono ?_; rintro e w' ⟨rfl, rfl⟩)
    | (go_at_call 62; refine (fill_Value HB1.out).mono ?_; rintro e w' ⟨rfl, rfl⟩)
    | (go_at_call 63; refine (fill_Word HB1.out).mono ?_; rintro e w' ⟨rfl, rfl⟩)
    | (go_at_call 64; refine (fill_Column HB1.out).mono ?_; rintro e w' ⟨rfl, rfl⟩)
    | (go_at_call 65; refine (fill_Index HB1.out).mono ?_; rintro e w' ⟨rfl, rfl⟩)
    | (go_at_call 66; refine (fill_Expr HB1.out).mono ?_; rintro e w' ⟨rfl, rfl⟩)
    | (go_at_call 67; refine (fill_Item HB1.out).mono ?_; rintro e w' ⟨rfl, rfl⟩)
    | (go_at_call 68; refine (fill_From HB1.out).mono ?_; rintro e w' ⟨rfl, rfl⟩)
    | (go_at_call 69; refine (fill_Order HB1.out).mono ?_; rintro e w' ⟨rfl, rfl⟩)
    | (go_at_call 70; refine (fill_Table HB1.out).mono ?_; rintro e w' ⟨rfl, rfl⟩)
    | (go_at_call 71; refine (fill_Grid HB1.out).mono ?_; rintro e w' ⟨rfl, rfl⟩)
    | (go_at_call 72; refine (fill_Heap HB1.out).mono ?_; rintro e w' ⟨rfl, rfl⟩)
    | (go_at_call 73; refine (fill_Result HB1.out).mono ?_; rintro e w' ⟨rfl, rfl⟩)
    | (go_at_call 74; refine (fill_Entry HB1.out).mono ?_; rintro e w' ⟨rfl, rfl⟩)
    | (go_at_call 75; refine (fill_Msg HB1.out).mono ?_; rintro e w' ⟨rfl, rfl⟩)
    | (go_at_call 76; refine (fill_Event HB1.out).mono ?_; rintro e w' ⟨rfl, rfl⟩)
    | (go_at_call 77; refine HG.out.mono ?_; rintro e w2 ⟨rfl, l2, hg2⟩
       have HG2 := Lib.hid hg2
       have HB2 := Lib.hid hg2.blk
       have HL := Lib.hid (look_byte H.out hg2 hn)
       clear hg2)
    | (go_at_call 78; refine (grow_Id HB2.out).mono ?_; rintro e w' ⟨rfl, rfl⟩)
    | (go_at_call 79; refine (grow_Int HB2.out).mono ?_; rintro e w' ⟨rfl, rfl⟩)
    | (go_at_call 80; refine (grow_Text HB2.out).mono ?_; rintro e w' ⟨rfl, rfl⟩)
    | (go_at_call 81; refine (grow_Value HB2.out).mono ?_; rintro e w' ⟨rfl, rfl⟩)
    | (go_at_call 82; refine (grow_Word HB2.out).mono ?_; rintro e w' ⟨rfl, rfl⟩)
    | (go_at_call 83; refine (grow_Column HB2.out).mono ?_; rintro e w' ⟨rfl, rfl⟩)
    | (go_at_call 84; refine (grow_Index HB2.out).mono ?_; rintro e w' ⟨rfl, rfl⟩)
    | (go_at_call 85; refine (grow_Expr HB2.out).mono ?_; rintro e w' ⟨rfl, rfl⟩)
    | (go_at_call 86; refine (grow_Item HB2.out).mono ?_; rintro e w' ⟨rfl, rfl⟩)
    | (go_at_call 87; refine (grow_From HB2.out).mono ?_; rintro e w' ⟨rfl, rfl⟩)
    | (go_at_call 88; refine (grow_Order HB2.out).mono ?_; rintro e w' ⟨rfl, rfl⟩)
    | (go_at_call 89; refine (grow_Table HB2.out).mono ?_; rintro e w' ⟨rfl, rfl⟩)
    | (go_at_call 90; refine (grow_Grid HB2.out).mono ?_; rintro e w' ⟨rfl, rfl⟩)
    | (go_at_call 91; refine (grow_Heap HB2.out).mono ?_; rintro e w' ⟨rfl, rfl⟩)
    | (go_at_call 92; refine (grow_Result HB2.out).mono ?_; rintro e w' ⟨rfl, rfl⟩)
    | (go_at_call 93; refine (grow_Entry HB2.out).mono ?_; rintro e w' ⟨rfl, rfl⟩)
    | (go_at_call 94; refine (grow_Msg HB2.out).mono ?_; rintro e w' ⟨rfl, rfl⟩)
    | (go_at_call 95; refine (grow_Event HB2.out).mono ?_; rintro e w' ⟨rfl, rfl⟩)
    | (go_at_call 96; refine HL.out.mono ?_; rintro e w3 ⟨rfl, hm3⟩
       have HB3 := Lib.hid (HB2.out.mod hm3 (fun x => x)))
    | (go_at_call 97; refine (look_Id HB3.out).mono ?_; rintro e w' ⟨rfl, rfl⟩)
    | (go_at_call 98; refine (look_Int HB3.out).mono ?_; rintro e w' ⟨rfl, rfl⟩)
    | (go_at_call 99; refine (look_Text HB3.out).mono ?_; rintro e w' ⟨rfl, rfl⟩)
    | (go_at_call 100; refine (look_Value HB3.out).mono ?_; rintro e w' ⟨rfl, rfl⟩)
    | (go_at_call 101; refine (look_Word HB3.out).mono ?_; rintro e w' ⟨rfl, rfl⟩)
    | (go_at_call 102; refine (look_Column HB3.out).mono ?_; rintro e w' ⟨rfl, rfl⟩)
    | (go_at_call 103; refine (look_Index HB3.out).mono ?_; rintro e w' ⟨rfl, rfl⟩)
    | (go_at_call 104; refine (look_Expr HB3.out).mono ?_; rintro e w' ⟨rfl, rfl⟩)
    | (go_at_call 105; refine (look_Item HB3.out).mono ?_; rintro e w' ⟨rfl, rfl⟩)
    | (go_at_call 106; refine (look_From HB3.out).mono ?_; rintro e w' ⟨rfl, rfl⟩)
    | (go_at_call 107; refine (look_Order HB3.out).mono ?_; rintro e w' ⟨rfl, rfl⟩)
    | (go_at_call 108; refine (look_Table HB3.out).mono ?_; rintro e w' ⟨rfl, rfl⟩)
    | (go_at_call 109; refine (look_Grid HB3.out).mono ?_; rintro e w' ⟨rfl, rfl⟩)
    | (go_at_call 110; refine (look_Heap HB3.out).mono ?_; rintro e w' ⟨rfl, rfl⟩)
    | (go_at_call 111; refine (look_Result HB3.out).mono ?_; rintro e w' ⟨rfl, rfl⟩)
    | (go_at_call 112; refine (look_Entry HB3.out).mono ?_; rintro e w' ⟨rfl, rfl⟩)
    | (go_at_call 113; refine (look_Msg HB3.out).mono ?_; rintro e w' ⟨rfl, rfl⟩)
    | (go_at_call 114; refine (look_Event HB3.out).mono ?_; rintro e w' ⟨rfl, rfl⟩))
  go_ret
  exact ⟨rfl, HG2.out.mod.trans (hm3.mono (fun _ x => x.elim))⟩
end
end Go.Proofs.YtgillcppnpkkiaaGreatDoor
