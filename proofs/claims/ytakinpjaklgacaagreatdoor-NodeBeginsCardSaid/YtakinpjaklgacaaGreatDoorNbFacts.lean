/-
  NodeBegins: the closed facts of its row.
-/
import Derived.Test.YtakinpjaklgacaaGreatDoorRows
import Derived.ProofKit
import Derived.OpenShut
import Derived.LaidMore
import Derived.Lay
import Derived.SevenTiedAt
import Derived.Stop.Joined
namespace Go.Proofs.YtakinpjaklgacaaGreatDoor
open Go.ChangeShapes Go.WideShapes Go.ChangeAt Go.RowKit
set_option maxRecDepth 100000
theorem clo : Tryz.prog.closure 3 = [3, 5, 26, 6, 29, 71, 72, 127, 73, 30, 31, 74, 8, 32, 14, 33, 75, 128, 217, 125, 216, 301, 101, 186, 274, 185, 272, 351, 273, 353, 415, 416, 352, 406, 412, 250, 407, 456, 408, 457, 458, 409, 459, 460, 477, 410, 411, 413, 414, 184, 271, 150, 76, 129, 109, 191, 192, 194, 277, 354, 417, 193, 134, 135, 223, 224, 312, 222, 218, 136, 302, 130, 131, 219, 303, 305, 368, 90, 156, 157, 158, 246, 338, 399, 453, 247, 248, 159, 160, 249, 161, 162, 163, 425, 89, 426, 376, 226, 315, 316, 373, 314, 369, 220, 306, 329, 365, 46, 91, 92, 307, 327, 304, 370, 428, 429, 430, 431, 427, 462, 132, 221, 308, 292, 267, 166, 349, 309, 371, 251, 339, 340, 151, 432, 463, 464, 478, 486, 310, 168, 311, 229, 34, 77, 133, 137, 225, 313, 372, 227, 317, 318, 375, 374, 378, 379, 433, 465, 466, 377, 230, 320, 383, 434, 321, 384, 322, 323, 324, 385, 386, 435, 387, 436, 319, 381, 380, 382, 141, 87, 78, 138, 139, 228, 79, 140, 142, 231, 325, 388, 437, 467, 438, 468, 469, 479, 487, 439, 236, 232, 233, 143, 47, 234, 48, 93, 164, 165, 326, 389, 440, 470, 480, 481, 482, 488, 490, 441, 471, 483, 484, 489, 491, 442, 472, 390, 443, 445, 444, 473, 474, 328, 391, 392, 446, 447, 475, 485, 235, 144, 237, 35, 36, 80, 81, 82, 145, 238, 330, 393, 331, 332, 333, 394, 239, 240, 298, 337, 300, 244, 241, 334, 395, 448, 476, 423, 299, 396, 449, 450, 451, 452, 146, 102, 147, 242, 148, 149, 83, 37, 84, 38, 85, 39, 41, 40, 56, 86, 43, 45, 44, 88, 152, 153, 243, 335, 279, 356, 357, 418, 358, 359, 280, 360, 419, 397, 336, 361, 398, 154, 245, 155, 42, 65, 117, 118, 19, 59, 60, 107, 190, 276, 106, 188, 189, 275, 58, 103, 104, 105, 187, 119, 207, 210, 288, 208, 209, 289, 97, 99, 174, 255, 343, 344, 256, 263, 347, 215, 296, 266, 173, 51, 95, 96, 167, 98, 169, 252, 170, 171, 172, 253, 50, 254, 341, 400, 342, 401, 402, 454, 120, 211, 121, 212, 290, 213, 291, 293, 294, 295, 176, 259, 345, 404, 403, 123, 122, 27, 70, 126, 53, 100, 175, 257, 258, 177, 260, 178, 261, 262, 346, 264, 265, 270, 348, 405, 455, 179, 180, 181, 268, 350, 214, 297, 366, 424, 461, 367, 182, 183, 269, 124, 10, 49, 94, 28, 16, 7, 9, 11, 52, 61, 108, 110, 195, 278, 355, 196, 281, 362, 12, 55, 54, 13, 15, 17, 18, 57, 20] := by kernel_rfl
theorem fact_inPlace : (Rows.nodeBeginsRow.inPlace == Tryz.prog.inPlace 3) = true := by
  unfold Program.inPlace
  rw [clo]
  kernel_rfl
theorem fact_unfollowed : Tryz.prog.unfollowed 3 = true := by
  unfold Program.unfollowed
  rw [clo]
  kernel_rfl
theorem fact_unfollowed' : (Rows.nodeBeginsRow.unfollowed == Tryz.prog.unfollowed 3) = true := by
  rw [fact_unfollowed]
  kernel_rfl
theorem fact_recurses : (Rows.nodeBeginsRow.recurses == Tryz.prog.recurses 3) = true := by
  unfold Program.recurses
  rw [fact_unfollowed, Bool.true_or]
  kernel_rfl
theorem fact_named : (Rows.nodeBeginsRow.named == Tryz.prog.varsNamed 3) = true := by
  unfold Program.varsNamed
  rw [clo]
  kernel_rfl
set_option maxHeartbeats 0 in
theorem nb_facts : joinedFacts Tryz.prog 3 Tryz.f3 Rows.nodeBeginsSpec Rows.nodeBeginsRow = true := by
  unfold joinedFacts
  simp only [Bool.and_eq_true]
  refine ⟨⟨⟨⟨⟨⟨⟨⟨⟨⟨⟨⟨⟨⟨⟨⟨⟨⟨⟨⟨⟨⟨⟨⟨⟨⟨⟨⟨⟨⟨⟨?k1, ?k2⟩, ?k3⟩, ?k4⟩, ?k5⟩, ?k6⟩, ?k7⟩, ?k8⟩, ?k9⟩, ?k10⟩, ?k11⟩, ?k12⟩, ?k13⟩, ?k14⟩, ?k15⟩, ?k16⟩, ?k17⟩, ?k17b⟩, ?k18⟩, ?k19⟩, ?k20⟩, ?k21⟩, ?k22⟩, ?k23⟩, ?k23b⟩, ?k24⟩, ?k24b⟩, ?k24c⟩, ?k25⟩, ?k26⟩, ?k27⟩, ?k28⟩
  case k10 => exact fact_inPlace
  case k11 => exact fact_unfollowed'
  case k12 => exact fact_recurses
  case k13 => exact fact_named
  all_goals (as_aux_lemma => kernel_rfl)
/-- No function of the program starts a goroutine. -/
theorem none_goes : Tryz.prog.funcs.any Func.goes = false := by kernel_rfl
theorem goes_none (f : FuncId) : Tryz.prog.goes f = false := by
  unfold Program.goes
  rw [none_goes, Bool.and_false, Bool.or_false, List.any_eq_false]
  intro g _
  cases h : Tryz.prog.funcs[g]? with
  | none => simp
  | some fn =>
    have hall := none_goes
    rw [Array.any_eq_false] at hall
    obtain ⟨hg, rfl⟩ := Array.getElem?_eq_some_iff.1 h
    simpa using hall g hg
end Go.Proofs.YtakinpjaklgacaaGreatDoor
