/-
  The closure of 'TopWoken', and what is asked of it. There are no conditions.
-/
import Derived.Test.YtagmlijhgncklaaGreatDoorW04
import Derived.Test.YtagmlijhgncklaaGreatDoorW05
set_option linter.unusedVariables false
namespace Go.Proofs.YtagmlijhgncklaaGreatDoor.topWoken
open Go Go.Proofs.YtagmlijhgncklaaGreatDoor.Reach
def reach : List Nat := [3, 7, 19, 10, 11, 12, 21, 53, 54, 96, 97, 150, 301, 171, 321, 95, 55, 98, 56, 99, 57, 22, 58, 59, 23, 24, 60, 25, 26, 27, 28, 29, 30, 31, 32, 33, 34, 35, 36, 37, 38, 39, 61, 100, 62, 102, 101, 63, 103, 172, 322, 173, 64, 105, 177, 170, 324, 104, 174, 175, 323, 176, 106, 40, 41, 65, 107, 108, 66, 109, 178, 179, 67, 68, 110, 91, 180, 181, 182, 326, 325, 169, 452, 453, 564, 87, 81, 151, 86, 158, 154, 159, 305, 42, 69, 111, 49, 112, 184, 183, 118, 119, 113, 114, 185, 116, 115, 117, 70, 120, 186, 71, 121, 188, 153, 302, 303, 454, 187, 122, 189, 190, 191, 327, 473, 123, 124, 192, 89, 125, 193, 194, 126, 127, 195, 128, 129, 197, 196, 329, 330, 474, 331, 475, 328, 332, 476, 472, 570, 605, 495, 575, 607, 606, 623, 629, 630, 639, 631, 619, 620, 632, 640, 641, 647, 633, 634, 635, 636, 576, 577, 608, 465, 568, 464, 397, 477, 478, 479, 130, 168, 320, 469, 314, 455, 317, 467, 468, 466, 569, 144, 131, 132, 199, 198, 333, 480, 481, 14, 13, 43, 44, 48, 92, 72, 133, 94, 73, 134, 201, 200, 135, 202, 203, 334, 335, 204, 337, 482, 571, 572, 319, 336, 471, 338, 483, 339, 207, 346, 347, 345, 340, 484, 341, 485, 152, 342, 93, 486, 573, 51, 138, 206, 343, 344, 487, 205, 74, 136, 50, 137, 75, 139, 161, 164, 313, 306, 461, 140, 141, 76, 77, 142, 52, 78, 143, 145, 208, 348, 350, 146, 349, 209, 210, 351, 352, 426, 518, 312, 457, 458, 459, 565, 460, 566, 309, 488, 211, 212, 213, 353, 489, 214, 354, 162, 355, 356, 490, 215, 357, 491, 574, 216, 358, 492, 217, 218, 360, 359, 493, 361, 219, 362, 494, 363, 364, 220, 365, 470, 496, 497, 507, 366, 221, 367, 222, 368, 223, 369, 224, 370, 225, 371, 226, 373, 372, 227, 374, 498, 375, 499, 376, 228, 377, 500, 501, 578, 229, 230, 378, 502, 318, 231, 379, 232, 380, 381, 233, 382, 503, 383, 504, 384, 234, 385, 505, 506, 386, 235, 236, 237, 90, 167, 238, 387, 239, 388, 389, 240, 390, 391, 392, 241, 393, 509, 508, 242, 395, 394, 243, 396, 510, 398, 399, 400, 244, 401, 511, 579, 402, 245, 403, 246, 404, 247, 405, 248, 249, 250, 251, 163, 310, 456, 311, 428, 252, 253, 406, 254, 407, 422, 255, 408, 409, 256, 410, 512, 411, 513, 412, 413, 257, 414, 514, 515, 580, 609, 581, 611, 610, 612, 624, 625, 637, 642, 258, 415, 516, 582, 259, 260, 261, 262, 416, 417, 421, 263, 418, 517, 419, 264, 420, 424, 423, 307, 88, 160, 308, 165, 316, 315, 462, 567, 597, 598, 618, 599, 600, 621, 622, 628, 601, 602, 603, 604, 463, 166, 265, 266, 267, 268, 425, 269, 270, 427, 519, 271, 429, 520, 272, 430, 521, 273, 274, 431, 275, 432, 522, 583, 276, 433, 277, 434, 523, 278, 435, 525, 524, 279, 436, 526, 280, 437, 527, 281, 438, 529, 528, 584, 531, 530, 585, 534, 586, 532, 282, 439, 533, 535, 283, 441, 440, 537, 538, 589, 613, 590, 614, 539, 591, 615, 616, 626, 617, 627, 638, 643, 648, 644, 645, 646, 649, 540, 541, 556, 542, 543, 544, 592, 593, 545, 546, 536, 587, 588, 284, 442, 547, 548, 549, 595, 594, 596, 285, 443, 550, 551, 286, 444, 552, 553, 287, 445, 554, 288, 446, 555, 557, 289, 447, 558, 290, 448, 559, 291, 449, 560, 292, 450, 561, 293, 451, 562, 563, 294, 147, 79, 148, 295, 296, 297, 298, 299, 300, 149, 45, 80, 82, 83, 84, 85, 156, 157, 155, 304, 46, 16, 15, 47, 8, 9]
theorem closure_eq : Tryz.prog.closure 3 = reach := by
  unfold Program.closure
  rw [fuel_eq, via_eq]
  kernel_rfl
theorem unf : Tryz.prog.unfollowed 3 = true := by
  unfold Program.unfollowed
  rw [closure_eq, List.any_eq_true]
  exact ⟨171, by rw [← List.contains_iff_mem, memB_eq]; kernel_rfl, by kernel_rfl⟩
theorem inPl : Tryz.prog.inPlace 3 = ["slices.overlaps[metronome/api.Message]", "internal/bytealg.IndexByteString", "internal/bytealg.IndexString"] := by
  have e : Tryz.prog.inPlace 3 = (Tryz.prog.closure 3).filterMap nm := rfl
  have z : reach.filterMap ntF = ["slices.overlaps[metronome/api.Message]", "internal/bytealg.IndexByteString", "internal/bytealg.IndexString"] := by kernel_rfl
  rw [e, closure_eq, show nm = ntF from funext nt_eq]
  exact z
theorem varsN : Tryz.prog.varsNamed 3 = ["math/bits.deBruijn32tab", "unicode/utf8.first", "unicode/utf8.acceptRanges", "internal/bytealg.MaxLen"] := by
  have e : Tryz.prog.varsNamed 3 = ((((Tryz.prog.closure 3).flatMap gv).eraseDups).filterMap (fun g => (Tryz.prog.globals[g]?).map (·.name)) ++ (Tryz.prog.closure 3).filterMap er).eraseDups := rfl
  have z : (((reach.flatMap gtF).eraseDups).filterMap (fun g => (Tryz.prog.globals[g]?).map (·.name)) ++ reach.filterMap etF).eraseDups = ["math/bits.deBruijn32tab", "unicode/utf8.first", "unicode/utf8.acceptRanges", "internal/bytealg.MaxLen"] := by kernel_rfl
  rw [e, closure_eq, show gv = gtF from funext gt_eq, show er = etF from funext et_eq]
  exact z
theorem fact9 : ((Rows.topWokenRow.inPlace == Tryz.pinned.checked.prog.inPlace 3)) = true := by
  rw [show Tryz.pinned.checked.prog = Tryz.prog from rfl, inPl]
  kernel_rfl
theorem fact10 : ((Rows.topWokenRow.unfollowed == Tryz.pinned.checked.prog.unfollowed 3)) = true := by
  rw [show Tryz.pinned.checked.prog = Tryz.prog from rfl, unf]
  rfl
theorem fact11 : ((Rows.topWokenRow.recurses == Tryz.pinned.checked.prog.recurses 3)) = true := by
  rw [show Tryz.pinned.checked.prog = Tryz.prog from rfl]
  unfold Program.recurses
  rw [unf]
  rfl
theorem fact12 : ((Rows.topWokenRow.named == Tryz.pinned.checked.prog.varsNamed 3)) = true := by
  rw [show Tryz.pinned.checked.prog = Tryz.prog from rfl, varsN]
  kernel_rfl
theorem factFn : Tryz.pinned.checked.prog.funcNamed Rows.topWokenRow.func = some 3 := by kernel_rfl
theorem goesNot : Tryz.prog.goes 3 = false := by
  have q : Tryz.prog.goes 3 = (((Tryz.prog.closure 3).any gs) || (Tryz.prog.unfollowed 3 && Tryz.prog.funcs.any Func.goes)) := rfl
  have z : (Tryz.prog.closure 3).any gs = false := by
    rw [List.any_eq_false]
    intro x _
    rw [go_eq]
    decide
  rw [q, z, nobody, Bool.and_false, Bool.or_false]
set_option maxRecDepth 100000 in
theorem factGoes : false = Rows.topWokenRow.goesBy Tryz.pinned.checked.prog := by
  have e : Rows.topWokenRow.goesBy Tryz.pinned.checked.prog = ((Tryz.pinned.checked.prog.funcNamed Rows.topWokenRow.func).any Tryz.pinned.checked.prog.goes || false) := rfl
  have z : Tryz.pinned.checked.prog.goes 3 = false := goesNot
  rw [e, factFn, Option.any_some, z]
  rfl
end Go.Proofs.YtagmlijhgncklaaGreatDoor.topWoken
