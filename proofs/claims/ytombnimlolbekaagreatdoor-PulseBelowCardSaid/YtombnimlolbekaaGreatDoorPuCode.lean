/- The functions of the program, written for the evaluator, first part: definitions alone. -/
import Derived.Test.YtombnimlolbekaaGreatDoorFwC
namespace Fw
open Go
abbrev o (d : Nat) (x : AOp) : AOper := ⟨some d, x, none⟩
abbrev u (x : AOp) : AOper := ⟨none, x, none⟩
abbrev mt (d x : Nat) : AOper := ⟨some d, .mv (.t x), none⟩
abbrev zl0 : List AVal := [.p (.str []), .p (.int .i64 0), .p (.int .i64 0), .p (.int .i64 0)]
abbrev zl1 : List AVal := [.p (.int .i64 0), .p (.int .i64 0), .p (.nils)]
abbrev zl2 : List AVal := [.p (.int .i64 0), .p (.int .i64 0)]
abbrev zl3 : List AVal := [.p (.nilf), .p (.int .i64 0)]
abbrev zl4 : List AVal := [.p (.int .i64 0)]
abbrev zl5 : List AVal := [.p (.str [])]
abbrev ci (n : Int) : Opd := .c (.p (.int .i64 n))
abbrev cb (b : Bool) : Opd := .c (.p (.bool b))
abbrev cs (l : List UInt8) : Opd := .c (.p (.str l))
abbrev cn : Opd := .c (.p .nils)
abbrev cf (f : Nat) : Opd := .c (.p (.clo f [] []))
inductive Tr where | leaf | node (k : Nat) (v : AFunc) (l r : Tr)
def Tr.find : Tr → Nat → Option AFunc
 | .leaf, _ => none
 | .node k v l r, n => if n = k then some v else if n < k then l.find n else r.find n
def c8L0 : ACode :=
 .seq (.ops [o 139 (.bin .lss (.t 138) (.t 137))] [1, 3, 5, 7, 8, 9, 10, 11, 13, 15, 17, 18, 136, 137, 138, 139])
 (.seq (.cond (.t 139)
 (.skip)
 (.exit 0))
 (.seq (.block 1 (.seq (.ops [mt 140 138, o 141 (.iadr 1 (.t 136) (.t 138)), o 142 (.ld false 1 (.t 141)), mt 19 140, mt 20 142] [1, 3, 5, 7, 8, 9, 10, 11, 13, 15, 17, 18, 19, 20, 136, 137, 138])
 (.seq (.seq (.ops [mt 143 20, mt 144 13, mt 145 19, o 146 (.iadr 2 (.t 144) (.t 145)), o 147 (.fadr 0 (.t 146)), o 148 (.ld false 1 (.t 147)), o 149 (.bin .lss (.t 143) (.t 148)), mt 150 149, ⟨some 151, .mv (.t 20), some (150, false)⟩, ⟨some 152, .mv (.t 13), some (150, false)⟩, ⟨some 153, .mv (.t 19), some (150, false)⟩, ⟨some 154, .iadr 2 (.t 152) (.t 153), some (150, false)⟩, ⟨some 155, .fadr 1 (.t 154), some (150, false)⟩, ⟨some 156, .ld false 1 (.t 155), some (150, false)⟩, ⟨some 157, .bin .gtr (.t 151) (.t 156), some (150, false)⟩, o 158 (.pick (.t 150) (cb true) (.t 157)), mt 159 158, ⟨some 160, .mv (.t 20), some (159, false)⟩, ⟨some 161, .mv (.t 17), some (159, false)⟩, ⟨some 162, .mv (.t 8), some (159, false)⟩, ⟨some 163, .max [.t 161, .t 162], some (159, false)⟩, ⟨some 164, .bin .gtr (.t 160) (.t 163), some (159, false)⟩, o 165 (.pick (.t 159) (cb true) (.t 164)), mt 166 165, ⟨some 167, .mv (.t 20), some (166, false)⟩, ⟨some 168, .bin .lss (.t 167) (ci 0), some (166, false)⟩, o 169 (.pick (.t 166) (cb true) (.t 168))] [1, 3, 5, 7, 8, 9, 10, 11, 13, 15, 18, 19, 20, 136, 137, 138, 169])
 (.cond (.t 169)
 (.seq (.ops [o 6 (.mv (cb false))] [6])
 (.ret))
 (.skip)))
 (.opsd [(0, 1), (1, 1), (2, 1), (3, 1), (4, 1), (5, 1), (6, 1), (7, 1), (8, 1), (9, 1), (10, 1), (11, 1), (12, 1), (13, 1)] [mt 170 20, mt 171 18, mt 172 171, ⟨some 173, .mv (.t 13), some (172, true)⟩, ⟨some 174, .mv (.t 19), some (172, true)⟩, ⟨some 175, .iadr 2 (.t 173) (.t 174), some (172, true)⟩, ⟨some 176, .fadr 1 (.t 175), some (172, true)⟩, ⟨some 177, .ld false 1 (.t 176), some (172, true)⟩, ⟨some 178, .fadr 4 (.t 3), some (172, true)⟩, ⟨some 179, .ld false 1 (.t 178), some (172, true)⟩, ⟨some 180, .bin .leq (.t 177) (.t 179), some (172, true)⟩, o 181 (.pick (.t 172) (.t 180) (cb false)), mt 17 170, mt 18 181] [1, 3, 5, 7, 8, 9, 10, 11, 13, 15, 17, 18, 136, 137, 138]))))
 (.ops [o 182 (.bin .add (.t 138) (ci 1)), mt 138 182] [1, 3, 5, 7, 8, 9, 10, 11, 13, 15, 17, 18, 136, 137, 138])))
def c8L1 : ACode :=
 .seq (.ops [o 192 (.bin .lss (.t 191) (.t 190))] [1, 3, 5, 7, 8, 9, 10, 11, 15, 21, 190, 191, 192])
 (.seq (.cond (.t 192)
 (.skip)
 (.exit 2))
 (.seq (.block 3 (.seq (.ops [mt 193 191, mt 22 193] [1, 3, 5, 7, 8, 9, 10, 11, 15, 21, 22, 190, 191])
 (.opsd [(0, 1), (1, 1), (2, 1), (3, 1), (4, 1), (5, 1), (6, 1), (7, 1), (8, 1), (9, 1), (10, 1), (11, 1), (12, 1), (13, 1), (14, 1), (15, 0)] [mt 194 21, mt 195 22, mt 196 21, mt 197 22, o 198 (.iadr 2 (.t 196) (.t 197)), o 199 (.fadr 1 (.t 198)), o 200 (.ld false 1 (.t 199)), o 201 (.fadr 3 (.t 5)), o 202 (.ld false 1 (.t 201)), o 203 (.conv (.int .i64) (.t 202)), o 204 (.bin .rem (.t 203) (ci 7)), o 205 (.bin .add (.t 200) (.t 204)), o 206 (.min [ci 100, .t 205]), o 207 (.iadr 2 (.t 194) (.t 195)), o 208 (.fadr 1 (.t 207)), u (.st 1 (.t 208) (.t 206))] [1, 3, 5, 7, 8, 9, 10, 11, 15, 21, 190, 191])))
 (.ops [o 209 (.bin .add (.t 191) (ci 1)), mt 191 209] [1, 3, 5, 7, 8, 9, 10, 11, 15, 21, 190, 191])))
def c8L2 : ACode :=
 .seq (.ops [o 230 (.bin .lss (.t 229) (.t 228))] [1, 3, 5, 7, 8, 9, 10, 11, 15, 227, 228, 229, 230])
 (.seq (.cond (.t 230)
 (.skip)
 (.exit 4))
 (.seq (.block 5 (.seq (.ops [mt 231 229, o 232 (.iadr 1 (.t 227) (.t 229)), o 233 (.ld false 1 (.t 232)), mt 25 231, mt 26 233] [1, 3, 5, 7, 8, 9, 10, 11, 15, 25, 26, 227, 228, 229])
 (.seq (.ops [mt 234 26, mt 235 11, mt 236 25, o 237 (.iadr 1 (.t 235) (.t 236)), o 238 (.ld false 1 (.t 237)), o 239 (.bin .lss (.t 234) (.t 238))] [1, 3, 5, 7, 8, 9, 10, 11, 15, 227, 228, 229, 239])
 (.cond (.t 239)
 (.seq (.ops [o 6 (.mv (cb false))] [6])
 (.ret))
 (.skip)))))
 (.ops [o 240 (.bin .add (.t 229) (ci 1)), mt 229 240] [1, 3, 5, 7, 8, 9, 10, 11, 15, 227, 228, 229])))
def c8L3 : ACode :=
 .seq (.ops [o 341 (.bin .lss (.t 340) (.t 339))] [1, 3, 5, 7, 8, 10, 27, 29, 30, 33, 285, 286, 287, 338, 339, 340, 341])
 (.seq (.cond (.t 341)
 (.skip)
 (.exit 8))
 (.seq (.block 9 (.seq (.ops [o 342 (.iadr 1 (.t 338) (.t 340)), o 343 (.ld false 1 (.t 342)), mt 36 343] [1, 3, 5, 7, 8, 10, 27, 29, 30, 33, 36, 285, 286, 287, 338, 339, 340])
 (.seq (.ops [mt 344 36, o 345 (.fadr 4 (.t 3)), o 346 (.ld false 1 (.t 345)), o 347 (.bin .gtr (.t 344) (.t 346))] [1, 3, 5, 7, 8, 10, 27, 29, 30, 33, 285, 286, 287, 338, 339, 340, 347])
 (.cond (.t 347)
 (.seq (.ops [o 6 (.mv (cb false))] [6])
 (.ret))
 (.skip)))))
 (.ops [o 348 (.bin .add (.t 340) (ci 1)), mt 340 348] [1, 3, 5, 7, 8, 10, 27, 29, 30, 33, 285, 286, 287, 338, 339, 340])))
def c8L4 : ACode :=
 .seq (.ops [o 352 (.bin .lss (.t 351) (.t 350))] [1, 3, 5, 7, 8, 10, 27, 29, 30, 33, 285, 286, 287, 350, 351, 352])
 (.seq (.cond (.t 352)
 (.skip)
 (.exit 10))
 (.seq (.block 11 (.seq (.ops [mt 353 351, mt 37 353] [1, 3, 5, 7, 8, 10, 27, 29, 30, 33, 37, 285, 286, 287, 350, 351])
 (.seq (.opsd [(0, 1), (1, 1), (2, 1), (3, 1), (4, 1), (5, 1), (6, 1), (7, 1), (8, 1), (9, 1), (10, 1), (11, 1), (12, 1), (13, 1), (14, 1), (15, 1), (16, 1), (17, 1), (18, 1), (19, 1), (20, 1), (21, 1), (22, 1), (23, 1), (24, 1), (25, 1), (26, 1), (27, 1), (28, 1), (29, 1), (30, 1), (31, 1), (32, 1), (33, 1), (34, 1), (35, 1), (36, 1), (37, 1), (38, 1), (39, 1), (40, 1), (41, 1), (42, 1), (43, 1), (44, 1), (45, 1), (46, 1), (47, 1), (48, 1), (49, 1)] [mt 354 30, mt 355 37, o 356 (.iadr 2 (.t 354) (.t 355)), o 357 (.fadr 0 (.t 356)), o 358 (.ld false 1 (.t 357)), mt 359 1, mt 360 37, o 361 (.iadr 2 (.t 359) (.t 360)), o 362 (.fadr 0 (.t 361)), o 363 (.ld false 1 (.t 362)), o 364 (.bin .neq (.t 358) (.t 363)), mt 365 364, ⟨some 366, .mv (.t 29), some (365, false)⟩, ⟨some 367, .bin .gtr (.t 366) (ci 0), some (365, false)⟩, ⟨some 368, .mv (.t 367), some (365, false)⟩, ⟨some 369, .mv (.t 30), some (368, true)⟩, ⟨some 370, .mv (.t 37), some (368, true)⟩, ⟨some 371, .iadr 2 (.t 369) (.t 370), some (368, true)⟩, ⟨some 372, .fadr 1 (.t 371), some (368, true)⟩, ⟨some 373, .ld false 1 (.t 372), some (368, true)⟩, ⟨some 374, .mv (.t 27), some (368, true)⟩, ⟨some 375, .mv (.t 29), some (368, true)⟩, ⟨some 376, .bin .sub (.t 375) (ci 1), some (368, true)⟩, ⟨some 377, .iadr 1 (.t 374) (.t 376), some (368, true)⟩, ⟨some 378, .ld false 1 (.t 377), some (368, true)⟩, ⟨some 379, .mv (.t 37), some (368, true)⟩, ⟨some 380, .iadr 2 (.t 378) (.t 379), some (368, true)⟩, ⟨some 381, .fadr 1 (.t 380), some (368, true)⟩, ⟨some 382, .ld false 1 (.t 381), some (368, true)⟩, ⟨some 383, .bin .sub (.t 373) (.t 382), some (368, true)⟩, ⟨some 384, .mv (.t 27), some (368, true)⟩, ⟨some 385, .mv (.t 29), some (368, true)⟩, ⟨some 386, .bin .sub (.t 385) (ci 1), some (368, true)⟩, ⟨some 387, .iadr 1 (.t 384) (.t 386), some (368, true)⟩, ⟨some 388, .ld false 1 (.t 387), some (368, true)⟩, ⟨some 389, .mv (.t 37), some (368, true)⟩, ⟨some 390, .iadr 2 (.t 388) (.t 389), some (368, true)⟩, ⟨some 391, .fadr 1 (.t 390), some (368, true)⟩, ⟨some 392, .ld false 1 (.t 391), some (368, true)⟩, ⟨some 393, .mv (.t 30), some (368, true)⟩, ⟨some 394, .mv (.t 37), some (368, true)⟩, ⟨some 395, .iadr 2 (.t 393) (.t 394), some (368, true)⟩, ⟨some 396, .fadr 1 (.t 395), some (368, true)⟩, ⟨some 397, .ld false 1 (.t 396), some (368, true)⟩, ⟨some 398, .bin .sub (.t 392) (.t 397), some (368, true)⟩, ⟨some 399, .max [.t 383, .t 398], some (368, true)⟩, ⟨some 400, .mv (.t 10), some (368, true)⟩, ⟨some 401, .bin .gtr (.t 399) (.t 400), some (368, true)⟩, ⟨some 402, .pick (.t 368) (.t 401) (cb false), some (365, false)⟩, o 403 (.pick (.t 365) (cb true) (.t 402))] [1, 3, 5, 7, 8, 10, 27, 29, 30, 33, 285, 286, 287, 350, 351, 403])
 (.cond (.t 403)
 (.seq (.ops [o 6 (.mv (cb false))] [6])
 (.ret))
 (.skip)))))
 (.ops [o 404 (.bin .add (.t 351) (ci 1)), mt 351 404] [1, 3, 5, 7, 8, 10, 27, 29, 30, 33, 285, 286, 287, 350, 351])))
def c8L5 : ACode :=
 .seq (.ops [o 288 (.bin .lss (.t 287) (.t 286))] [1, 3, 5, 7, 8, 10, 27, 285, 286, 287, 288])
 (.seq (.cond (.t 288)
 (.skip)
 (.exit 6))
 (.seq (.block 7 (.seq (.ops [mt 289 287, o 290 (.iadr 1 (.t 285) (.t 287)), o 291 (.ld false 1 (.t 290)), mt 29 289, mt 30 291] [1, 3, 5, 7, 8, 10, 27, 29, 30, 285, 286, 287])
 (.seq (.seq (.ops [mt 292 30, o 293 (.call true false 0 (.fn 52) [.t 292]), o 294 (.call true true 0 (.fn 19) [.t 293]), o 295 (.bin .neq (.t 294) (ci 0)), mt 296 295, ⟨some 297, .mv (.t 30), some (296, false)⟩, ⟨some 298, .len 1 (.t 297), some (296, false)⟩, ⟨some 299, .mv (.t 1), some (296, false)⟩, ⟨some 300, .len 1 (.t 299), some (296, false)⟩, ⟨some 301, .bin .neq (.t 298) (.t 300), some (296, false)⟩, o 302 (.pick (.t 296) (cb true) (.t 301))] [1, 3, 5, 7, 8, 10, 27, 29, 30, 285, 286, 287, 302])
 (.cond (.t 302)
 (.seq (.ops [o 6 (.mv (cb false))] [6])
 (.ret))
 (.skip)))
 (.seq (.opsd [(0, 1), (1, 1), (2, 1), (3, 1), (4, 1), (5, 0), (6, 1), (7, 1), (8, 1), (9, 1), (10, 1)] [o 304 (.ld true 5 (.t 3)), mt 305 30, o 306 (.call true true 0 (.fn 52) [.t 305]), o 307 (.call true true 0 (.fn 14) [.t 306]), mt 308 7, o 309 (.call true true 0 (.fn 17) [.t 304, .t 307, .t 308]), mt 303 309, o 310 (.ext (.t 303) 0), o 311 (.ext (.t 303) 1), mt 31 310, mt 32 311] [1, 3, 5, 7, 8, 10, 27, 29, 30, 31, 32, 285, 286, 287])
 (.seq (.opsd [(0, 1), (1, 1), (2, 1), (3, 1), (4, 1), (5, 1), (6, 0), (7, 1), (8, 1), (9, 1), (10, 1), (11, 1)] [o 313 (.ld true 5 (.t 3)), mt 314 30, o 315 (.call true true 0 (.fn 52) [.t 314]), o 316 (.call true true 0 (.fn 14) [.t 315]), mt 317 8, mt 318 7, o 319 (.call true false 0 (.fn 15) [.t 313, .t 316, .t 317, .t 318]), mt 312 319, o 320 (.ext (.t 312) 0), o 321 (.ext (.t 312) 1), mt 33 320, mt 34 321] [1, 3, 5, 7, 8, 10, 27, 29, 30, 31, 32, 33, 34, 285, 286, 287])
 (.seq (.seq (.ops [mt 322 32, o 323 (.bin .neq (.t 322) (ci 0)), mt 324 323, ⟨some 325, .mv (.t 34), some (324, false)⟩, ⟨some 326, .bin .neq (.t 325) (ci 0), some (324, false)⟩, o 327 (.pick (.t 324) (cb true) (.t 326)), mt 328 327, ⟨some 329, .mv (.t 31), some (328, false)⟩, ⟨some 330, .not (.t 329), some (328, false)⟩, o 331 (.pick (.t 328) (cb true) (.t 330)), mt 332 331, ⟨some 333, .mv (.t 33), some (332, false)⟩, ⟨some 334, .len 1 (.t 333), some (332, false)⟩, ⟨some 335, .mv (.t 7), some (332, false)⟩, ⟨some 336, .bin .neq (.t 334) (.t 335), some (332, false)⟩, o 337 (.pick (.t 332) (cb true) (.t 336))] [1, 3, 5, 7, 8, 10, 27, 29, 30, 33, 285, 286, 287, 337])
 (.cond (.t 337)
 (.seq (.ops [o 6 (.mv (cb false))] [6])
 (.ret))
 (.skip)))
 (.seq (.seq (.ops [mt 338 33, o 339 (.len 1 (.t 338)), o 340 (.mv (ci 0))] [1, 3, 5, 7, 8, 10, 27, 29, 30, 33, 285, 286, 287, 338, 339, 340])
 (.block 8 (.loop false [1, 3, 5, 7, 8, 10, 27, 29, 30, 33, 285, 286, 287, 338, 339, 340] c8L3)))
 (.seq (.seq (.ops [mt 349 30, o 350 (.len 1 (.t 349)), o 351 (.mv (ci 0))] [1, 3, 5, 7, 8, 10, 27, 29, 30, 33, 285, 286, 287, 350, 351])
 (.block 10 (.loop false [1, 3, 5, 7, 8, 10, 27, 29, 30, 33, 285, 286, 287, 350, 351] c8L4)))
 (.seq (.ops [mt 405 29, o 406 (.bin .add (.t 405) (ci 1)), mt 407 27, o 408 (.len 1 (.t 407)), o 409 (.bin .lss (.t 406) (.t 408))] [1, 3, 5, 7, 8, 10, 27, 29, 30, 33, 285, 286, 287, 409])
 (.cond (.t 409)
 (.seq (.opsd [(0, 1), (1, 1), (2, 1), (3, 1), (4, 1), (5, 1), (6, 1), (7, 1), (8, 1), (9, 1), (10, 0), (11, 1), (12, 1), (13, 1), (14, 1), (15, 1)] [o 411 (.ld true 5 (.t 3)), mt 412 30, o 413 (.call true true 0 (.fn 52) [.t 412]), o 414 (.call true true 0 (.fn 14) [.t 413]), o 415 (.fadr 0 (.t 5)), o 416 (.ld false 1 (.t 415)), o 417 (.call true true 0 (.fn 32) [.t 416]), mt 418 33, o 419 (.call true true 0 (.fn 33) [.t 418]), mt 420 10, o 421 (.call true false 0 (.fn 44) [.t 411, .t 414, .t 417, .t 419, .t 420]), mt 410 421, o 422 (.ext (.t 410) 0), o 423 (.ext (.t 410) 1), mt 38 422, mt 39 423] [1, 3, 5, 7, 8, 10, 27, 29, 38, 39, 285, 286, 287])
 (.seq (.opsd [(0, 1), (1, 1), (2, 1), (3, 1), (4, 1), (5, 1), (6, 1), (7, 1), (8, 1), (9, 1), (10, 0), (11, 0), (12, 1), (13, 1)] [mt 424 39, o 425 (.bin .neq (.t 424) (ci 0)), mt 426 425, ⟨some 427, .mv (.t 38), some (426, false)⟩, ⟨some 428, .call true true 0 (.fn 52) [.t 427], some (426, false)⟩, ⟨some 429, .mv (.t 27), some (426, false)⟩, ⟨some 430, .mv (.t 29), some (426, false)⟩, ⟨some 431, .bin .add (.t 430) (ci 1), some (426, false)⟩, ⟨some 432, .iadr 1 (.t 429) (.t 431), some (426, false)⟩, ⟨some 433, .ld false 1 (.t 432), some (426, false)⟩, ⟨some 434, .call true false 0 (.fn 52) [.t 433], some (426, false)⟩, ⟨some 435, .call true true 0 (.fn 51) [.t 428, .t 434], some (426, false)⟩, ⟨some 436, .not (.t 435), some (426, false)⟩, o 437 (.pick (.t 426) (cb true) (.t 436))] [1, 3, 5, 7, 8, 10, 27, 285, 286, 287, 437])
 (.cond (.t 437)
 (.seq (.ops [o 6 (.mv (cb false))] [6])
 (.ret))
 (.skip))))
 (.skip)))))))))))
 (.ops [o 438 (.bin .add (.t 287) (ci 1)), mt 287 438] [1, 3, 5, 7, 8, 10, 27, 285, 286, 287])))
def c8 : AFunc := ⟨440, [.tmp 6],
 .seq (.ops [o 3 (.box true (.t 0)), o 5 (.box false (.t 2)), o 6 (.mv (cb false))] [1, 3, 5])
 (.seq (.seq (.ops [o 40 (.ld true 5 (.t 3)), o 41 (.call true true 0 (.fn 21) [.t 40]), o 42 (.bin .neq (.t 41) (ci 0)), mt 43 42, ⟨some 44, .mv (.t 1), some (43, false)⟩, ⟨some 45, .call true true 0 (.fn 19) [.t 44], some (43, false)⟩, ⟨some 46, .bin .neq (.t 45) (ci 0), some (43, false)⟩, o 47 (.pick (.t 43) (cb true) (.t 46)), mt 48 47, ⟨some 49, .fadr 0 (.t 5), some (48, false)⟩, ⟨some 50, .ld false 1 (.t 49), some (48, false)⟩, ⟨some 51, .len 1 (.t 50), some (48, false)⟩, ⟨some 52, .bin .gtr (.t 51) (ci 16), some (48, false)⟩, o 53 (.pick (.t 48) (cb true) (.t 52)), mt 54 53, ⟨some 55, .fadr 0 (.t 5), some (54, false)⟩, ⟨some 56, .ld false 1 (.t 55), some (54, false)⟩, ⟨some 57, .call true true 0 (.fn 37) [.t 56], some (54, false)⟩, ⟨some 58, .bin .neq (.t 57) (ci 0), some (54, false)⟩, o 59 (.pick (.t 54) (cb true) (.t 58))] [1, 3, 5, 59])
 (.cond (.t 59)
 (.seq (.ops [o 60 (.call true true 0 (.fn 12) []), mt 6 60] [6])
 (.ret))
 (.skip)))
 (.seq (.ops [o 61 (.fadr 0 (.t 5)), o 62 (.ld false 1 (.t 61)), o 63 (.len 1 (.t 62)), mt 7 63] [1, 3, 5, 7])
 (.seq (.opsd [(0, 1), (1, 1), (2, 1), (3, 1), (4, 1), (5, 1), (6, 1), (7, 1), (8, 1), (9, 1), (10, 1), (11, 1), (12, 1), (13, 1), (14, 1), (15, 1), (16, 1)] [o 64 (.fadr 0 (.t 3)), o 65 (.fadr 0 (.t 64)), o 66 (.ld false 1 (.t 65)), o 67 (.fadr 1 (.t 5)), o 68 (.ld false 1 (.t 67)), o 69 (.conv (.int .i64) (.t 68)), o 70 (.fadr 0 (.t 3)), o 71 (.fadr 1 (.t 70)), o 72 (.ld false 1 (.t 71)), o 73 (.fadr 0 (.t 3)), o 74 (.fadr 0 (.t 73)), o 75 (.ld false 1 (.t 74)), o 76 (.bin .sub (.t 72) (.t 75)), o 77 (.bin .add (.t 76) (ci 1)), o 78 (.bin .rem (.t 69) (.t 77)), o 79 (.bin .add (.t 66) (.t 78)), mt 8 79] [1, 3, 5, 7, 8])
 (.seq (.opsd [(0, 1), (1, 1), (2, 1), (3, 1), (4, 1), (5, 1), (6, 1), (7, 1), (8, 1), (9, 1), (10, 1)] [o 80 (.fadr 2 (.t 5)), o 81 (.ld false 1 (.t 80)), o 82 (.conv (.int .i64) (.t 81)), o 83 (.bin .rem (.t 82) (ci 5)), o 84 (.fadr 3 (.t 5)), o 85 (.ld false 1 (.t 84)), o 86 (.conv (.int .i64) (.t 85)), o 87 (.bin .rem (.t 86) (ci 100)), o 88 (.bin .add (ci 1) (.t 87)), mt 9 83, mt 10 88] [1, 3, 5, 7, 8, 9, 10])
 (.seq (.opsd [(0, 1), (1, 1), (2, 1), (3, 1), (4, 1), (5, 0), (6, 1), (7, 1), (8, 1), (9, 1), (10, 1)] [o 90 (.ld true 5 (.t 3)), mt 91 1, o 92 (.call true true 0 (.fn 14) [.t 91]), mt 93 8, mt 94 7, o 95 (.call true false 0 (.fn 15) [.t 90, .t 92, .t 93, .t 94]), mt 89 95, o 96 (.ext (.t 89) 0), o 97 (.ext (.t 89) 1), mt 11 96, mt 12 97] [1, 3, 5, 7, 8, 9, 10, 11, 12])
 (.seq (.opsd [(0, 1), (1, 1), (2, 1), (3, 1), (4, 0), (5, 1), (6, 1), (7, 1), (8, 1), (9, 1)] [o 99 (.ld true 5 (.t 3)), mt 100 1, o 101 (.call true true 0 (.fn 14) [.t 100]), mt 102 7, o 103 (.call true false 0 (.fn 16) [.t 99, .t 101, .t 102]), mt 98 103, o 104 (.ext (.t 98) 0), o 105 (.ext (.t 98) 1), mt 13 104, mt 14 105] [1, 3, 5, 7, 8, 9, 10, 11, 12, 13, 14])
 (.seq (.opsd [(0, 1), (1, 1), (2, 1), (3, 1), (4, 0), (5, 1), (6, 1), (7, 1), (8, 1), (9, 1)] [o 107 (.ld true 5 (.t 3)), mt 108 1, o 109 (.call true true 0 (.fn 14) [.t 108]), mt 110 7, o 111 (.call true true 0 (.fn 17) [.t 107, .t 109, .t 110]), mt 106 111, o 112 (.ext (.t 106) 0), o 113 (.ext (.t 106) 1), mt 15 112, mt 16 113] [1, 3, 5, 7, 8, 9, 10, 11, 12, 13, 14, 15, 16])
 (.seq (.seq (.ops [mt 114 12, o 115 (.bin .neq (.t 114) (ci 0)), mt 116 115, ⟨some 117, .mv (.t 14), some (116, false)⟩, ⟨some 118, .bin .neq (.t 117) (ci 0), some (116, false)⟩, o 119 (.pick (.t 116) (cb true) (.t 118)), mt 120 119, ⟨some 121, .mv (.t 16), some (120, false)⟩, ⟨some 122, .bin .neq (.t 121) (ci 0), some (120, false)⟩, o 123 (.pick (.t 120) (cb true) (.t 122)), mt 124 123, ⟨some 125, .mv (.t 11), some (124, false)⟩, ⟨some 126, .len 1 (.t 125), some (124, false)⟩, ⟨some 127, .mv (.t 7), some (124, false)⟩, ⟨some 128, .bin .neq (.t 126) (.t 127), some (124, false)⟩, o 129 (.pick (.t 124) (cb true) (.t 128)), mt 130 129, ⟨some 131, .mv (.t 13), some (130, false)⟩, ⟨some 132, .len 1 (.t 131), some (130, false)⟩, ⟨some 133, .mv (.t 7), some (130, false)⟩, ⟨some 134, .bin .neq (.t 132) (.t 133), some (130, false)⟩, o 135 (.pick (.t 130) (cb true) (.t 134))] [1, 3, 5, 7, 8, 9, 10, 11, 13, 15, 135])
 (.cond (.t 135)
 (.seq (.ops [o 6 (.mv (cb false))] [6])
 (.ret))
 (.skip)))
 (.seq (.ops [o 17 (.mv (ci 0)), o 18 (.mv (cb true))] [1, 3, 5, 7, 8, 9, 10, 11, 13, 15, 17, 18])
 (.seq (.seq (.ops [mt 136 11, o 137 (.len 1 (.t 136)), o 138 (.mv (ci 0))] [1, 3, 5, 7, 8, 9, 10, 11, 13, 15, 17, 18, 136, 137, 138])
 (.block 0 (.loop false [1, 3, 5, 7, 8, 9, 10, 11, 13, 15, 17, 18, 136, 137, 138] c8L0)))
 (.seq (.seq (.ops [mt 183 15, mt 184 18, o 185 (.eqb true (.t 183) (.t 184))] [1, 3, 5, 7, 8, 9, 10, 11, 15, 185])
 (.cond (.t 185)
 (.seq (.ops [o 6 (.mv (cb false))] [6])
 (.ret))
 (.skip)))
 (.seq (.ops [o 186 (.bslice true 2 zl2 0 []), mt 187 1, o 188 (.app 2 16 zl2 (.t 186) (.t 187)), mt 21 188] [1, 3, 5, 7, 8, 9, 10, 11, 15, 21])
 (.seq (.seq (.ops [mt 189 21, o 190 (.len 1 (.t 189)), o 191 (.mv (ci 0))] [1, 3, 5, 7, 8, 9, 10, 11, 15, 21, 190, 191])
 (.block 2 (.loop false [1, 3, 5, 7, 8, 9, 10, 11, 15, 21, 190, 191] c8L1)))
 (.seq (.opsd [(0, 1), (1, 1), (2, 1), (3, 1), (4, 1), (5, 0), (6, 1), (7, 1), (8, 1), (9, 1), (10, 1)] [o 211 (.ld true 5 (.t 3)), mt 212 21, o 213 (.call true true 0 (.fn 14) [.t 212]), mt 214 8, mt 215 7, o 216 (.call true false 0 (.fn 15) [.t 211, .t 213, .t 214, .t 215]), mt 210 216, o 217 (.ext (.t 210) 0), o 218 (.ext (.t 210) 1), mt 23 217, mt 24 218] [1, 3, 5, 7, 8, 9, 10, 11, 15, 23, 24])
 (.seq (.seq (.ops [mt 219 24, o 220 (.bin .neq (.t 219) (ci 0)), mt 221 220, ⟨some 222, .mv (.t 23), some (221, false)⟩, ⟨some 223, .len 1 (.t 222), some (221, false)⟩, ⟨some 224, .mv (.t 7), some (221, false)⟩, ⟨some 225, .bin .neq (.t 223) (.t 224), some (221, false)⟩, o 226 (.pick (.t 221) (cb true) (.t 225))] [1, 3, 5, 7, 8, 9, 10, 11, 15, 23, 226])
 (.cond (.t 226)
 (.seq (.ops [o 6 (.mv (cb false))] [6])
 (.ret))
 (.skip)))
 (.seq (.seq (.ops [mt 227 23, o 228 (.len 1 (.t 227)), o 229 (.mv (ci 0))] [1, 3, 5, 7, 8, 9, 10, 11, 15, 227, 228, 229])
 (.block 4 (.loop false [1, 3, 5, 7, 8, 9, 10, 11, 15, 227, 228, 229] c8L2)))
 (.seq (.opsd [(0, 1), (1, 1), (2, 1), (3, 1), (4, 1), (5, 1), (6, 1), (7, 1), (8, 1), (9, 1), (10, 0), (11, 1), (12, 1), (13, 1), (14, 1), (15, 1)] [o 242 (.ld true 5 (.t 3)), mt 243 1, o 244 (.call true true 0 (.fn 14) [.t 243]), o 245 (.fadr 0 (.t 5)), o 246 (.ld false 1 (.t 245)), o 247 (.call true true 0 (.fn 32) [.t 246]), mt 248 8, mt 249 9, mt 250 10, o 251 (.build zl2 [(0, 1, .t 249), (1, 1, .t 250)]), o 252 (.call true false 0 (.fn 45) [.t 242, .t 244, .t 247, .t 248, .t 251]), mt 241 252, o 253 (.ext (.t 241) 0), o 254 (.ext (.t 241) 1), mt 27 253, mt 28 254] [1, 3, 5, 7, 8, 9, 10, 15, 27, 28])
 (.seq (.seq (.ops [mt 255 15, o 256 (.not (.t 255))] [1, 3, 5, 7, 8, 9, 10, 27, 28, 256])
 (.cond (.t 256)
 (.seq (.ops [mt 257 28, o 258 (.bin .eql (.t 257) (ci 21)), mt 259 258, ⟨some 260, .mv (.t 27), some (259, true)⟩, ⟨some 261, .len 1 (.t 260), some (259, true)⟩, ⟨some 262, .bin .eql (.t 261) (ci 0), some (259, true)⟩, o 263 (.pick (.t 259) (.t 262) (cb false)), mt 264 263, ⟨some 265, .call true true 0 (.fn 12) [], some (264, true)⟩, o 266 (.pick (.t 264) (.t 265) (cb false)), mt 6 266] [6])
 (.ret))
 (.skip)))
 (.seq (.seq (.ops [mt 267 28, o 268 (.bin .neq (.t 267) (ci 0)), mt 269 268, ⟨some 270, .mv (.t 27), some (269, false)⟩, ⟨some 271, .len 1 (.t 270), some (269, false)⟩, ⟨some 272, .mv (.t 9), some (269, false)⟩, ⟨some 273, .bin .add (.t 272) (ci 1), some (269, false)⟩, ⟨some 274, .bin .neq (.t 271) (.t 273), some (269, false)⟩, o 275 (.pick (.t 269) (cb true) (.t 274)), mt 276 275, ⟨some 277, .mv (.t 27), some (276, false)⟩, ⟨some 278, .iadr 1 (.t 277) (ci 0), some (276, false)⟩, ⟨some 279, .ld false 1 (.t 278), some (276, false)⟩, ⟨some 280, .call true false 0 (.fn 52) [.t 279], some (276, false)⟩, ⟨some 281, .mv (.t 1), some (276, false)⟩, ⟨some 282, .call true true 0 (.fn 51) [.t 280, .t 281], some (276, false)⟩, ⟨some 283, .not (.t 282), some (276, false)⟩, o 284 (.pick (.t 276) (cb true) (.t 283))] [1, 3, 5, 7, 8, 10, 27, 284])
 (.cond (.t 284)
 (.seq (.ops [o 6 (.mv (cb false))] [6])
 (.ret))
 (.skip)))
 (.seq (.seq (.ops [mt 285 27, o 286 (.len 1 (.t 285)), o 287 (.mv (ci 0))] [1, 3, 5, 7, 8, 10, 27, 285, 286, 287])
 (.block 6 (.loop false [1, 3, 5, 7, 8, 10, 27, 285, 286, 287] c8L5)))
 (.seq (.ops [o 439 (.call true true 0 (.fn 12) []), mt 6 439] [6])
 (.ret))))))))))))))))))))))⟩

def c12 : AFunc := ⟨422, [.tmp 0],
 .seq (.ops [o 0 (.mv (cb false))] [])
 (.seq (.ops [o 56 (.call true true 0 (.fn 88) []), o 57 (.call true false 0 (.fn 89) [ci 40, ci 20]), o 58 (.call true false 0 (.fn 15) [.t 56, .t 57, ci 100, ci 4]), mt 55 58, o 59 (.ext (.t 55) 0), o 60 (.ext (.t 55) 1), mt 1 59, mt 2 60] [1, 2])
 (.seq (.ops [o 62 (.call true true 0 (.fn 88) []), o 63 (.call true false 0 (.fn 89) [ci 40, ci 20]), o 64 (.call true false 0 (.fn 15) [.t 62, .t 63, ci 200, ci 4]), mt 61 64, o 65 (.ext (.t 61) 0), o 66 (.ext (.t 61) 1), mt 3 65, mt 4 66] [1, 2, 3, 4])
 (.seq (.ops [o 68 (.call true true 0 (.fn 88) []), o 69 (.call true false 0 (.fn 89) [ci 40, ci 20]), o 70 (.call true true 0 (.fn 17) [.t 68, .t 69, ci 4]), mt 67 70, o 71 (.ext (.t 67) 0), o 72 (.ext (.t 67) 1), mt 5 71, mt 6 72] [1, 2, 3, 4, 5, 6])
 (.seq (.ops [o 74 (.call true true 0 (.fn 88) []), o 75 (.call true false 0 (.fn 89) [ci 40, ci 20]), o 76 (.call true true 0 (.fn 17) [.t 74, .t 75, ci 2]), mt 73 76, o 77 (.ext (.t 73) 0), o 78 (.ext (.t 73) 1), mt 7 77, mt 8 78] [1, 2, 3, 4, 5, 6, 7, 8])
 (.seq (.ops [o 80 (.call true true 0 (.fn 88) []), o 81 (.call true false 0 (.fn 89) [ci 30, ci 20]), o 82 (.call true false 0 (.fn 16) [.t 80, .t 81, ci 4]), mt 79 82, o 83 (.ext (.t 79) 0), o 84 (.ext (.t 79) 1), mt 9 83, mt 10 84] [1, 2, 3, 4, 5, 6, 7, 8, 9, 10])
 (.seq (.ops [o 86 (.call true false 0 (.fn 90) []), o 87 (.bslice false 1 zl4 4 [(0, ci 15), (1, ci 22), (2, ci 26), (3, ci 28)]), o 88 (.call true true 0 (.fn 31) [.t 86, .t 87]), mt 85 88, o 89 (.ext (.t 85) 0), o 90 (.ext (.t 85) 1), mt 11 89, mt 12 90] [1, 2, 3, 4, 5, 6, 7, 8, 9, 10, 11, 12])
 (.seq (.ops [o 92 (.call true false 0 (.fn 90) []), o 93 (.bslice false 1 zl4 4 [(0, ci 15), (1, ci 22), (2, ci 26), (3, ci 28)]), o 94 (.call true true 0 (.fn 34) [.t 92, .t 93]), mt 91 94, o 95 (.ext (.t 91) 0), o 96 (.ext (.t 91) 1), o 97 (.ext (.t 91) 2), mt 13 95, mt 14 96, mt 15 97] [1, 2, 3, 4, 5, 6, 7, 8, 9, 10, 11, 12, 13, 14, 15])
 (.seq (.ops [o 99 (.bslice false 1 zl4 4 [(0, ci 15), (1, ci 22), (2, ci 26), (3, ci 28)]), o 100 (.call true false 0 (.fn 35) [.t 99]), mt 98 100, o 101 (.ext (.t 98) 0), o 102 (.ext (.t 98) 1), mt 16 101, mt 17 102] [1, 2, 3, 4, 5, 6, 7, 8, 9, 10, 11, 12, 13, 14, 15, 16, 17])
 (.seq (.ops [o 104 (.bslice false 1 zl4 4 [(0, ci 15), (1, ci 22), (2, ci 26), (3, ci 28)]), o 105 (.call true false 0 (.fn 36) [.t 104]), mt 103 105, o 106 (.ext (.t 103) 0), o 107 (.ext (.t 103) 1), mt 18 106, mt 19 107] [1, 2, 3, 4, 5, 6, 7, 8, 9, 10, 11, 12, 13, 14, 15, 16, 17, 18, 19])
 (.seq (.ops [o 109 (.call true true 0 (.fn 88) []), o 110 (.call true false 0 (.fn 89) [ci 30, ci 20]), o 111 (.call true false 0 (.fn 90) []), o 112 (.bslice false 1 zl4 4 [(0, ci 15), (1, ci 22), (2, ci 26), (3, ci 28)]), o 113 (.call true false 0 (.fn 44) [.t 109, .t 110, .t 111, .t 112, ci 2]), mt 108 113, o 114 (.ext (.t 108) 0), o 115 (.ext (.t 108) 1), mt 20 114, mt 21 115] [1, 2, 3, 4, 5, 6, 7, 8, 9, 10, 11, 12, 13, 14, 15, 16, 17, 18, 19, 20, 21])
 (.seq (.ops [o 117 (.call true true 0 (.fn 88) []), o 118 (.call true false 0 (.fn 89) [ci 30, ci 20]), o 119 (.call true false 0 (.fn 90) []), o 120 (.build zl2 [(0, 1, ci 2), (1, 1, ci 2)]), o 121 (.call true false 0 (.fn 45) [.t 117, .t 118, .t 119, ci 100, .t 120]), mt 116 121, o 122 (.ext (.t 116) 0), o 123 (.ext (.t 116) 1), mt 22 122, mt 23 123] [1, 2, 3, 4, 5, 6, 7, 8, 9, 10, 11, 12, 13, 14, 15, 16, 17, 18, 19, 20, 21, 22, 23])
 (.seq (.ops [o 125 (.call true true 0 (.fn 88) []), o 126 (.call true false 0 (.fn 89) [ci 40, ci 20]), o 127 (.call true false 0 (.fn 90) []), o 128 (.bslice false 1 zl4 4 [(0, ci 15), (1, ci 22), (2, ci 26), (3, ci 28)]), o 129 (.call true false 0 (.fn 44) [.t 125, .t 126, .t 127, .t 128, ci 2]), mt 124 129, o 130 (.ext (.t 124) 0), o 131 (.ext (.t 124) 1), mt 24 130, mt 25 131] [1, 2, 3, 4, 5, 6, 7, 8, 9, 10, 11, 12, 13, 14, 15, 16, 17, 18, 19, 20, 21, 22, 23, 25])
 (.seq (.seq (.ops [mt 132 2, mt 133 4, o 134 (.bin .add (.t 132) (.t 133)), mt 135 6, o 136 (.bin .add (.t 134) (.t 135)), mt 137 8, o 138 (.bin .add (.t 136) (.t 137)), mt 139 10, o 140 (.bin .add (.t 138) (.t 139)), mt 141 12, o 142 (.bin .add (.t 140) (.t 141)), mt 143 15, o 144 (.bin .add (.t 142) (.t 143)), mt 145 17, o 146 (.bin .add (.t 144) (.t 145)), mt 147 19, o 148 (.bin .add (.t 146) (.t 147)), mt 149 21, o 150 (.bin .add (.t 148) (.t 149)), mt 151 23, o 152 (.bin .add (.t 150) (.t 151)), o 153 (.bin .neq (.t 152) (ci 0)), mt 154 153, ⟨some 155, .mv (.t 25), some (154, false)⟩, ⟨some 156, .bin .neq (.t 155) (ci 21), some (154, false)⟩, o 157 (.pick (.t 154) (cb true) (.t 156)), mt 158 157, ⟨some 159, .mv (.t 1), some (158, false)⟩, ⟨some 160, .bslice false 1 zl4 4 [(0, ci 20), (1, ci 30), (2, ci 35), (3, ci 37)], some (158, false)⟩, ⟨some 161, .call true true 0 (.fn 29) [.t 159, .t 160], some (158, false)⟩, ⟨some 162, .not (.t 161), some (158, false)⟩, o 163 (.pick (.t 158) (cb true) (.t 162)), mt 164 163, ⟨some 165, .mv (.t 3), some (164, false)⟩, ⟨some 166, .bslice false 1 zl4 4 [(0, ci 40), (1, ci 60), (2, ci 70), (3, ci 75)], some (164, false)⟩, ⟨some 167, .call true true 0 (.fn 29) [.t 165, .t 166], some (164, false)⟩, ⟨some 168, .not (.t 167), some (164, false)⟩, o 169 (.pick (.t 164) (cb true) (.t 168)), mt 170 169, ⟨some 171, .mv (.t 5), some (170, false)⟩, o 172 (.pick (.t 170) (cb true) (.t 171)), mt 173 172, ⟨some 174, .mv (.t 7), some (173, false)⟩, ⟨some 175, .not (.t 174), some (173, false)⟩, o 176 (.pick (.t 173) (cb true) (.t 175)), mt 177 176, ⟨some 178, .mv (.t 9), some (177, false)⟩, ⟨some 179, .call true true 0 (.fn 73) [ci 15, ci 30], some (177, false)⟩, ⟨some 180, .call true true 0 (.fn 73) [ci 22, ci 45], some (177, false)⟩, ⟨some 181, .call true true 0 (.fn 73) [ci 26, ci 52], some (177, false)⟩, ⟨some 182, .call true true 0 (.fn 73) [ci 28, ci 56], some (177, false)⟩, ⟨some 183, .bslice false 2 zl2 4 [(0, .t 179), (1, .t 180), (2, .t 181), (3, .t 182)], some (177, false)⟩, ⟨some 184, .call true true 0 (.fn 30) [.t 178, .t 183], some (177, false)⟩, ⟨some 185, .not (.t 184), some (177, false)⟩, o 186 (.pick (.t 177) (cb true) (.t 185)), mt 187 186, ⟨some 188, .mv (.t 11), some (187, false)⟩, o 189 (.pick (.t 187) (cb true) (.t 188)), mt 190 189, ⟨some 191, .mv (.t 13), some (190, false)⟩, ⟨some 192, .bin .neq (.t 191) (ci 5), some (190, false)⟩, o 193 (.pick (.t 190) (cb true) (.t 192)), mt 194 193, ⟨some 195, .mv (.t 14), some (194, false)⟩, ⟨some 196, .bin .neq (.t 195) (ci 0), some (194, false)⟩, o 197 (.pick (.t 194) (cb true) (.t 196)), mt 198 197, ⟨some 199, .mv (.t 16), some (198, false)⟩, ⟨some 200, .bslice false 1 zl4 4 [(0, ci 15), (1, ci 37), (2, ci 63), (3, ci 91)], some (198, false)⟩, ⟨some 201, .call true true 0 (.fn 29) [.t 199, .t 200], some (198, false)⟩, ⟨some 202, .not (.t 201), some (198, false)⟩, o 203 (.pick (.t 198) (cb true) (.t 202)), mt 204 203, ⟨some 205, .mv (.t 18), some (204, false)⟩, ⟨some 206, .bslice false 1 zl4 4 [(0, ci 15), (1, ci 52), (2, ci 115), (3, ci 206)], some (204, false)⟩, ⟨some 207, .call true true 0 (.fn 29) [.t 205, .t 206], some (204, false)⟩, ⟨some 208, .not (.t 207), some (204, false)⟩, o 209 (.pick (.t 204) (cb true) (.t 208)), mt 210 209, ⟨some 211, .mv (.t 20), some (210, false)⟩, ⟨some 212, .call true false 0 (.fn 52) [.t 211], some (210, false)⟩, ⟨some 213, .call true false 0 (.fn 89) [ci 32, ci 20], some (210, false)⟩, ⟨some 214, .call true false 0 (.fn 52) [.t 213], some (210, false)⟩, ⟨some 215, .call true true 0 (.fn 51) [.t 212, .t 214], some (210, false)⟩, ⟨some 216, .not (.t 215), some (210, false)⟩, o 217 (.pick (.t 210) (cb true) (.t 216)), mt 218 217, ⟨some 219, .mv (.t 22), some (218, false)⟩, ⟨some 220, .len 1 (.t 219), some (218, false)⟩, ⟨some 221, .bin .neq (.t 220) (ci 3), some (218, false)⟩, o 222 (.pick (.t 218) (cb true) (.t 221)), mt 223 222, ⟨some 224, .mv (.t 22), some (223, false)⟩, ⟨some 225, .iadr 1 (.t 224) (ci 1), some (223, false)⟩, ⟨some 226, .ld false 1 (.t 225), some (223, false)⟩, ⟨some 227, .call true false 0 (.fn 52) [.t 226], some (223, false)⟩, ⟨some 228, .call true false 0 (.fn 89) [ci 32, ci 20], some (223, false)⟩, ⟨some 229, .call true false 0 (.fn 52) [.t 228], some (223, false)⟩, ⟨some 230, .call true true 0 (.fn 51) [.t 227, .t 229], some (223, false)⟩, ⟨some 231, .not (.t 230), some (223, false)⟩, o 232 (.pick (.t 223) (cb true) (.t 231)), mt 233 232, ⟨some 234, .mv (.t 22), some (233, false)⟩, ⟨some 235, .iadr 1 (.t 234) (ci 2), some (233, false)⟩, ⟨some 236, .ld false 1 (.t 235), some (233, false)⟩, ⟨some 237, .call true false 0 (.fn 52) [.t 236], some (233, false)⟩, ⟨some 238, .call true false 0 (.fn 89) [ci 32, ci 20], some (233, false)⟩, ⟨some 239, .call true false 0 (.fn 52) [.t 238], some (233, false)⟩, ⟨some 240, .call true true 0 (.fn 51) [.t 237, .t 239], some (233, false)⟩, ⟨some 241, .not (.t 240), some (233, false)⟩, o 242 (.pick (.t 233) (cb true) (.t 241))] [242])
 (.cond (.t 242)
 (.seq (.ops [o 0 (.mv (cb false))] [0])
 (.ret))
 (.skip)))
 (.seq (.ops [o 244 (.call true false 0 (.fn 91) []), o 245 (.call true true 0 (.fn 73) [ci 60, ci 70]), o 246 (.call true false 0 (.fn 78) [.t 244, .t 245]), mt 243 246, o 247 (.ext (.t 243) 0), o 248 (.ext (.t 243) 1), o 249 (.ext (.t 243) 2), mt 26 247, mt 27 248, mt 28 249] [26, 27, 28])
 (.seq (.ops [o 251 (.call true false 0 (.fn 91) []), o 252 (.call true true 0 (.fn 73) [ci 101, ci 105]), o 253 (.call true false 0 (.fn 78) [.t 251, .t 252]), mt 250 253, o 254 (.ext (.t 250) 0), o 255 (.ext (.t 250) 1), o 256 (.ext (.t 250) 2), mt 29 254, mt 30 255, mt 31 256] [26, 27, 28, 31])
 (.seq (.ops [o 257 (.call true false 4 (.fn 91) []), o 258 (.slc 4 (.t 257) none (some (ci 2))), mt 32 258] [26, 27, 28, 31, 32])
 (.seq (.ops [mt 259 32, mt 260 32, o 261 (.iadr 4 (.t 259) (ci 0)), o 262 (.fadr 3 (.t 261)), u (.st 1 (.t 262) (ci 50)), o 263 (.iadr 4 (.t 260) (ci 1)), o 264 (.fadr 3 (.t 263)), u (.st 1 (.t 264) (ci 90))] [26, 27, 28, 31, 32])
 (.seq (.ops [mt 266 32, o 267 (.call true true 0 (.fn 73) [ci 100, ci 100]), o 268 (.call true true 0 (.fn 79) [.t 266, .t 267, ci 2]), mt 265 268, o 269 (.ext (.t 265) 0), o 270 (.ext (.t 265) 1), mt 33 269, mt 34 270] [26, 27, 28, 31, 33, 34])
 (.seq (.ops [o 272 (.call true false 0 (.fn 91) []), o 273 (.call true true 0 (.fn 73) [ci 60, ci 70]), o 274 (.call true true 0 (.fn 79) [.t 272, .t 273, ci 0]), mt 271 274, o 275 (.ext (.t 271) 0), o 276 (.ext (.t 271) 1), mt 35 275, mt 36 276] [26, 27, 28, 31, 33, 34, 35, 36])
 (.seq (.ops [o 278 (.bslice false 1 zl4 2 [(0, ci 1), (1, ci 5)]), o 279 (.bslice false 1 zl4 2 [(0, ci 3), (1, ci 4)]), o 280 (.bslice false 1 [.p (.nils)] 2 [(0, .t 278), (1, .t 279)]), o 281 (.call true false 0 (.fn 56) [.t 280]), mt 277 281, o 282 (.ext (.t 277) 0), o 283 (.ext (.t 277) 1), mt 37 282, mt 38 283] [26, 27, 28, 31, 33, 34, 35, 36, 37, 38])
 (.seq (.ops [o 285 (.bslice false 1 zl4 2 [(0, ci 1), (1, ci 5)]), o 286 (.bslice false 1 zl4 2 [(0, ci 3), (1, ci 4)]), o 287 (.bslice false 1 [.p (.nils)] 2 [(0, .t 285), (1, .t 286)]), o 288 (.call true false 0 (.fn 58) [.t 287]), mt 284 288, o 289 (.ext (.t 284) 0), o 290 (.ext (.t 284) 1), mt 39 289, mt 40 290] [26, 27, 28, 31, 33, 34, 35, 36, 37, 38, 39, 40])
 (.seq (.ops [o 292 (.bslice false 1 zl4 2 [(0, ci 1), (1, ci 5)]), o 293 (.bslice false 1 zl4 2 [(0, ci 3), (1, ci 4)]), o 294 (.bslice false 1 [.p (.nils)] 2 [(0, .t 292), (1, .t 293)]), o 295 (.call true true 0 (.fn 59) [.t 294, ci 2]), mt 291 295, o 296 (.ext (.t 291) 0), o 297 (.ext (.t 291) 1), mt 41 296, mt 42 297] [26, 27, 28, 31, 33, 34, 35, 36, 37, 38, 39, 40, 41, 42])
 (.seq (.ops [o 299 (.bslice false 1 zl4 2 [(0, ci 1), (1, ci 5)]), o 300 (.bslice false 1 zl4 2 [(0, ci 3), (1, ci 4)]), o 301 (.bslice false 1 [.p (.nils)] 2 [(0, .t 299), (1, .t 300)]), o 302 (.call true true 0 (.fn 59) [.t 301, ci 1]), mt 298 302, o 303 (.ext (.t 298) 0), o 304 (.ext (.t 298) 1), mt 43 303, mt 44 304] [26, 27, 28, 31, 33, 34, 35, 36, 37, 38, 39, 40, 41, 42, 43, 44])
 (.seq (.ops [o 306 (.build [.p (.int .i64 0), .p (.int .i64 0), .p (.int .i64 0)] [(0, 1, ci 3), (1, 1, ci 4), (2, 1, ci 5)]), o 307 (.bslice false 1 zl4 2 [(0, ci 7), (1, ci (-5))]), o 308 (.call true false 0 (.fn 60) [.t 306, .t 307]), mt 305 308, o 309 (.ext (.t 305) 0), o 310 (.ext (.t 305) 1), o 311 (.ext (.t 305) 2), mt 45 309, mt 46 310, mt 47 311] [26, 27, 28, 31, 33, 34, 35, 36, 37, 38, 39, 40, 41, 42, 43, 44, 45, 46, 47])
 (.seq (.ops [o 313 (.call true false 0 (.fn 89) [ci 40, ci 20]), o 314 (.call true true 0 (.fn 69) [.t 313]), mt 312 314, o 315 (.ext (.t 312) 0), o 316 (.ext (.t 312) 1), mt 48 315, mt 49 316] [26, 27, 28, 31, 33, 34, 35, 36, 37, 38, 39, 40, 41, 42, 43, 44, 45, 46, 47, 48, 49])
 (.seq (.ops [mt 318 48, o 319 (.call false false 0 (.fn 70) [.t 318]), mt 317 319, o 320 (.ext (.t 317) 0), o 321 (.ext (.t 317) 1), o 322 (.ext (.t 317) 2), mt 50 320, mt 51 321, mt 52 322] [26, 27, 28, 31, 33, 34, 35, 36, 37, 38, 39, 40, 41, 42, 43, 44, 45, 46, 47, 48, 49, 50, 51, 52])
 (.seq (.ops [o 324 (.call true false 0 (.fn 89) [ci 40, ci 20]), o 325 (.call true false 0 (.fn 13) [.t 324, ci 4]), mt 323 325, o 326 (.ext (.t 323) 0), o 327 (.ext (.t 323) 1), mt 53 326, mt 54 327] [26, 27, 28, 31, 33, 34, 35, 36, 37, 38, 39, 40, 41, 42, 43, 44, 45, 46, 47, 48, 49, 50, 51, 52, 53, 54])
 (.seq (.ops [mt 328 28, mt 329 34, o 330 (.bin .add (.t 328) (.t 329)), mt 331 36, o 332 (.bin .add (.t 330) (.t 331)), mt 333 38, o 334 (.bin .add (.t 332) (.t 333)), mt 335 40, o 336 (.bin .add (.t 334) (.t 335)), mt 337 42, o 338 (.bin .add (.t 336) (.t 337)), mt 339 44, o 340 (.bin .add (.t 338) (.t 339)), mt 341 47, o 342 (.bin .add (.t 340) (.t 341)), mt 343 49, o 344 (.bin .add (.t 342) (.t 343)), mt 345 52, o 346 (.bin .add (.t 344) (.t 345)), mt 347 54, o 348 (.bin .add (.t 346) (.t 347)), o 349 (.bin .eql (.t 348) (ci 0)), mt 350 349, ⟨some 351, .mv (.t 31), some (350, true)⟩, ⟨some 352, .bin .eql (.t 351) (ci 18), some (350, true)⟩, o 353 (.pick (.t 350) (.t 352) (cb false)), mt 354 353, ⟨some 355, .mv (.t 26), some (354, true)⟩, ⟨some 356, .bslice false 1 zl4 2 [(0, ci 0), (1, ci 2)], some (354, true)⟩, ⟨some 357, .call true true 0 (.fn 29) [.t 355, .t 356], some (354, true)⟩, o 358 (.pick (.t 354) (.t 357) (cb false)), mt 359 358, ⟨some 360, .mv (.t 27), some (359, true)⟩, ⟨some 361, .bin .eql (.t 360) (ci 7), some (359, true)⟩, o 362 (.pick (.t 359) (.t 361) (cb false)), mt 363 362, ⟨some 364, .mv (.t 33), some (363, true)⟩, ⟨some 365, .bin .eql (.t 364) (ci 140), some (363, true)⟩, o 366 (.pick (.t 363) (.t 365) (cb false)), mt 367 366, ⟨some 368, .mv (.t 35), some (367, true)⟩, ⟨some 369, .bin .eql (.t 368) (ci 0), some (367, true)⟩, o 370 (.pick (.t 367) (.t 369) (cb false)), mt 371 370, ⟨some 372, .mv (.t 37), some (371, true)⟩, ⟨some 373, .call true true 0 (.fn 73) [ci 1, ci 3], some (371, true)⟩, ⟨some 374, .call true true 0 (.fn 73) [ci 4, ci 5], some (371, true)⟩, ⟨some 375, .bslice false 2 zl2 2 [(0, .t 373), (1, .t 374)], some (371, true)⟩, ⟨some 376, .call true true 0 (.fn 30) [.t 372, .t 375], some (371, true)⟩, o 377 (.pick (.t 371) (.t 376) (cb false)), mt 378 377, ⟨some 379, .mv (.t 39), some (378, true)⟩, ⟨some 380, .bslice false 1 zl4 2 [(0, ci 2), (1, ci 5)], some (378, true)⟩, ⟨some 381, .call true true 0 (.fn 29) [.t 379, .t 380], some (378, true)⟩, o 382 (.pick (.t 378) (.t 381) (cb false)), mt 383 382, ⟨some 384, .mv (.t 41), some (383, true)⟩, o 385 (.pick (.t 383) (.t 384) (cb false)), mt 386 385, ⟨some 387, .mv (.t 43), some (386, true)⟩, ⟨some 388, .not (.t 387), some (386, true)⟩, o 389 (.pick (.t 386) (.t 388) (cb false)), mt 390 389, ⟨some 391, .mv (.t 45), some (390, true)⟩, ⟨some 392, .call true true 0 (.fn 73) [ci 4, ci 5], some (390, true)⟩, ⟨some 393, .call true true 0 (.fn 73) [ci (-3), ci (-3)], some (390, true)⟩, ⟨some 394, .bslice false 2 zl2 2 [(0, .t 392), (1, .t 393)], some (390, true)⟩, ⟨some 395, .call true true 0 (.fn 30) [.t 391, .t 394], some (390, true)⟩, o 396 (.pick (.t 390) (.t 395) (cb false)), mt 397 396, ⟨some 398, .mv (.t 46), some (397, true)⟩, ⟨some 399, .call true true 0 (.fn 73) [ci 5, ci 6], some (397, true)⟩, ⟨some 400, .call true true 0 (.fn 73) [ci (-4), ci (-4)], some (397, true)⟩, ⟨some 401, .bslice false 2 zl2 2 [(0, .t 399), (1, .t 400)], some (397, true)⟩, ⟨some 402, .call true true 0 (.fn 30) [.t 398, .t 401], some (397, true)⟩, o 403 (.pick (.t 397) (.t 402) (cb false)), mt 404 403, ⟨some 405, .mv (.t 48), some (404, true)⟩, ⟨some 406, .bin .eql (.t 405) (cs [115, 116, 101, 112, 32, 48, 32, 52, 48, 10, 115, 116, 101, 112, 32, 51, 32, 50, 48, 10]), some (404, true)⟩, o 407 (.pick (.t 404) (.t 406) (cb false)), mt 408 407, ⟨some 409, .mv (.t 51), some (408, true)⟩, ⟨some 410, .bin .eql (.t 409) (ci 0), some (408, true)⟩, o 411 (.pick (.t 408) (.t 410) (cb false)), mt 412 411, ⟨some 413, .mv (.t 50), some (412, true)⟩, ⟨some 414, .len 1 (.t 413), some (412, true)⟩, ⟨some 415, .bin .eql (.t 414) (ci 2), some (412, true)⟩, o 416 (.pick (.t 412) (.t 415) (cb false)), mt 417 416, ⟨some 418, .mv (.t 53), some (417, true)⟩, ⟨some 419, .bslice false 1 zl4 4 [(0, ci 40), (1, ci 40), (2, ci 40), (3, ci 20)], some (417, true)⟩, ⟨some 420, .call true true 0 (.fn 29) [.t 418, .t 419], some (417, true)⟩, o 421 (.pick (.t 417) (.t 420) (cb false)), mt 0 421] [0])
 (.ret)))))))))))))))))))))))))))))⟩

def c13L0 : ACode :=
 .seq (.ops [o 20 (.bin .lss (.t 19) (.t 18))] [0, 7, 18, 19, 20])
 (.seq (.cond (.t 20)
 (.skip)
 (.exit 0))
 (.seq (.block 1 (.seq (.ops [mt 21 19, mt 8 21] [0, 7, 8, 18, 19])
 (.ops [mt 22 7, mt 23 0, mt 24 8, o 25 (.call true true 0 (.fn 94) [.t 23, .t 24]), o 26 (.bslice false 1 zl4 1 [(0, .t 25)]), o 27 (.app 1 8 zl4 (.t 22) (.t 26)), mt 7 27] [0, 7, 18, 19])))
 (.ops [o 28 (.bin .add (.t 19) (ci 1)), mt 19 28] [0, 7, 18, 19])))
def c13 : AFunc := ⟨30, [.tmp 4, .tmp 5],
 .seq (.ops [o 4 (.mv (cn)), o 5 (.mv (ci 0))] [0, 1])
 (.seq (.seq (.ops [mt 9 0, o 10 (.call true true 0 (.fn 28) [.t 9]), mt 11 1, o 12 (.call true true 0 (.fn 93) [.t 11]), o 13 (.bslice false 1 zl4 2 [(0, .t 10), (1, .t 12)]), o 14 (.call true true 0 (.fn 92) [.t 13]), mt 6 14] [0, 1, 6])
 (.seq (.ops [mt 15 6, o 16 (.bin .neq (.t 15) (ci 0))] [0, 1, 6, 16])
 (.cond (.t 16)
 (.seq (.ops [mt 17 6, o 4 (.mv (cn)), mt 5 17] [4, 5])
 (.ret))
 (.skip))))
 (.seq (.ops [o 7 (.nilown 1)] [0, 1, 7])
 (.seq (.seq (.ops [mt 18 1, o 19 (.mv (ci 0))] [0, 7, 18, 19])
 (.block 0 (.loop false [0, 7, 18, 19] c13L0)))
 (.seq (.ops [mt 29 7, mt 4 29, o 5 (.mv (ci 0))] [4, 5])
 (.ret)))))⟩

def c14L0 : ACode :=
 .seq (.ops [o 9 (.bin .lss (.t 8) (.t 7))] [3, 6, 7, 8, 9])
 (.seq (.cond (.t 9)
 (.skip)
 (.exit 0))
 (.seq (.block 1 (.seq (.ops [o 10 (.iadr 2 (.t 6) (.t 8)), o 11 (.ld true 2 (.t 10)), o 5 (.alloc true 1 zl2), u (.st 2 (.t 5) (.t 11))] [3, 5, 6, 7, 8])
 (.ops [mt 12 3, o 13 (.ld true 2 (.t 5)), o 14 (.bslice false 2 zl2 1 [(0, .t 13)]), o 15 (.app 2 16 zl2 (.t 12) (.t 14)), mt 3 15] [3, 6, 7, 8])))
 (.ops [o 16 (.bin .add (.t 8) (ci 1)), mt 8 16] [3, 6, 7, 8])))
def c14 : AFunc := ⟨18, [.tmp 2],
 .seq (.ops [o 2 (.mv (cn))] [0])
 (.seq (.ops [o 3 (.nilown 2)] [0, 3])
 (.seq (.seq (.ops [mt 6 0, o 7 (.len 1 (.t 6)), o 8 (.mv (ci 0))] [3, 6, 7, 8])
 (.block 0 (.loop true [3, 6, 7, 8] c14L0)))
 (.seq (.ops [mt 17 3, mt 2 17] [2])
 (.ret))))⟩

def c15 : AFunc := ⟨35, [.tmp 8, .tmp 9],
 .seq (.ops [o 4 (.box true (.t 0)), o 8 (.mv (cn)), o 9 (.mv (ci 0))] [1, 2, 3, 4])
 (.seq (.seq (.opsd [(0, 1), (1, 1), (2, 1), (3, 1), (4, 1), (5, 1), (6, 1), (7, 1), (8, 1), (9, 1), (10, 1), (12, 1), (11, 0), (13, 0), (14, 0), (15, 0), (16, 1)] [o 11 (.ld true 5 (.t 4)), o 12 (.call true true 0 (.fn 27) [.t 11]), mt 13 1, o 14 (.call true true 0 (.fn 28) [.t 13]), mt 15 2, o 16 (.fadr 0 (.t 4)), o 17 (.fadr 0 (.t 16)), o 18 (.ld false 1 (.t 17)), o 19 (.fadr 0 (.t 4)), o 20 (.fadr 1 (.t 19)), o 21 (.ld false 1 (.t 20)), mt 23 3, o 22 (.call true true 0 (.fn 95) [.t 15, .t 18, .t 21]), o 24 (.call true true 0 (.fn 93) [.t 23]), o 25 (.bslice false 1 zl4 4 [(0, .t 12), (1, .t 14), (2, .t 22), (3, .t 24)]), o 26 (.call true true 0 (.fn 92) [.t 25]), mt 10 26] [1, 2, 3, 4, 10])
 (.seq (.ops [mt 27 10, o 28 (.bin .neq (.t 27) (ci 0))] [1, 2, 3, 4, 10, 28])
 (.cond (.t 28)
 (.seq (.ops [mt 29 10, o 8 (.mv (cn)), mt 9 29] [8, 9])
 (.ret))
 (.skip))))
 (.seq (.ops [o 30 (.ld true 5 (.t 4)), mt 31 1, mt 32 2, mt 33 3, o 34 (.call true false 0 (.fn 96) [.t 30, .t 31, .t 32, .t 33]), mt 8 34, o 9 (.mv (ci 0))] [8, 9])
 (.ret)))⟩

def c16 : AFunc := ⟨24, [.tmp 6, .tmp 7],
 .seq (.ops [o 3 (.box true (.t 0)), o 6 (.mv (cn)), o 7 (.mv (ci 0))] [1, 2, 3])
 (.seq (.seq (.ops [o 9 (.ld true 5 (.t 3)), o 10 (.call true true 0 (.fn 27) [.t 9]), mt 11 1, o 12 (.call true true 0 (.fn 28) [.t 11]), mt 13 2, o 14 (.call true true 0 (.fn 93) [.t 13]), o 15 (.bslice false 1 zl4 3 [(0, .t 10), (1, .t 12), (2, .t 14)]), o 16 (.call true true 0 (.fn 92) [.t 15]), mt 8 16] [1, 2, 3, 8])
 (.seq (.ops [mt 17 8, o 18 (.bin .neq (.t 17) (ci 0))] [1, 2, 3, 8, 18])
 (.cond (.t 18)
 (.seq (.ops [mt 19 8, o 6 (.mv (cn)), mt 7 19] [6, 7])
 (.ret))
 (.skip))))
 (.seq (.ops [o 20 (.ld true 5 (.t 3)), mt 21 1, mt 22 2, o 23 (.call true false 0 (.fn 97) [.t 20, .t 21, .t 22]), mt 6 23, o 7 (.mv (ci 0))] [6, 7])
 (.ret)))⟩

def c17 : AFunc := ⟨24, [.tmp 6, .tmp 7],
 .seq (.ops [o 3 (.box true (.t 0)), o 6 (.mv (cb false)), o 7 (.mv (ci 0))] [1, 2, 3])
 (.seq (.ops [o 11 (.ld true 5 (.t 3)), mt 12 1, mt 13 2, o 14 (.call true false 0 (.fn 16) [.t 11, .t 12, .t 13]), mt 10 14, o 15 (.ext (.t 10) 0), o 16 (.ext (.t 10) 1), mt 8 15, mt 9 16] [3, 8, 9])
 (.seq (.seq (.ops [mt 17 9, o 18 (.bin .neq (.t 17) (ci 0))] [3, 8, 9, 18])
 (.cond (.t 18)
 (.seq (.ops [mt 19 9, o 6 (.mv (cb false)), mt 7 19] [6, 7])
 (.ret))
 (.skip)))
 (.seq (.ops [mt 20 8, o 21 (.mkclo 99 [] [.t 3]), o 22 (.call true true 0 (.fn 98) [.t 20, .t 21]), o 23 (.not (.t 22)), mt 6 23, o 7 (.mv (ci 0))] [6, 7])
 (.ret))))⟩

def c19L0 : ACode :=
 .seq (.seq (.ops [mt 19 4, mt 20 0, o 21 (.len 1 (.t 20)), o 22 (.bin .lss (.t 19) (.t 21))] [0, 4, 22])
 (.cond (.t 22)
 (.skip)
 (.exit 0)))
 (.seq (.block 1 (.seq (.opsd [(0, 1), (1, 1), (2, 1), (3, 1), (4, 1), (5, 1), (6, 1), (7, 1), (8, 5), (9, 5), (10, 1), (12, 1), (13, 1), (11, 0), (14, 1), (15, 1), (16, 1), (17, 1), (18, 1), (19, 1), (20, 1), (21, 1), (22, 1), (23, 1), (24, 1), (25, 1), (26, 1), (27, 1), (28, 1), (29, 1), (30, 1), (31, 1), (32, 1), (33, 1), (34, 1), (35, 1), (36, 1), (37, 1), (38, 1), (39, 1), (40, 1), (41, 0), (42, 0), (43, 0), (44, 1)] [mt 25 0, mt 26 4, o 27 (.iadr 2 (.t 25) (.t 26)), o 28 (.fadr 0 (.t 27)), o 29 (.ld false 1 (.t 28)), o 30 (.call true true 0 (.fn 101) [.t 29, ci 0, ci 64]), mt 31 0, mt 32 4, o 33 (.iadr 2 (.t 31) (.t 32)), o 34 (.fadr 1 (.t 33)), o 35 (.ld false 1 (.t 34)), mt 37 4, o 38 (.bin .eql (.t 37) (ci 0)), o 36 (.call true true 0 (.fn 101) [.t 35, ci 0, ci 100]), mt 39 38, ⟨some 40, .mv (.t 0), some (39, true)⟩, ⟨some 41, .mv (.t 4), some (39, true)⟩, ⟨some 42, .iadr 2 (.t 40) (.t 41), some (39, true)⟩, ⟨some 43, .fadr 0 (.t 42), some (39, true)⟩, ⟨some 44, .ld false 1 (.t 43), some (39, true)⟩, ⟨some 45, .bin .neq (.t 44) (ci 0), some (39, true)⟩, o 46 (.pick (.t 39) (.t 45) (cb false)), mt 47 46, ⟨some 48, .mv (.t 4), some (47, false)⟩, ⟨some 49, .bin .gtr (.t 48) (ci 0), some (47, false)⟩, ⟨some 50, .mv (.t 49), some (47, false)⟩, ⟨some 51, .mv (.t 0), some (50, true)⟩, ⟨some 52, .mv (.t 4), some (50, true)⟩, ⟨some 53, .iadr 2 (.t 51) (.t 52), some (50, true)⟩, ⟨some 54, .fadr 0 (.t 53), some (50, true)⟩, ⟨some 55, .ld false 1 (.t 54), some (50, true)⟩, ⟨some 56, .mv (.t 0), some (50, true)⟩, ⟨some 57, .mv (.t 4), some (50, true)⟩, ⟨some 58, .bin .sub (.t 57) (ci 1), some (50, true)⟩, ⟨some 59, .max [ci 0, .t 58], some (50, true)⟩, ⟨some 60, .iadr 2 (.t 56) (.t 59), some (50, true)⟩, ⟨some 61, .fadr 0 (.t 60), some (50, true)⟩, ⟨some 62, .ld false 1 (.t 61), some (50, true)⟩, ⟨some 63, .bin .leq (.t 55) (.t 62), some (50, true)⟩, ⟨some 64, .pick (.t 50) (.t 63) (cb false), some (47, false)⟩, o 65 (.pick (.t 47) (cb true) (.t 64)), o 66 (.call true true 0 (.fn 46) [.t 65, ci 11]), o 67 (.bslice false 1 zl4 3 [(0, .t 30), (1, .t 36), (2, .t 66)]), o 68 (.call true true 0 (.fn 100) [.t 67]), mt 5 68] [0, 4, 5])
 (.seq (.ops [mt 69 5, o 70 (.bin .neq (.t 69) (ci 0))] [0, 4, 5, 70])
 (.cond (.t 70)
 (.seq (.ops [mt 71 5, mt 2 71] [2])
 (.ret))
 (.skip)))))
 (.ops [mt 23 4, o 24 (.bin .add (.t 23) (ci 1)), mt 4 24] [0, 4]))
def c19 : AFunc := ⟨72, [.tmp 2],
 .seq (.ops [o 2 (.mv (ci 0))] [0])
 (.seq (.seq (.ops [mt 6 0, o 7 (.len 1 (.t 6)), o 8 (.bin .eql (.t 7) (ci 0)), o 9 (.call true true 0 (.fn 46) [.t 8, ci 12]), mt 10 0, o 11 (.len 1 (.t 10)), o 12 (.bin .gtr (.t 11) (ci 12)), o 13 (.call true true 0 (.fn 46) [.t 12, ci 5]), o 14 (.bslice false 1 zl4 2 [(0, .t 9), (1, .t 13)]), o 15 (.call true true 0 (.fn 100) [.t 14]), mt 3 15] [0, 3])
 (.seq (.ops [mt 16 3, o 17 (.bin .neq (.t 16) (ci 0))] [0, 3, 17])
 (.cond (.t 17)
 (.seq (.ops [mt 18 3, mt 2 18] [2])
 (.ret))
 (.skip))))
 (.seq (.seq (.ops [o 4 (.mv (ci 0))] [0, 4])
 (.block 0 (.loop false [0, 4] c19L0)))
 (.seq (.ops [o 2 (.mv (ci 0))] [2])
 (.ret))))⟩

def c21 : AFunc := ⟨17, [.tmp 2],
 .seq (.ops [o 1 (.box true (.t 0)), o 2 (.mv (ci 0))] [1])
 (.seq (.opsd [(0, 1), (1, 1), (2, 1), (3, 1), (4, 1), (5, 1), (6, 1), (7, 1), (8, 1), (9, 1), (10, 1), (11, 0), (12, 0), (13, 0), (14, 1)] [o 3 (.fadr 0 (.t 1)), o 4 (.ld true 2 (.t 3)), o 5 (.call true true 0 (.fn 102) [.t 4, ci 1, ci 10000]), o 6 (.fadr 2 (.t 1)), o 7 (.ld false 1 (.t 6)), o 8 (.call true true 0 (.fn 101) [.t 7, ci 1, ci 16]), o 9 (.fadr 3 (.t 1)), o 10 (.ld false 1 (.t 9)), o 11 (.call true true 0 (.fn 101) [.t 10, ci 0, ci 8]), o 12 (.fadr 4 (.t 1)), o 13 (.ld false 1 (.t 12)), o 14 (.call true true 0 (.fn 101) [.t 13, ci 1, ci 10000]), o 15 (.bslice false 1 zl4 4 [(0, .t 5), (1, .t 8), (2, .t 11), (3, .t 14)]), o 16 (.call true true 0 (.fn 100) [.t 15]), mt 2 16] [2])
 (.ret))⟩

def c27 : AFunc := ⟨17, [.tmp 2],
 .seq (.ops [o 1 (.box true (.t 0)), o 2 (.mv (ci 0))] [1])
 (.seq (.opsd [(0, 1), (1, 1), (2, 1), (3, 1), (4, 1), (5, 1), (6, 1), (7, 1), (8, 1), (9, 1), (10, 1), (11, 0), (12, 0), (13, 0), (14, 1)] [o 3 (.fadr 0 (.t 1)), o 4 (.ld true 2 (.t 3)), o 5 (.call true true 0 (.fn 105) [.t 4, ci 1, ci 10000]), o 6 (.fadr 2 (.t 1)), o 7 (.ld false 1 (.t 6)), o 8 (.call true true 0 (.fn 95) [.t 7, ci 1, ci 16]), o 9 (.fadr 3 (.t 1)), o 10 (.ld false 1 (.t 9)), o 11 (.call true true 0 (.fn 95) [.t 10, ci 0, ci 8]), o 12 (.fadr 4 (.t 1)), o 13 (.ld false 1 (.t 12)), o 14 (.call true true 0 (.fn 95) [.t 13, ci 1, ci 10000]), o 15 (.bslice false 1 zl4 4 [(0, .t 5), (1, .t 8), (2, .t 11), (3, .t 14)]), o 16 (.call true true 0 (.fn 92) [.t 15]), mt 2 16] [2])
 (.ret))⟩

def c28L0 : ACode :=
 .seq (.ops [o 17 (.bin .lss (.t 16) (.t 15))] [0, 14, 15, 16, 17])
 (.seq (.cond (.t 17)
 (.skip)
 (.exit 0))
 (.seq (.block 1 (.seq (.ops [mt 18 16, o 19 (.iadr 2 (.t 14) (.t 16)), o 20 (.ld true 2 (.t 19)), o 5 (.alloc true 1 zl2), mt 4 18, u (.st 2 (.t 5) (.t 20))] [0, 4, 5, 14, 15, 16])
 (.seq (.opsd [(0, 1), (1, 1), (2, 1), (3, 1), (4, 1), (5, 1), (6, 1), (7, 1), (8, 1), (9, 1), (10, 1), (11, 1), (12, 1), (13, 1), (14, 1), (15, 1), (16, 1), (17, 1), (18, 1), (19, 1), (20, 1), (21, 1), (22, 1), (23, 1)] [mt 21 4, o 22 (.bin .eql (.t 21) (ci 0)), mt 23 22, ⟨some 24, .fadr 0 (.t 5), some (23, true)⟩, ⟨some 25, .ld false 1 (.t 24), some (23, true)⟩, ⟨some 26, .bin .neq (.t 25) (ci 0), some (23, true)⟩, o 27 (.pick (.t 23) (.t 26) (cb false)), mt 28 27, ⟨some 29, .mv (.t 4), some (28, false)⟩, ⟨some 30, .bin .gtr (.t 29) (ci 0), some (28, false)⟩, ⟨some 31, .mv (.t 30), some (28, false)⟩, ⟨some 32, .fadr 0 (.t 5), some (31, true)⟩, ⟨some 33, .ld false 1 (.t 32), some (31, true)⟩, ⟨some 34, .mv (.t 0), some (31, true)⟩, ⟨some 35, .mv (.t 4), some (31, true)⟩, ⟨some 36, .max [ci 1, .t 35], some (31, true)⟩, ⟨some 37, .bin .sub (.t 36) (ci 1), some (31, true)⟩, ⟨some 38, .iadr 2 (.t 34) (.t 37), some (31, true)⟩, ⟨some 39, .fadr 0 (.t 38), some (31, true)⟩, ⟨some 40, .ld false 1 (.t 39), some (31, true)⟩, ⟨some 41, .bin .leq (.t 33) (.t 40), some (31, true)⟩, ⟨some 42, .pick (.t 31) (.t 41) (cb false), some (28, false)⟩, o 43 (.pick (.t 28) (cb true) (.t 42)), mt 6 43] [0, 5, 6, 14, 15, 16])
 (.seq (.opsd [(0, 1), (1, 1), (2, 1), (3, 1), (4, 1), (6, 1), (5, 0), (7, 0), (8, 0), (9, 0), (10, 1)] [o 44 (.fadr 0 (.t 5)), o 45 (.ld false 1 (.t 44)), o 46 (.call true true 0 (.fn 95) [.t 45, ci 0, ci 64]), o 47 (.fadr 1 (.t 5)), o 48 (.ld false 1 (.t 47)), mt 50 6, o 49 (.call true true 0 (.fn 95) [.t 48, ci 0, ci 100]), o 51 (.call true true 0 (.fn 107) [.t 50, ci 11]), o 52 (.bslice false 1 zl4 3 [(0, .t 46), (1, .t 49), (2, .t 51)]), o 53 (.call true true 0 (.fn 92) [.t 52]), mt 7 53] [0, 7, 14, 15, 16])
 (.seq (.ops [mt 54 7, o 55 (.bin .neq (.t 54) (ci 0))] [0, 7, 14, 15, 16, 55])
 (.cond (.t 55)
 (.seq (.ops [mt 56 7, mt 2 56] [2])
 (.ret))
 (.skip)))))))
 (.ops [o 57 (.bin .add (.t 16) (ci 1)), mt 16 57] [0, 14, 15, 16])))
def c28 : AFunc := ⟨58, [.tmp 2],
 .seq (.ops [o 2 (.mv (ci 0))] [0])
 (.seq (.seq (.ops [mt 8 0, o 9 (.len 1 (.t 8)), o 10 (.call true true 0 (.fn 106) [.t 9, ci 12]), mt 3 10] [0, 3])
 (.seq (.ops [mt 11 3, o 12 (.bin .neq (.t 11) (ci 0))] [0, 3, 12])
 (.cond (.t 12)
 (.seq (.ops [mt 13 3, mt 2 13] [2])
 (.ret))
 (.skip))))
 (.seq (.seq (.ops [mt 14 0, o 15 (.len 1 (.t 14)), o 16 (.mv (ci 0))] [0, 14, 15, 16])
 (.block 0 (.loop true [0, 14, 15, 16] c28L0)))
 (.seq (.ops [o 2 (.mv (ci 0))] [2])
 (.ret))))⟩

def c29L0 : ACode :=
 .seq (.seq (.ops [mt 11 5, mt 12 0, o 13 (.len 1 (.t 12)), o 14 (.bin .lss (.t 11) (.t 13))] [0, 1, 5, 14])
 (.cond (.t 14)
 (.skip)
 (.exit 0)))
 (.seq (.block 1 (.seq (.opsd [(0, 1), (1, 1), (2, 1), (3, 1), (4, 1), (5, 1), (6, 1), (7, 1), (8, 1)] [mt 17 0, mt 18 5, o 19 (.iadr 1 (.t 17) (.t 18)), o 20 (.ld false 1 (.t 19)), mt 21 1, mt 22 5, o 23 (.iadr 1 (.t 21) (.t 22)), o 24 (.ld false 1 (.t 23)), o 25 (.bin .neq (.t 20) (.t 24))] [0, 1, 5, 25])
 (.cond (.t 25)
 (.seq (.ops [o 4 (.mv (cb false))] [4])
 (.ret))
 (.skip))))
 (.ops [mt 15 5, o 16 (.bin .add (.t 15) (ci 1)), mt 5 16] [0, 1, 5]))
def c29 : AFunc := ⟨26, [.tmp 4],
 .seq (.ops [o 4 (.mv (cb false))] [0, 1])
 (.seq (.seq (.ops [mt 6 0, o 7 (.len 1 (.t 6)), mt 8 1, o 9 (.len 1 (.t 8)), o 10 (.bin .neq (.t 7) (.t 9))] [0, 1, 10])
 (.cond (.t 10)
 (.seq (.ops [o 4 (.mv (cb false))] [4])
 (.ret))
 (.skip)))
 (.seq (.seq (.ops [o 5 (.mv (ci 0))] [0, 1, 5])
 (.block 0 (.loop false [0, 1, 5] c29L0)))
 (.seq (.ops [o 4 (.mv (cb true))] [4])
 (.ret))))⟩

def c30L0 : ACode :=
 .seq (.seq (.ops [mt 11 5, mt 12 0, o 13 (.len 1 (.t 12)), o 14 (.bin .lss (.t 11) (.t 13))] [0, 1, 5, 14])
 (.cond (.t 14)
 (.skip)
 (.exit 0)))
 (.seq (.block 1 (.seq (.opsd [(0, 1), (1, 1), (2, 1), (3, 1), (4, 1), (5, 1), (6, 1), (7, 1), (8, 1)] [mt 17 0, mt 18 5, o 19 (.iadr 2 (.t 17) (.t 18)), o 20 (.ld true 2 (.t 19)), mt 21 1, mt 22 5, o 23 (.iadr 2 (.t 21) (.t 22)), o 24 (.ld true 2 (.t 23)), o 25 (.eqagg [0, 0] true (.t 20) (.t 24))] [0, 1, 5, 25])
 (.cond (.t 25)
 (.seq (.ops [o 4 (.mv (cb false))] [4])
 (.ret))
 (.skip))))
 (.ops [mt 15 5, o 16 (.bin .add (.t 15) (ci 1)), mt 5 16] [0, 1, 5]))
def c30 : AFunc := ⟨26, [.tmp 4],
 .seq (.ops [o 4 (.mv (cb false))] [0, 1])
 (.seq (.seq (.ops [mt 6 0, o 7 (.len 1 (.t 6)), mt 8 1, o 9 (.len 1 (.t 8)), o 10 (.bin .neq (.t 7) (.t 9))] [0, 1, 10])
 (.cond (.t 10)
 (.seq (.ops [o 4 (.mv (cb false))] [4])
 (.ret))
 (.skip)))
 (.seq (.seq (.ops [o 5 (.mv (ci 0))] [0, 1, 5])
 (.block 0 (.loop false [0, 1, 5] c30L0)))
 (.seq (.ops [o 4 (.mv (cb true))] [4])
 (.ret))))⟩

def c31 : AFunc := ⟨23, [.tmp 4, .tmp 5],
 .seq (.ops [o 4 (.mv (cb false)), o 5 (.mv (ci 0))] [0, 1])
 (.seq (.ops [mt 10 0, mt 11 1, o 12 (.call true true 0 (.fn 34) [.t 10, .t 11]), mt 9 12, o 13 (.ext (.t 9) 0), o 14 (.ext (.t 9) 1), o 15 (.ext (.t 9) 2), mt 6 13, mt 7 14, mt 8 15] [6, 8])
 (.seq (.ops [mt 16 8, o 17 (.bin .eql (.t 16) (ci 0)), mt 18 17, ⟨some 19, .mv (.t 6), some (18, true)⟩, ⟨some 20, .bin .eql (.t 19) (ci 0), some (18, true)⟩, o 21 (.pick (.t 18) (.t 20) (cb false)), mt 22 8, mt 4 21, mt 5 22] [4, 5])
 (.ret)))⟩

def c32 : AFunc := ⟨6, [.tmp 2],
 .seq (.ops [o 2 (.nilown 2)] [0])
 (.seq (.ops [o 3 (.bslice true 2 zl2 0 []), mt 4 0, o 5 (.app 2 16 zl2 (.t 3) (.t 4)), mt 2 5] [2])
 (.ret))⟩

def c33 : AFunc := ⟨6, [.tmp 2],
 .seq (.ops [o 2 (.mv (cn))] [0])
 (.seq (.ops [o 3 (.bslice true 1 zl4 0 []), mt 4 0, o 5 (.app 1 8 zl4 (.t 3) (.t 4)), mt 2 5] [2])
 (.ret))⟩

def c34 : AFunc := ⟨28, [.tmp 4, .tmp 5, .tmp 6],
 .seq (.ops [o 4 (.mv (ci 0)), o 5 (.mv (ci 0)), o 6 (.mv (ci 0))] [0, 1])
 (.seq (.seq (.ops [mt 10 0, o 11 (.call true true 0 (.fn 43) [.t 10]), mt 12 0, mt 13 1, o 14 (.call true true 0 (.fn 108) [.t 12, .t 13]), o 15 (.bslice false 1 zl4 2 [(0, .t 11), (1, .t 14)]), o 16 (.call true true 0 (.fn 92) [.t 15]), mt 7 16] [0, 1, 7])
 (.seq (.ops [mt 17 7, o 18 (.bin .neq (.t 17) (ci 0))] [0, 1, 7, 18])
 (.cond (.t 18)
 (.seq (.ops [mt 19 7, o 4 (.mv (ci 0)), o 5 (.mv (ci 0)), mt 6 19] [4, 5, 6])
 (.ret))
 (.skip))))
 (.seq (.ops [mt 21 0, mt 22 1, o 23 (.call true true 0 (.fn 109) [.t 21, .t 22]), mt 20 23, o 24 (.ext (.t 20) 0), o 25 (.ext (.t 20) 1), mt 8 24, mt 9 25] [8, 9])
 (.seq (.ops [mt 26 8, mt 27 9, mt 4 26, mt 5 27, o 6 (.mv (ci 0))] [4, 5, 6])
 (.ret))))⟩

def c35 : AFunc := ⟨12, [.tmp 2, .tmp 3],
 .seq (.ops [o 2 (.mv (cn)), o 3 (.mv (ci 0))] [0])
 (.seq (.seq (.ops [mt 5 0, o 6 (.call true true 0 (.fn 110) [.t 5]), mt 4 6] [0, 4])
 (.seq (.ops [mt 7 4, o 8 (.bin .neq (.t 7) (ci 0))] [0, 4, 8])
 (.cond (.t 8)
 (.seq (.ops [mt 9 4, o 2 (.mv (cn)), mt 3 9] [2, 3])
 (.ret))
 (.skip))))
 (.seq (.ops [mt 10 0, o 11 (.call true false 0 (.fn 111) [.t 10]), mt 2 11, o 3 (.mv (ci 0))] [2, 3])
 (.ret)))⟩

def c36 : AFunc := ⟨13, [.tmp 2, .tmp 3],
 .seq (.ops [o 2 (.mv (cn)), o 3 (.mv (ci 0))] [0])
 (.seq (.seq (.ops [mt 5 0, o 6 (.call true true 0 (.fn 110) [.t 5]), mt 4 6] [0, 4])
 (.seq (.ops [mt 7 4, o 8 (.bin .neq (.t 7) (ci 0))] [0, 4, 8])
 (.cond (.t 8)
 (.seq (.ops [mt 9 4, o 2 (.mv (cn)), mt 3 9] [2, 3])
 (.ret))
 (.skip))))
 (.seq (.ops [mt 10 0, o 11 (.call true false 0 (.fn 111) [.t 10]), o 12 (.call true false 0 (.fn 111) [.t 11]), mt 2 12, o 3 (.mv (ci 0))] [2, 3])
 (.ret)))⟩

def c37L0 : ACode :=
 .seq (.seq (.ops [mt 19 4, mt 20 0, o 21 (.len 1 (.t 20)), o 22 (.bin .lss (.t 19) (.t 21))] [0, 4, 22])
 (.cond (.t 22)
 (.skip)
 (.exit 0)))
 (.seq (.block 1 (.seq (.ops [mt 25 0, mt 26 4, o 27 (.iadr 2 (.t 25) (.t 26)), o 28 (.ld true 2 (.t 27)), o 29 (.call true true 0 (.fn 102) [.t 28, ci 0, ci 10000]), mt 5 29] [0, 4, 5])
 (.seq (.ops [mt 30 5, o 31 (.bin .neq (.t 30) (ci 0))] [0, 4, 5, 31])
 (.cond (.t 31)
 (.seq (.ops [mt 32 5, mt 2 32] [2])
 (.ret))
 (.skip)))))
 (.ops [mt 23 4, o 24 (.bin .add (.t 23) (ci 1)), mt 4 24] [0, 4]))
def c37 : AFunc := ⟨33, [.tmp 2],
 .seq (.ops [o 2 (.mv (ci 0))] [0])
 (.seq (.seq (.ops [mt 6 0, o 7 (.len 1 (.t 6)), o 8 (.bin .eql (.t 7) (ci 0)), o 9 (.call true true 0 (.fn 46) [.t 8, ci 12]), mt 10 0, o 11 (.len 1 (.t 10)), o 12 (.bin .gtr (.t 11) (ci 64)), o 13 (.call true true 0 (.fn 46) [.t 12, ci 5]), o 14 (.bslice false 1 zl4 2 [(0, .t 9), (1, .t 13)]), o 15 (.call true true 0 (.fn 100) [.t 14]), mt 3 15] [0, 3])
 (.seq (.ops [mt 16 3, o 17 (.bin .neq (.t 16) (ci 0))] [0, 3, 17])
 (.cond (.t 17)
 (.seq (.ops [mt 18 3, mt 2 18] [2])
 (.ret))
 (.skip))))
 (.seq (.seq (.ops [o 4 (.mv (ci 0))] [0, 4])
 (.block 0 (.loop false [0, 4] c37L0)))
 (.seq (.ops [o 2 (.mv (ci 0))] [2])
 (.ret))))⟩

def c43 : AFunc := ⟨13, [.tmp 2],
 .seq (.ops [o 2 (.mv (ci 0))] [0])
 (.seq (.seq (.ops [mt 4 0, o 5 (.len 1 (.t 4)), o 6 (.call true true 0 (.fn 106) [.t 5, ci 64]), mt 3 6] [0, 3])
 (.seq (.ops [mt 7 3, o 8 (.bin .neq (.t 7) (ci 0))] [0, 3, 8])
 (.cond (.t 8)
 (.seq (.ops [mt 9 3, mt 2 9] [2])
 (.ret))
 (.skip))))
 (.seq (.ops [mt 10 0, o 11 (.call true false 0 (.fn 113) [.t 10, cf 114]), o 12 (.call true true 0 (.fn 92) [.t 11]), mt 2 12] [2])
 (.ret)))⟩

def c44 : AFunc := ⟨33, [.tmp 10, .tmp 11],
 .seq (.ops [o 5 (.box true (.t 0)), o 10 (.mv (cn)), o 11 (.mv (ci 0))] [1, 2, 3, 4, 5])
 (.seq (.seq (.ops [o 13 (.ld true 5 (.t 5)), mt 14 1, mt 15 2, o 16 (.call true true 0 (.fn 115) [.t 13, .t 14, .t 15]), mt 17 2, mt 18 3, o 19 (.call true true 0 (.fn 108) [.t 17, .t 18]), mt 20 4, o 21 (.call true true 0 (.fn 116) [.t 20]), o 22 (.bslice false 1 zl4 3 [(0, .t 16), (1, .t 19), (2, .t 21)]), o 23 (.call true true 0 (.fn 92) [.t 22]), mt 12 23] [1, 2, 3, 4, 5, 12])
 (.seq (.ops [mt 24 12, o 25 (.bin .neq (.t 24) (ci 0))] [1, 2, 3, 4, 5, 12, 25])
 (.cond (.t 25)
 (.seq (.ops [mt 26 12, o 10 (.mv (cn)), mt 11 26] [10, 11])
 (.ret))
 (.skip))))
 (.seq (.ops [o 27 (.ld true 5 (.t 5)), mt 28 1, mt 29 2, mt 30 3, mt 31 4, o 32 (.call true false 0 (.fn 117) [.t 27, .t 28, .t 29, .t 30, .t 31]), mt 10 32, o 11 (.mv (ci 0))] [10, 11])
 (.ret)))⟩

def c45L0 : ACode :=
 .seq (.ops [o 44 (.bin .lss (.t 43) (.t 42))] [2, 3, 5, 9, 13, 42, 43, 44])
 (.seq (.cond (.t 44)
 (.skip)
 (.exit 0))
 (.seq (.block 1 (.seq (.ops [mt 45 43, mt 14 45] [2, 3, 5, 9, 13, 14, 42, 43])
 (.opsd [(0, 1), (1, 1), (2, 1), (3, 1), (4, 1), (5, 1), (6, 1), (7, 1), (8, 1), (9, 1), (10, 1), (11, 1), (12, 1), (13, 1), (14, 1), (15, 1), (16, 1), (17, 1), (18, 0), (19, 0), (20, 0), (21, 1)] [mt 46 13, o 47 (.ld true 5 (.t 5)), mt 48 13, mt 49 14, o 50 (.iadr 1 (.t 48) (.t 49)), o 51 (.ld false 1 (.t 50)), mt 52 2, o 53 (.ld true 5 (.t 5)), mt 54 13, mt 55 14, o 56 (.iadr 1 (.t 54) (.t 55)), o 57 (.ld false 1 (.t 56)), mt 58 3, mt 59 2, o 60 (.len 1 (.t 59)), o 61 (.call true true 0 (.fn 96) [.t 53, .t 57, .t 58, .t 60]), o 62 (.iadra 1 2 (.t 9) (ci 1)), o 63 (.ld false 1 (.t 62)), o 64 (.call true false 0 (.fn 117) [.t 47, .t 51, .t 52, .t 61, .t 63]), o 65 (.bslice false 1 [.p (.nils)] 1 [(0, .t 64)]), o 66 (.app 1 24 [.p (.nils)] (.t 46) (.t 65)), mt 13 66] [2, 3, 5, 9, 13, 42, 43])))
 (.ops [o 67 (.bin .add (.t 43) (ci 1)), mt 43 67] [2, 3, 5, 9, 13, 42, 43])))
def c45 : AFunc := ⟨69, [.tmp 10, .tmp 11],
 .seq (.ops [o 5 (.box true (.t 0)), o 9 (.box true (.t 4)), o 10 (.mv (cn)), o 11 (.mv (ci 0))] [1, 2, 3, 5, 9])
 (.seq (.seq (.opsd [(0, 1), (1, 1), (2, 1), (3, 1), (4, 1), (5, 1), (6, 1), (7, 1), (8, 1), (9, 1), (10, 1), (11, 1), (12, 1), (13, 1), (14, 1), (15, 1), (16, 1), (17, 0), (18, 0), (19, 0), (20, 1)] [o 15 (.ld true 5 (.t 5)), mt 16 1, mt 17 2, o 18 (.call true true 0 (.fn 115) [.t 15, .t 16, .t 17]), mt 19 3, o 20 (.fadr 0 (.t 5)), o 21 (.fadr 0 (.t 20)), o 22 (.ld false 1 (.t 21)), o 23 (.fadr 0 (.t 5)), o 24 (.fadr 1 (.t 23)), o 25 (.ld false 1 (.t 24)), o 26 (.call true true 0 (.fn 95) [.t 19, .t 22, .t 25]), o 27 (.iadra 1 2 (.t 9) (ci 0)), o 28 (.ld false 1 (.t 27)), o 29 (.call true true 0 (.fn 95) [.t 28, ci 0, ci 8]), o 30 (.iadra 1 2 (.t 9) (ci 1)), o 31 (.ld false 1 (.t 30)), o 32 (.call true true 0 (.fn 116) [.t 31]), o 33 (.bslice false 1 zl4 4 [(0, .t 18), (1, .t 26), (2, .t 29), (3, .t 32)]), o 34 (.call true true 0 (.fn 92) [.t 33]), mt 12 34] [1, 2, 3, 5, 9, 12])
 (.seq (.ops [mt 35 12, o 36 (.bin .neq (.t 35) (ci 0))] [1, 2, 3, 5, 9, 12, 36])
 (.cond (.t 36)
 (.seq (.ops [mt 37 12, o 10 (.mv (cn)), mt 11 37] [10, 11])
 (.ret))
 (.skip))))
 (.seq (.ops [mt 38 1, o 39 (.call true false 0 (.fn 118) [.t 38]), o 40 (.bslice true 1 [.p (.nils)] 1 [(0, .t 39)]), mt 13 40] [2, 3, 5, 9, 13])
 (.seq (.seq (.ops [o 41 (.iadra 1 2 (.t 9) (ci 0)), o 42 (.ld false 1 (.t 41)), o 43 (.mv (ci 0))] [2, 3, 5, 9, 13, 42, 43])
 (.block 0 (.loop false [2, 3, 5, 9, 13, 42, 43] c45L0)))
 (.seq (.ops [mt 68 13, mt 10 68, o 11 (.mv (ci 0))] [10, 11])
 (.ret)))))⟩

def c46 : AFunc := ⟨7, [.tmp 4],
 .seq (.ops [o 4 (.mv (ci 0))] [0, 1])
 (.seq (.seq (.ops [mt 5 0] [1, 5])
 (.cond (.t 5)
 (.seq (.ops [mt 6 1, mt 4 6] [4])
 (.ret))
 (.skip)))
 (.seq (.ops [o 4 (.mv (ci 0))] [4])
 (.ret)))⟩

def c51L0 : ACode :=
 .seq (.seq (.ops [mt 11 5, mt 12 0, o 13 (.len 1 (.t 12)), o 14 (.bin .lss (.t 11) (.t 13))] [0, 1, 5, 14])
 (.cond (.t 14)
 (.skip)
 (.exit 0)))
 (.seq (.block 1 (.seq (.opsd [(0, 1), (1, 1), (2, 1), (3, 1), (4, 1), (5, 1), (6, 1), (7, 1), (8, 1)] [mt 17 0, mt 18 5, o 19 (.iadr 2 (.t 17) (.t 18)), o 20 (.ld true 2 (.t 19)), mt 21 1, mt 22 5, o 23 (.iadr 2 (.t 21) (.t 22)), o 24 (.ld true 2 (.t 23)), o 25 (.eqagg [0, 0] true (.t 20) (.t 24))] [0, 1, 5, 25])
 (.cond (.t 25)
 (.seq (.ops [o 4 (.mv (cb false))] [4])
 (.ret))
 (.skip))))
 (.ops [mt 15 5, o 16 (.bin .add (.t 15) (ci 1)), mt 5 16] [0, 1, 5]))
def c51 : AFunc := ⟨26, [.tmp 4],
 .seq (.ops [o 4 (.mv (cb false))] [0, 1])
 (.seq (.seq (.ops [mt 6 0, o 7 (.len 1 (.t 6)), mt 8 1, o 9 (.len 1 (.t 8)), o 10 (.bin .neq (.t 7) (.t 9))] [0, 1, 10])
 (.cond (.t 10)
 (.seq (.ops [o 4 (.mv (cb false))] [4])
 (.ret))
 (.skip)))
 (.seq (.seq (.ops [o 5 (.mv (ci 0))] [0, 1, 5])
 (.block 0 (.loop false [0, 1, 5] c51L0)))
 (.seq (.ops [o 4 (.mv (cb true))] [4])
 (.ret))))⟩

def c52L0 : ACode :=
 .seq (.ops [o 9 (.bin .lss (.t 8) (.t 7))] [3, 6, 7, 8, 9])
 (.seq (.cond (.t 9)
 (.skip)
 (.exit 0))
 (.seq (.block 1 (.seq (.ops [o 10 (.iadr 2 (.t 6) (.t 8)), o 11 (.ld true 2 (.t 10)), o 5 (.alloc true 1 zl2), u (.st 2 (.t 5) (.t 11))] [3, 5, 6, 7, 8])
 (.ops [mt 12 3, o 13 (.ld true 2 (.t 5)), o 14 (.bslice false 2 zl2 1 [(0, .t 13)]), o 15 (.app 2 16 zl2 (.t 12) (.t 14)), mt 3 15] [3, 6, 7, 8])))
 (.ops [o 16 (.bin .add (.t 8) (ci 1)), mt 8 16] [3, 6, 7, 8])))
def c52 : AFunc := ⟨18, [.tmp 2],
 .seq (.ops [o 2 (.mv (cn))] [0])
 (.seq (.ops [o 3 (.nilown 2)] [0, 3])
 (.seq (.seq (.ops [mt 6 0, o 7 (.len 1 (.t 6)), o 8 (.mv (ci 0))] [3, 6, 7, 8])
 (.block 0 (.loop true [3, 6, 7, 8] c52L0)))
 (.seq (.ops [mt 17 3, mt 2 17] [2])
 (.ret))))⟩

def c56 : AFunc := ⟨12, [.tmp 2, .tmp 3],
 .seq (.ops [o 2 (.mv (cn)), o 3 (.mv (ci 0))] [0])
 (.seq (.seq (.ops [mt 5 0, o 6 (.call true true 0 (.fn 120) [.t 5]), mt 4 6] [0, 4])
 (.seq (.ops [mt 7 4, o 8 (.bin .neq (.t 7) (ci 0))] [0, 4, 8])
 (.cond (.t 8)
 (.seq (.ops [mt 9 4, o 2 (.mv (cn)), mt 3 9] [2, 3])
 (.ret))
 (.skip))))
 (.seq (.ops [mt 10 0, o 11 (.call true false 0 (.fn 121) [.t 10]), mt 2 11, o 3 (.mv (ci 0))] [2, 3])
 (.ret)))⟩

def c58L0 : ACode :=
 .seq (.ops [o 25 (.bin .lss (.t 24) (.t 23))] [0, 5, 6, 7, 18, 19, 22, 23, 24, 25])
 (.seq (.cond (.t 25)
 (.skip)
 (.exit 2))
 (.seq (.block 3 (.seq (.ops [o 26 (.iadr 1 (.t 22) (.t 24)), o 27 (.ld false 1 (.t 26)), mt 9 27] [0, 5, 6, 7, 9, 18, 19, 22, 23, 24])
 (.ops [mt 28 7, mt 29 9, mt 30 6, o 31 (.iadr 1 (.t 29) (.t 30)), o 32 (.ld false 1 (.t 31)), o 33 (.bin .add (.t 28) (.t 32)), mt 7 33] [0, 5, 6, 7, 18, 19, 22, 23, 24])))
 (.ops [o 34 (.bin .add (.t 24) (ci 1)), mt 24 34] [0, 5, 6, 7, 18, 19, 22, 23, 24])))
def c58L1 : ACode :=
 .seq (.ops [o 20 (.bin .lss (.t 19) (.t 18))] [0, 5, 18, 19, 20])
 (.seq (.cond (.t 20)
 (.skip)
 (.exit 0))
 (.seq (.block 1 (.seq (.ops [mt 21 19, mt 6 21] [0, 5, 6, 18, 19])
 (.seq (.ops [o 7 (.mv (ci 0))] [0, 5, 6, 7, 18, 19])
 (.seq (.seq (.ops [mt 22 0, o 23 (.len 1 (.t 22)), o 24 (.mv (ci 0))] [0, 5, 6, 7, 18, 19, 22, 23, 24])
 (.block 2 (.loop false [0, 5, 6, 7, 18, 19, 22, 23, 24] c58L0)))
 (.ops [mt 35 5, mt 36 7, o 37 (.bin .mul (ci 2) (.t 36)), mt 38 0, o 39 (.len 1 (.t 38)), o 40 (.bin .add (.t 37) (.t 39)), mt 41 0, o 42 (.len 1 (.t 41)), o 43 (.bin .mul (ci 2) (.t 42)), o 44 (.call true true 0 (.fn 122) [.t 40, .t 43]), o 45 (.bslice false 1 zl4 1 [(0, .t 44)]), o 46 (.app 1 8 zl4 (.t 35) (.t 45)), mt 5 46] [0, 5, 18, 19])))))
 (.ops [o 47 (.bin .add (.t 19) (ci 1)), mt 19 47] [0, 5, 18, 19])))
def c58 : AFunc := ⟨49, [.tmp 2, .tmp 3],
 .seq (.ops [o 2 (.mv (cn)), o 3 (.mv (ci 0))] [0])
 (.seq (.seq (.ops [mt 10 0, o 11 (.call true true 0 (.fn 120) [.t 10]), mt 4 11] [0, 4])
 (.seq (.ops [mt 12 4, o 13 (.bin .neq (.t 12) (ci 0))] [0, 4, 13])
 (.cond (.t 13)
 (.seq (.ops [mt 14 4, o 2 (.mv (cn)), mt 3 14] [2, 3])
 (.ret))
 (.skip))))
 (.seq (.ops [o 5 (.nilown 1)] [0, 5])
 (.seq (.seq (.ops [mt 15 0, o 16 (.iadr 1 (.t 15) (ci 0)), o 17 (.ld false 1 (.t 16)), o 18 (.len 1 (.t 17)), o 19 (.mv (ci 0))] [0, 5, 18, 19])
 (.block 0 (.loop false [0, 5, 18, 19] c58L1)))
 (.seq (.ops [mt 48 5, mt 2 48, o 3 (.mv (ci 0))] [2, 3])
 (.ret)))))⟩

def c59 : AFunc := ⟨21, [.tmp 4, .tmp 5],
 .seq (.ops [o 3 (.box true (.t 1)), o 4 (.mv (cb false)), o 5 (.mv (ci 0))] [0, 3])
 (.seq (.seq (.opsd [(0, 1), (1, 1), (2, 1), (3, 0), (4, 0), (5, 0), (6, 1)] [mt 7 0, o 8 (.call true true 0 (.fn 120) [.t 7]), o 9 (.ld false 1 (.t 3)), o 10 (.call true true 0 (.fn 95) [.t 9, ci 0, ci 100000]), o 11 (.bslice false 1 zl4 2 [(0, .t 8), (1, .t 10)]), o 12 (.call true true 0 (.fn 92) [.t 11]), mt 6 12] [0, 3, 6])
 (.seq (.ops [mt 13 6, o 14 (.bin .neq (.t 13) (ci 0))] [0, 3, 6, 14])
 (.cond (.t 14)
 (.seq (.ops [mt 15 6, o 4 (.mv (cb false)), mt 5 15] [4, 5])
 (.ret))
 (.skip))))
 (.seq (.ops [mt 16 0, o 17 (.call true false 0 (.fn 121) [.t 16]), o 18 (.mkclo 123 [] [.t 3]), o 19 (.call true true 0 (.fn 98) [.t 17, .t 18]), o 20 (.not (.t 19)), mt 4 20, o 5 (.mv (ci 0))] [4, 5])
 (.ret)))⟩

def c60 : AFunc := ⟨23, [.tmp 4, .tmp 5, .tmp 6],
 .seq (.ops [o 2 (.box true (.t 0)), o 4 (.mv (cn)), o 5 (.mv (cn)), o 6 (.mv (ci 0))] [1, 2])
 (.seq (.seq (.ops [o 8 (.ld true 3 (.t 2)), o 9 (.call true true 0 (.fn 68) [.t 8]), mt 10 1, o 11 (.call true true 0 (.fn 110) [.t 10]), o 12 (.bslice false 1 zl4 2 [(0, .t 9), (1, .t 11)]), o 13 (.call true true 0 (.fn 92) [.t 12]), mt 7 13] [1, 2, 7])
 (.seq (.ops [mt 14 7, o 15 (.bin .neq (.t 14) (ci 0))] [1, 2, 7, 15])
 (.cond (.t 15)
 (.seq (.ops [mt 16 7, o 4 (.mv (cn)), o 5 (.mv (cn)), mt 6 16] [4, 5, 6])
 (.ret))
 (.skip))))
 (.seq (.ops [mt 17 1, o 18 (.mkclo 125 [] [.t 2]), o 19 (.call true false 0 (.fn 124) [.t 17, .t 18]), mt 20 1, o 21 (.mkclo 127 [] [.t 2]), o 22 (.call true false 0 (.fn 124) [.t 20, .t 21]), mt 4 19, mt 5 22, o 6 (.mv (ci 0))] [4, 5, 6])
 (.ret)))⟩

def c68 : AFunc := ⟨32, [.tmp 2],
 .seq (.ops [o 1 (.box true (.t 0)), o 2 (.mv (ci 0))] [1])
 (.seq (.opsd [(0, 1), (1, 1), (2, 1), (3, 1), (4, 1), (5, 1), (6, 1), (7, 1), (8, 1), (9, 1), (10, 1), (11, 1), (12, 1), (13, 1), (14, 1), (15, 1), (16, 1), (17, 1), (18, 1), (19, 1), (20, 1), (21, 1), (22, 1), (23, 1), (24, 1), (25, 1), (26, 0), (27, 0), (28, 0), (29, 1)] [o 3 (.fadr 0 (.t 1)), o 4 (.ld false 1 (.t 3)), o 5 (.call true true 0 (.fn 95) [.t 4, ci 0, ci 1000]), o 6 (.fadr 1 (.t 1)), o 7 (.ld false 1 (.t 6)), o 8 (.call true true 0 (.fn 95) [.t 7, ci 0, ci 1000]), o 9 (.fadr 2 (.t 1)), o 10 (.ld false 1 (.t 9)), o 11 (.call true true 0 (.fn 95) [.t 10, ci 1, ci 1000]), o 12 (.fadr 0 (.t 1)), o 13 (.ld false 1 (.t 12)), o 14 (.fadr 0 (.t 1)), o 15 (.ld false 1 (.t 14)), o 16 (.bin .mul (.t 13) (.t 15)), o 17 (.fadr 1 (.t 1)), o 18 (.ld false 1 (.t 17)), o 19 (.fadr 1 (.t 1)), o 20 (.ld false 1 (.t 19)), o 21 (.bin .mul (.t 18) (.t 20)), o 22 (.bin .add (.t 16) (.t 21)), o 23 (.fadr 2 (.t 1)), o 24 (.ld false 1 (.t 23)), o 25 (.fadr 2 (.t 1)), o 26 (.ld false 1 (.t 25)), o 27 (.bin .mul (.t 24) (.t 26)), o 28 (.bin .neq (.t 22) (.t 27)), o 29 (.call true true 0 (.fn 107) [.t 28, ci 1]), o 30 (.bslice false 1 zl4 4 [(0, .t 5), (1, .t 8), (2, .t 11), (3, .t 29)]), o 31 (.call true true 0 (.fn 92) [.t 30]), mt 2 31] [2])
 (.ret))⟩

def c69 : AFunc := ⟨13, [.tmp 2, .tmp 3],
 .seq (.ops [o 2 (.mv (cs [])), o 3 (.mv (ci 0))] [0])
 (.seq (.seq (.ops [mt 5 0, o 6 (.call true true 0 (.fn 28) [.t 5]), mt 4 6] [0, 4])
 (.seq (.ops [mt 7 4, o 8 (.bin .neq (.t 7) (ci 0))] [0, 4, 8])
 (.cond (.t 8)
 (.seq (.ops [mt 9 4, o 2 (.mv (cs [])), mt 3 9] [2, 3])
 (.ret))
 (.skip))))
 (.seq (.ops [mt 10 0, o 11 (.call true false 0 (.fn 131) [.t 10, cf 132]), o 12 (.call true true 0 (.fn 130) [.t 11, cs []]), mt 2 12, o 3 (.mv (ci 0))] [2, 3])
 (.ret)))⟩

def c70A0 : ACode :=
 .ops [mt 6 19] [2, 3, 4, 5, 6]
def c70B0 : ACode :=
 .block 1 (.seq (.ops [mt 21 6, o 22 (.call true true 0 (.fn 135) [.t 21, cs [10]]), mt 20 22, o 23 (.ext (.t 20) 0), o 24 (.ext (.t 20) 1), mt 7 23, mt 8 24] [2, 3, 4, 5, 7, 8])
 (.seq (.ops [mt 25 7, o 26 (.call true false 0 (.fn 136) [.t 25, cs [32]]), mt 9 26] [2, 3, 4, 5, 8, 9])
 (.seq (.ops [mt 27 9, o 28 (.slc 1 (.t 27) (some (ci 1)) none), o 29 (.build [.p (.nils), .p (.bool false)] [(0, 1, .t 28)]), o 30 (.box false (.t 29)), mt 10 30] [2, 3, 4, 5, 8, 9, 10])
 (.seq (.ops [mt 31 10, o 32 (.mkclo 137 [.t 31] []), mt 11 32] [2, 3, 4, 5, 8, 9, 10, 11])
 (.seq (.ops [mt 33 11, o 34 (.call false true 0 (.val (.t 33)) []), o 35 (.build zl2 [(0, 1, .t 34)]), o 12 (.alloc true 1 zl2), u (.st 2 (.t 12) (.t 35))] [2, 3, 4, 5, 8, 9, 10, 11, 12])
 (.seq (.ops [mt 36 11, o 37 (.call false true 0 (.val (.t 36)) []), o 38 (.fadr 1 (.t 12)), u (.st 1 (.t 38) (.t 37))] [2, 3, 4, 5, 8, 9, 10, 12])
 (.seq (.seq (.opsd [(0, 1), (1, 1), (2, 1), (3, 1), (4, 1), (5, 1), (6, 1), (7, 1), (8, 1), (9, 1), (10, 1), (11, 1), (12, 1), (13, 1), (14, 1), (15, 1), (16, 1), (17, 1), (18, 1), (19, 1), (20, 1), (21, 1), (22, 1), (23, 1)] [mt 39 8, o 40 (.not (.t 39)), mt 41 40, ⟨some 42, .mv (.t 9), some (41, false)⟩, ⟨some 43, .iadr 1 (.t 42) (ci 0), some (41, false)⟩, ⟨some 44, .ld false 1 (.t 43), some (41, false)⟩, ⟨some 45, .iadra 1 1 (.g 0) (ci 0), some (41, false)⟩, ⟨some 46, .ld false 1 (.t 45), some (41, false)⟩, ⟨some 47, .bin .neq (.t 44) (.t 46), some (41, false)⟩, o 48 (.pick (.t 41) (cb true) (.t 47)), mt 49 48, ⟨some 50, .mv (.t 10), some (49, false)⟩, ⟨some 51, .nilck (.t 50), some (49, false)⟩, ⟨some 52, .fadr 1 (.t 51), some (49, false)⟩, ⟨some 53, .ld false 1 (.t 52), some (49, false)⟩, o 54 (.pick (.t 49) (cb true) (.t 53)), mt 55 54, ⟨some 56, .mv (.t 10), some (55, false)⟩, ⟨some 57, .nilck (.t 56), some (55, false)⟩, ⟨some 58, .fadr 0 (.t 57), some (55, false)⟩, ⟨some 59, .ld false 1 (.t 58), some (55, false)⟩, ⟨some 60, .len 1 (.t 59), some (55, false)⟩, ⟨some 61, .bin .gtr (.t 60) (ci 0), some (55, false)⟩, o 62 (.pick (.t 55) (cb true) (.t 61))] [2, 3, 4, 5, 12, 62])
 (.cond (.t 62)
 (.seq (.opsd [(0, 18), (1, 18), (2, 3), (3, 0), (4, 0)] [o 63 (.ld false 1 (.t 5)), o 64 (.len 1 (.t 63)), u (.st 1 (.t 2) (cn)), u (.st 1 (.t 3) (.t 64)), u (.st 1 (.t 4) (ci 25))] [])
 (.ret))
 (.skip)))
 (.ops [o 65 (.ld false 1 (.t 5)), o 66 (.ld true 2 (.t 12)), o 67 (.bslice false 2 zl2 1 [(0, .t 66)]), o 68 (.app 2 16 zl2 (.t 65) (.t 67)), u (.st 1 (.t 5) (.t 68))] []))))))))
def c70 : AFunc := ⟨77, [.cell 2 false 1, .cell 3 false 1, .cell 4 false 1],
 .seq (.ops [o 2 (.alloc false 1 [.p (.nils)]), o 3 (.alloc true 1 zl4), o 4 (.alloc true 1 zl4)] [0, 2, 3, 4])
 (.seq (.seq (.ops [mt 14 0, o 15 (.len 0 (.t 14)), o 16 (.bin .gtr (.t 15) (ci 4096))] [0, 2, 3, 4, 16])
 (.cond (.t 16)
 (.seq (.ops [u (.st 1 (.t 2) (cn)), u (.st 1 (.t 3) (ci 0)), u (.st 1 (.t 4) (ci 26))] [2, 3, 4])
 (.ret))
 (.skip)))
 (.seq (.ops [o 5 (.allocown 2)] [0, 2, 3, 4, 5])
 (.seq (.seq (.ops [mt 17 0, o 18 (.call false false 1000 (.fn 134) [.t 17])] [2, 3, 4, 5, 18])
 (.block 0 (.rfun (.t 18) [19] c70A0 c70B0)))
 (.seq (.seq (.ops [o 69 (.ld false 1 (.t 5)), o 70 (.call true true 0 (.fn 28) [.t 69]), mt 13 70] [2, 3, 4, 5, 13])
 (.seq (.ops [mt 71 13, o 72 (.bin .neq (.t 71) (ci 0))] [2, 3, 4, 5, 13, 72])
 (.cond (.t 72)
 (.seq (.opsd [(0, 18), (1, 18), (2, 1), (3, 3), (4, 0), (5, 0)] [o 73 (.ld false 1 (.t 5)), o 74 (.len 1 (.t 73)), mt 75 13, u (.st 1 (.t 2) (cn)), u (.st 1 (.t 3) (.t 74)), u (.st 1 (.t 4) (.t 75))] [2, 3, 4])
 (.ret))
 (.skip))))
 (.seq (.ops [o 76 (.ld false 1 (.t 5)), u (.st 1 (.t 2) (.t 76)), u (.st 1 (.t 3) (ci 0)), u (.st 1 (.t 4) (ci 0))] [2, 3, 4])
 (.ret))))))⟩

def c73 : AFunc := ⟨8, [.cell 4 true 2],
 .seq (.ops [o 4 (.alloc true 1 zl2)] [0, 1, 4])
 (.seq (.ops [mt 5 0, mt 6 1, o 7 (.build zl2 [(0, 1, .t 5), (1, 1, .t 6)]), u (.st 2 (.t 4) (.t 7))] [4])
 (.ret))⟩

def c78A0 : ACode :=
 .ops [o 11 (.alloc false 1 zl1), u (.st 3 (.t 11) (.t 23))] [3, 8, 9, 10, 11]
def c78B0 : ACode :=
 .block 1 (.seq (.ops [o 24 (.fadr 0 (.t 11)), o 25 (.fadr 1 (.t 24)), o 26 (.ld false 1 (.t 25)), o 27 (.fadr 0 (.t 3)), o 28 (.ld false 1 (.t 27)), o 29 (.bin .geq (.t 26) (.t 28)), mt 30 29, ⟨some 31, .fadr 0 (.t 11), some (30, true)⟩, ⟨some 32, .fadr 1 (.t 31), some (30, true)⟩, ⟨some 33, .ld false 1 (.t 32), some (30, true)⟩, ⟨some 34, .fadr 1 (.t 3), some (30, true)⟩, ⟨some 35, .ld false 1 (.t 34), some (30, true)⟩, ⟨some 36, .bin .leq (.t 33) (.t 35), some (30, true)⟩, o 37 (.pick (.t 30) (.t 36) (cb false)), mt 38 37, ⟨some 39, .ld false 1 (.t 9), some (38, true)⟩, ⟨some 40, .not (.t 39), some (38, true)⟩, ⟨some 41, .mv (.t 40), some (38, true)⟩, ⟨some 42, .ld false 1 (.t 10), some (41, false)⟩, ⟨some 43, .ld true 3 (.t 11), some (41, false)⟩, ⟨some 44, .ld true 3 (.t 8), some (41, false)⟩, ⟨some 45, .call false true 0 (.val (.t 42)) [.t 43, .t 44], some (41, false)⟩, ⟨some 46, .bin .lss (.t 45) (ci 0), some (41, false)⟩, ⟨some 47, .pick (.t 41) (cb true) (.t 46), some (38, true)⟩, o 48 (.pick (.t 38) (.t 47) (cb false))] [8, 9, 11, 48])
 (.cond (.t 48)
 (.ops [o 49 (.ld true 3 (.t 11)), u (.st 3 (.t 8) (.t 49)), u (.st 1 (.t 9) (cb true))] [])
 (.skip)))
def c78 : AFunc := ⟨57, [.tmp 4, .tmp 5, .tmp 6],
 .seq (.ops [o 3 (.box true (.t 1)), o 4 (.mv (cn)), o 5 (.mv (ci 0)), o 6 (.mv (ci 0))] [0, 3, 4, 5, 6])
 (.seq (.seq (.opsd [(0, 1), (1, 1), (2, 1), (3, 0), (4, 0), (5, 0), (6, 1)] [mt 12 0, o 13 (.call true true 0 (.fn 87) [.t 12]), o 14 (.ld true 2 (.t 3)), o 15 (.call true true 0 (.fn 141) [.t 14]), o 16 (.bslice false 1 zl4 2 [(0, .t 13), (1, .t 15)]), o 17 (.call true true 0 (.fn 92) [.t 16]), mt 7 17] [0, 3, 4, 5, 6, 7])
 (.seq (.ops [mt 18 7, o 19 (.bin .neq (.t 18) (ci 0))] [0, 3, 4, 5, 6, 7, 19])
 (.cond (.t 19)
 (.seq (.ops [mt 20 7, o 4 (.mv (cn)), o 5 (.mv (ci 0)), mt 6 20] [4, 5, 6])
 (.ret))
 (.skip))))
 (.seq (.ops [o 8 (.alloc false 1 zl1)] [0, 3, 4, 5, 6, 8])
 (.seq (.ops [o 9 (.alloc true 1 [.p (.bool false)]), u (.st 1 (.t 9) (cb false))] [0, 3, 4, 5, 6, 8, 9])
 (.seq (.ops [o 10 (.alloc false 1 [.p (.nilf)]), u (.st 1 (.t 10) (cf 143))] [0, 3, 4, 5, 6, 8, 9, 10])
 (.seq (.seq (.ops [mt 21 0, o 22 (.call true false 0 (.fn 144) [.t 21])] [3, 4, 5, 6, 8, 9, 10, 22])
 (.block 0 (.rfun (.t 22) [23] c78A0 c78B0)))
 (.seq (.seq (.ops [o 50 (.ld false 1 (.t 9)), o 51 (.not (.t 50))] [8, 51])
 (.cond (.t 51)
 (.seq (.ops [o 4 (.mv (cn)), o 5 (.mv (ci 0)), o 6 (.mv (ci 18))] [4, 5, 6])
 (.ret))
 (.skip)))
 (.seq (.opsd [(0, 1), (1, 1), (2, 1), (3, 1), (4, 1), (5, 1), (6, 1), (7, 1)] [o 52 (.fadr 2 (.t 8)), o 53 (.ld false 1 (.t 52)), o 54 (.fadr 0 (.t 8)), o 55 (.fadr 0 (.t 54)), o 56 (.ld false 1 (.t 55)), mt 4 53, mt 5 56, o 6 (.mv (ci 0))] [4, 5, 6])
 (.ret))))))))⟩

def c79L0 : ACode :=
 .seq (.ops [o 36 (.bin .lss (.t 35) (.t 34))] [2, 9, 33, 34, 35, 36])
 (.seq (.cond (.t 36)
 (.skip)
 (.exit 0))
 (.seq (.block 1 (.seq (.ops [o 37 (.iadr 4 (.t 33) (.t 35)), o 38 (.ld true 4 (.t 37)), o 11 (.alloc true 1 zl0), u (.st 4 (.t 11) (.t 38))] [2, 9, 11, 33, 34, 35])
 (.opsd [(0, 1), (1, 1), (2, 1), (3, 1), (4, 1), (5, 1), (6, 1), (7, 1), (8, 1), (9, 1), (10, 1)] [mt 39 9, o 40 (.fadr 3 (.t 11)), o 41 (.ld false 1 (.t 40)), mt 42 2, o 43 (.ld true 4 (.t 11)), o 44 (.call true true 0 (.fn 142) [.t 43]), o 45 (.bin .mul (.t 42) (.t 44)), o 46 (.bin .sub (.t 41) (.t 45)), o 47 (.min [ci 0, .t 46]), o 48 (.bin .add (.t 39) (.t 47)), mt 9 48] [2, 9, 33, 34, 35])))
 (.ops [o 49 (.bin .add (.t 35) (ci 1)), mt 35 49] [2, 9, 33, 34, 35])))
def c79 : AFunc := ⟨51, [.tmp 6, .tmp 7],
 .seq (.ops [o 4 (.box true (.t 1)), o 6 (.mv (ci 0)), o 7 (.mv (ci 0))] [0, 2, 4])
 (.seq (.seq (.opsd [(0, 1), (1, 1), (2, 1), (4, 1), (3, 0), (5, 0), (6, 0), (7, 0), (8, 1)] [mt 12 0, o 13 (.call true true 0 (.fn 87) [.t 12]), o 14 (.ld true 2 (.t 4)), mt 16 2, o 15 (.call true true 0 (.fn 141) [.t 14]), o 17 (.call true true 0 (.fn 95) [.t 16, ci (-1000), ci 1000]), o 18 (.bslice false 1 zl4 3 [(0, .t 13), (1, .t 15), (2, .t 17)]), o 19 (.call true true 0 (.fn 92) [.t 18]), mt 8 19] [0, 2, 4, 8])
 (.seq (.ops [mt 20 8, o 21 (.bin .neq (.t 20) (ci 0))] [0, 2, 4, 8, 21])
 (.cond (.t 21)
 (.seq (.ops [mt 22 8, o 6 (.mv (ci 0)), mt 7 22] [6, 7])
 (.ret))
 (.skip))))
 (.seq (.ops [mt 23 2, o 24 (.fadr 0 (.t 4)), o 25 (.ld false 1 (.t 24)), o 26 (.bin .mul (.t 23) (.t 25)), mt 9 26] [0, 2, 4, 9])
 (.seq (.seq (.ops [mt 27 2, o 28 (.bin .lss (.t 27) (ci 0))] [0, 2, 4, 9, 28])
 (.cond (.t 28)
 (.ops [mt 29 2, o 30 (.fadr 1 (.t 4)), o 31 (.ld false 1 (.t 30)), o 32 (.bin .mul (.t 29) (.t 31)), mt 9 32] [0, 2, 9])
 (.skip)))
 (.seq (.seq (.ops [mt 33 0, o 34 (.len 1 (.t 33)), o 35 (.mv (ci 0))] [2, 9, 33, 34, 35])
 (.block 0 (.loop true [2, 9, 33, 34, 35] c79L0)))
 (.seq (.ops [mt 50 9, mt 6 50, o 7 (.mv (ci 0))] [6, 7])
 (.ret))))))⟩

def c87L0 : ACode :=
 .seq (.ops [o 14 (.bin .lss (.t 13) (.t 12))] [3, 11, 12, 13, 14])
 (.seq (.cond (.t 14)
 (.skip)
 (.exit 0))
 (.seq (.block 1 (.seq (.ops [o 15 (.iadr 4 (.t 11) (.t 13)), o 16 (.ld true 4 (.t 15)), o 5 (.alloc true 1 zl0), u (.st 4 (.t 5) (.t 16))] [3, 5, 11, 12, 13])
 (.seq (.seq (.opsd [(0, 1), (1, 1), (2, 1), (3, 1), (4, 1), (5, 1), (6, 1), (7, 1), (8, 1), (9, 1), (10, 1), (11, 1), (12, 1), (13, 1), (14, 1), (15, 1), (16, 1), (17, 1), (18, 0), (19, 0), (20, 0), (21, 1)] [o 17 (.fadr 0 (.t 5)), o 18 (.ld false 1 (.t 17)), o 19 (.call true true 0 (.fn 149) [.t 18]), o 20 (.not (.t 19)), o 21 (.call true true 0 (.fn 107) [.t 20, ci 8]), mt 22 3, o 23 (.fadr 0 (.t 5)), o 24 (.ld false 1 (.t 23)), o 25 (.lkup 1 (.p (.bool false)) (.t 22) (.t 24) false), o 26 (.call true true 0 (.fn 107) [.t 25, ci 9]), o 27 (.fadr 1 (.t 5)), o 28 (.ld false 1 (.t 27)), o 29 (.call true true 0 (.fn 95) [.t 28, ci 0, ci 10000]), o 30 (.fadr 2 (.t 5)), o 31 (.ld false 1 (.t 30)), o 32 (.call true true 0 (.fn 95) [.t 31, ci 1, ci 64]), o 33 (.fadr 3 (.t 5)), o 34 (.ld false 1 (.t 33)), o 35 (.call true true 0 (.fn 95) [.t 34, ci 0, ci 1000000]), o 36 (.bslice false 1 zl4 5 [(0, .t 21), (1, .t 26), (2, .t 29), (3, .t 32), (4, .t 35)]), o 37 (.call true true 0 (.fn 92) [.t 36]), mt 6 37] [3, 5, 6, 11, 12, 13])
 (.seq (.ops [mt 38 6, o 39 (.bin .neq (.t 38) (ci 0))] [3, 5, 6, 11, 12, 13, 39])
 (.cond (.t 39)
 (.seq (.ops [mt 40 6, mt 2 40] [2])
 (.ret))
 (.skip))))
 (.ops [mt 41 3, o 42 (.fadr 0 (.t 5)), o 43 (.ld false 1 (.t 42)), u (.mupd 1 (.t 41) (.t 43) (cb true))] [3, 11, 12, 13]))))
 (.ops [o 44 (.bin .add (.t 13) (ci 1)), mt 13 44] [3, 11, 12, 13])))
def c87 : AFunc := ⟨45, [.tmp 2],
 .seq (.ops [o 2 (.mv (ci 0))] [0])
 (.seq (.seq (.ops [mt 7 0, o 8 (.len 1 (.t 7)), o 9 (.bin .gtr (.t 8) (ci 8))] [0, 9])
 (.cond (.t 9)
 (.seq (.ops [o 2 (.mv (ci 5))] [2])
 (.ret))
 (.skip)))
 (.seq (.ops [o 10 (.mkmap), mt 3 10] [0, 3])
 (.seq (.seq (.ops [mt 11 0, o 12 (.len 1 (.t 11)), o 13 (.mv (ci 0))] [3, 11, 12, 13])
 (.block 0 (.loop true [3, 11, 12, 13] c87L0)))
 (.seq (.ops [o 2 (.mv (ci 0))] [2])
 (.ret)))))⟩

def c88 : AFunc := ⟨3, [.cell 0 true 5],
 .seq (.ops [o 0 (.alloc true 1 [.p (.int .i64 0), .p (.int .i64 0), .p (.int .i64 0), .p (.int .i64 0), .p (.int .i64 0)])] [0])
 (.seq (.ops [o 1 (.call true true 0 (.fn 73) [ci 100, ci 200]), o 2 (.build [.p (.int .i64 0), .p (.int .i64 0), .p (.int .i64 0), .p (.int .i64 0), .p (.int .i64 0)] [(0, 2, .t 1), (2, 1, ci 2), (3, 1, ci 1), (4, 1, ci 60)]), u (.st 5 (.t 0) (.t 2))] [0])
 (.ret))⟩

def c89 : AFunc := ⟨10, [.tmp 4],
 .seq (.ops [o 4 (.mv (cn))] [0, 1])
 (.seq (.ops [mt 5 0, o 6 (.build zl2 [(1, 1, .t 5)]), mt 7 1, o 8 (.build zl2 [(0, 1, ci 3), (1, 1, .t 7)]), o 9 (.bslice false 2 zl2 2 [(0, .t 6), (1, .t 8)]), mt 4 9] [4])
 (.ret))⟩

def c90 : AFunc := ⟨6, [.tmp 0],
 .seq (.ops [o 0 (.mv (cn))] [])
 (.seq (.ops [o 1 (.call true true 0 (.fn 73) [ci 20, ci 40]), o 2 (.call true true 0 (.fn 73) [ci 20, ci 40]), o 3 (.call true true 0 (.fn 73) [ci 20, ci 40]), o 4 (.call true true 0 (.fn 73) [ci 20, ci 40]), o 5 (.bslice false 2 zl2 4 [(0, .t 1), (1, .t 2), (2, .t 3), (3, .t 4)]), mt 0 5] [0])
 (.ret))⟩

def c91 : AFunc := ⟨5, [.tmp 0],
 .seq (.ops [o 0 (.nilown 4)] [])
 (.seq (.ops [o 1 (.build zl0 [(0, 1, cs [112]), (1, 1, ci 10), (2, 1, ci 4), (3, 1, ci 5)]), o 2 (.build zl0 [(0, 1, cs [113]), (1, 1, ci 20), (2, 1, ci 3), (3, 1, ci 9)]), o 3 (.build zl0 [(0, 1, cs [114]), (1, 1, ci 30), (2, 1, ci 1), (3, 1, ci 2)]), o 4 (.bslice true 4 zl0 3 [(0, .t 1), (1, .t 2), (2, .t 3)]), mt 0 4] [0])
 (.ret))⟩

def c92L0 : ACode :=
 .seq (.ops [o 8 (.bin .lss (.t 7) (.t 6))] [5, 6, 7, 8])
 (.seq (.cond (.t 8)
 (.skip)
 (.exit 0))
 (.seq (.block 1 (.seq (.ops [o 9 (.iadr 1 (.t 5) (.t 7)), o 10 (.ld false 1 (.t 9)), mt 4 10] [4, 5, 6, 7])
 (.seq (.ops [mt 11 4, o 12 (.bin .neq (.t 11) (ci 0))] [4, 5, 6, 7, 12])
 (.cond (.t 12)
 (.seq (.ops [mt 13 4, mt 2 13] [2])
 (.ret))
 (.skip)))))
 (.ops [o 14 (.bin .add (.t 7) (ci 1)), mt 7 14] [5, 6, 7])))
def c92 : AFunc := ⟨15, [.tmp 2],
 .seq (.ops [o 2 (.mv (ci 0))] [0])
 (.seq (.seq (.ops [mt 5 0, o 6 (.len 1 (.t 5)), o 7 (.mv (ci 0))] [5, 6, 7])
 (.block 0 (.loop false [5, 6, 7] c92L0)))
 (.seq (.ops [o 2 (.mv (ci 0))] [2])
 (.ret)))⟩

def c93 : AFunc := ⟨5, [.tmp 2],
 .seq (.ops [o 2 (.mv (ci 0))] [0])
 (.seq (.ops [mt 3 0, o 4 (.call true true 0 (.fn 95) [.t 3, ci 1, ci 64]), mt 2 4] [2])
 (.ret))⟩

def c94L0 : ACode :=
 .seq (.ops [o 11 (.bin .lss (.t 10) (.t 9))] [1, 5, 8, 9, 10, 11])
 (.seq (.cond (.t 11)
 (.skip)
 (.exit 0))
 (.seq (.block 1 (.seq (.ops [o 12 (.iadr 2 (.t 8) (.t 10)), o 13 (.ld true 2 (.t 12)), o 7 (.alloc true 1 zl2), u (.st 2 (.t 7) (.t 13))] [1, 5, 7, 8, 9, 10])
 (.seq (.seq (.ops [o 14 (.fadr 0 (.t 7)), o 15 (.ld false 1 (.t 14)), mt 16 1, o 17 (.bin .gtr (.t 15) (.t 16))] [1, 5, 7, 8, 9, 10, 17])
 (.cond (.t 17)
 (.exit 0)
 (.skip)))
 (.ops [o 18 (.fadr 1 (.t 7)), o 19 (.ld false 1 (.t 18)), mt 5 19] [1, 5, 8, 9, 10]))))
 (.ops [o 20 (.bin .add (.t 10) (ci 1)), mt 10 20] [1, 5, 8, 9, 10])))
def c94 : AFunc := ⟨22, [.tmp 4],
 .seq (.ops [o 4 (.mv (ci 0))] [0, 1])
 (.scope (.seq (.ops [o 5 (.mv (ci 0))] [0, 1, 5])
 (.seq (.skip)
 (.seq (.seq (.ops [mt 8 0, o 9 (.len 1 (.t 8)), o 10 (.mv (ci 0))] [1, 5, 8, 9, 10])
 (.block 0 (.loop true [1, 5, 8, 9, 10] c94L0)))
 (.seq (.ops [mt 21 5, mt 4 21] [4])
 (.ret))))))⟩

def c95 : AFunc := ⟨16, [.tmp 6],
 .seq (.ops [o 6 (.mv (ci 0))] [0, 1, 2])
 (.seq (.ops [mt 7 0, mt 8 1, o 9 (.bin .lss (.t 7) (.t 8)), mt 10 9, ⟨some 11, .mv (.t 0), some (10, false)⟩, ⟨some 12, .mv (.t 2), some (10, false)⟩, ⟨some 13, .bin .gtr (.t 11) (.t 12), some (10, false)⟩, o 14 (.pick (.t 10) (cb true) (.t 13)), o 15 (.call true true 0 (.fn 107) [.t 14, ci 3]), mt 6 15] [6])
 (.ret))⟩

def c96L0 : ACode :=
 .seq (.ops [o 15 (.bin .lss (.t 14) (.t 13))] [1, 2, 4, 9, 10, 13, 14, 15])
 (.seq (.cond (.t 15)
 (.skip)
 (.exit 0))
 (.seq (.block 1 (.seq (.ops [mt 16 14, mt 11 16] [1, 2, 4, 9, 10, 11, 13, 14])
 (.seq (.ops [mt 17 2, mt 18 1, mt 19 11, o 20 (.fadr 3 (.t 4)), o 21 (.ld false 1 (.t 20)), o 22 (.bin .sub (.t 19) (.t 21)), o 23 (.max [ci 0, .t 22]), o 24 (.call true true 0 (.fn 94) [.t 18, .t 23]), o 25 (.bin .mul (.t 17) (.t 24)), o 26 (.bin .quo (.t 25) (ci 100)), mt 12 26] [1, 2, 4, 9, 10, 12, 13, 14])
 (.seq (.ops [mt 27 10, mt 28 12, mt 29 10, o 30 (.bin .sub (.t 28) (.t 29)), o 31 (.fadr 2 (.t 4)), o 32 (.ld false 1 (.t 31)), o 33 (.call true true 0 (.fn 122) [.t 30, .t 32]), o 34 (.bin .add (.t 27) (.t 33)), mt 10 34] [1, 2, 4, 9, 10, 13, 14])
 (.ops [mt 35 9, mt 36 10, o 37 (.bslice false 1 zl4 1 [(0, .t 36)]), o 38 (.app 1 8 zl4 (.t 35) (.t 37)), mt 9 38] [1, 2, 4, 9, 10, 13, 14])))))
 (.ops [o 39 (.bin .add (.t 14) (ci 1)), mt 14 39] [1, 2, 4, 9, 10, 13, 14])))
def c96 : AFunc := ⟨41, [.tmp 8],
 .seq (.ops [o 4 (.box true (.t 0)), o 8 (.mv (cn))] [1, 2, 3, 4])
 (.seq (.ops [o 9 (.nilown 1)] [1, 2, 3, 4, 9])
 (.seq (.ops [o 10 (.mv (ci 0))] [1, 2, 3, 4, 9, 10])
 (.seq (.seq (.ops [mt 13 3, o 14 (.mv (ci 0))] [1, 2, 4, 9, 10, 13, 14])
 (.block 0 (.loop false [1, 2, 4, 9, 10, 13, 14] c96L0)))
 (.seq (.ops [mt 40 9, mt 8 40] [8])
 (.ret)))))⟩

def c97L0 : ACode :=
 .seq (.ops [o 27 (.bin .lss (.t 26) (.t 25))] [7, 8, 24, 25, 26, 27])
 (.seq (.cond (.t 27)
 (.skip)
 (.exit 0))
 (.seq (.block 1 (.seq (.ops [mt 28 26, o 29 (.iadr 1 (.t 24) (.t 26)), o 30 (.ld false 1 (.t 29)), mt 9 28, mt 10 30] [7, 8, 9, 10, 24, 25, 26])
 (.ops [mt 31 7, mt 32 10, mt 33 8, mt 34 9, o 35 (.iadr 1 (.t 33) (.t 34)), o 36 (.ld false 1 (.t 35)), o 37 (.build zl2 [(0, 1, .t 32), (1, 1, .t 36)]), o 38 (.bslice false 2 zl2 1 [(0, .t 37)]), o 39 (.app 2 16 zl2 (.t 31) (.t 38)), mt 7 39] [7, 8, 24, 25, 26])))
 (.ops [o 40 (.bin .add (.t 26) (ci 1)), mt 26 40] [7, 8, 24, 25, 26])))
def c97 : AFunc := ⟨42, [.tmp 6],
 .seq (.ops [o 3 (.box true (.t 0)), o 6 (.mv (cn))] [1, 2, 3])
 (.seq (.ops [o 7 (.nilown 2)] [1, 2, 3, 7])
 (.seq (.ops [o 11 (.ld true 5 (.t 3)), mt 12 1, o 13 (.fadr 0 (.t 3)), o 14 (.fadr 1 (.t 13)), o 15 (.ld false 1 (.t 14)), mt 16 2, o 17 (.call true false 0 (.fn 96) [.t 11, .t 12, .t 15, .t 16]), mt 8 17] [1, 2, 3, 7, 8])
 (.seq (.seq (.ops [o 18 (.ld true 5 (.t 3)), mt 19 1, o 20 (.fadr 0 (.t 3)), o 21 (.fadr 0 (.t 20)), o 22 (.ld false 1 (.t 21)), mt 23 2, o 24 (.call true false 0 (.fn 96) [.t 18, .t 19, .t 22, .t 23]), o 25 (.len 1 (.t 24)), o 26 (.mv (ci 0))] [7, 8, 24, 25, 26])
 (.block 0 (.loop false [7, 8, 24, 25, 26] c97L0)))
 (.seq (.ops [mt 41 7, mt 6 41] [6])
 (.ret)))))⟩

end Fw
