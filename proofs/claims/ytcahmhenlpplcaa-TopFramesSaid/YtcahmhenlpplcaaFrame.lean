/-
  The frame of the turns' loop.
-/
import Derived.Test.YtcahmhenlpplcaaState
namespace Go.Proofs.Ytcahmhenlpplcaa
open Go.RowKit
set_option maxRecDepth 100000
/-- The first slots are given, the others hold anything. -/
def At5 (v0 v1 v2 v3 v4 v5 v6 v7 v8 v9 v10 : Value) (ds : List Deferred) (a : Act) : Prop :=
  ∃ (u11 u12 u13 u14 u15 u16 u17 u18 u19 u20 u21 u22 u23 u24 u25 u26 u27 u28 u29 u30 u31 u32 u33 u34 
    u35 u36 u37 u38 u39 u40 u41 u42 u43 u44 u45 u46 u47 u48 u49 u50 u51 u52 u53 u54 u55 u56 u57 u58 
    u59 u60 u61 u62 u63 u64 u65 u66 u67 u68 u69 u70 u71 u72 u73 u74 u75 u76 u77 u78 u79 u80 u81 u82 
    u83 u84 u85 u86 u87 u88 u89 u90 u91 u92 u93 u94 u95 u96 u97 u98 u99 u100 u101 u102 u103 u104 u105 u106 
    u107 u108 u109 u110 u111 u112 u113 u114 u115 u116 u117 u118 u119 u120 u121 u122 u123 u124 u125 u126 u127 u128 u129 u130 
    u131 u132 u133 u134 u135 u136 u137 u138 u139 u140 u141 u142 u143 u144 u145 u146 u147 u148 u149 u150 u151 u152 u153 u154 
    u155 u156 u157 u158 u159 u160 u161 u162 u163 u164 u165 u166 u167 u168 u169 u170 u171 u172 u173 u174 u175 u176 u177 u178 
    u179 u180 u181 u182 u183 u184 u185 u186 u187 u188 u189 u190 u191 u192 u193 u194 u195 u196 u197 u198 u199 u200 u201 u202 
    u203 u204 u205 u206 u207 u208 u209 u210 u211 u212 u213 u214 u215 u216 u217 u218 u219 u220 u221 u222 u223 u224 u225 u226 
    u227 u228 u229 u230 u231 u232 u233 u234 u235 u236 u237 u238 u239 u240 u241 u242 u243 u244 u245 u246 u247 u248 u249 u250 
    u251 u252 u253 u254 u255 u256 u257 u258 u259 u260 u261 u262 u263 u264 u265 u266 u267 u268 u269 u270 u271 u272 u273 u274 
    u275 u276 u277 u278 u279 u280 u281 u282 u283 u284 u285 u286 u287 u288 u289 u290 u291 u292 u293 u294 u295 u296 u297 u298 
    u299 u300 u301 u302 u303 u304 u305 u306 u307 u308 u309 u310 u311 u312 u313 u314 u315 u316 u317 u318 u319 u320 u321 u322 
    u323 u324 u325 u326 u327 u328 u329 u330 u331 u332 u333 u334 u335 u336 u337 u338 u339 u340 u341 u342 u343 u344 u345 u346 
    u347 u348 u349 u350 u351 u352 u353 u354 u355 u356 u357 u358 u359 u360 u361 u362 u363 u364 u365 u366 u367 u368 u369 u370 
    u371 u372 u373 u374 u375 u376 u377 u378 u379 u380 u381 u382 u383 u384 u385 u386 u387 u388 u389 u390 u391 u392 u393 u394 
    u395 u396 u397 u398 u399 u400 u401 u402 u403 u404 u405 u406 u407 u408 u409 u410 u411 u412 u413 u414 u415 u416 u417 u418 
    u419 u420 u421 u422 u423 u424 u425 u426 u427 u428 u429 u430 u431 u432 u433 u434 u435 u436 u437 u438 u439 u440 u441 u442 
    u443 u444 u445 u446 u447 u448 u449 u450 u451 u452 u453 u454 u455 u456 u457 u458 u459 u460 u461 u462 u463 u464 u465 u466 
    u467 u468 u469 u470 u471 u472 u473 u474 u475 u476 u477 u478 u479 u480 u481 u482 u483 u484 u485 u486 u487 u488 u489 u490 
    u491 u492 u493 u494 u495 u496 u497 u498 u499 u500 u501 u502 u503 u504 u505 u506 u507 u508 u509 u510 u511 u512 u513 u514 
    u515 u516 u517 u518 u519 u520 u521 u522 u523 u524 u525 u526 u527 u528 u529 u530 u531 u532 u533 u534 u535 u536 u537 u538 
    u539 u540 u541 : Value), a = { tmps := #[v0, v1, v2, v3, v4, v5, v6, v7, v8, v9, v10, u11, u12, u13, u14, u15, u16, u17, u18, u19, u20, u21, u22, u23, 
    u24, u25, u26, u27, u28, u29, u30, u31, u32, u33, u34, u35, u36, u37, u38, u39, u40, u41, u42, u43, u44, u45, u46, u47, 
    u48, u49, u50, u51, u52, u53, u54, u55, u56, u57, u58, u59, u60, u61, u62, u63, u64, u65, u66, u67, u68, u69, u70, u71, 
    u72, u73, u74, u75, u76, u77, u78, u79, u80, u81, u82, u83, u84, u85, u86, u87, u88, u89, u90, u91, u92, u93, u94, u95, 
    u96, u97, u98, u99, u100, u101, u102, u103, u104, u105, u106, u107, u108, u109, u110, u111, u112, u113, u114, u115, u116, u117, u118, u119, 
    u120, u121, u122, u123, u124, u125, u126, u127, u128, u129, u130, u131, u132, u133, u134, u135, u136, u137, u138, u139, u140, u141, u142, u143, 
    u144, u145, u146, u147, u148, u149, u150, u151, u152, u153, u154, u155, u156, u157, u158, u159, u160, u161, u162, u163, u164, u165, u166, u167, 
    u168, u169, u170, u171, u172, u173, u174, u175, u176, u177, u178, u179, u180, u181, u182, u183, u184, u185, u186, u187, u188, u189, u190, u191, 
    u192, u193, u194, u195, u196, u197, u198, u199, u200, u201, u202, u203, u204, u205, u206, u207, u208, u209, u210, u211, u212, u213, u214, u215, 
    u216, u217, u218, u219, u220, u221, u222, u223, u224, u225, u226, u227, u228, u229, u230, u231, u232, u233, u234, u235, u236, u237, u238, u239, 
    u240, u241, u242, u243, u244, u245, u246, u247, u248, u249, u250, u251, u252, u253, u254, u255, u256, u257, u258, u259, u260, u261, u262, u263, 
    u264, u265, u266, u267, u268, u269, u270, u271, u272, u273, u274, u275, u276, u277, u278, u279, u280, u281, u282, u283, u284, u285, u286, u287, 
    u288, u289, u290, u291, u292, u293, u294, u295, u296, u297, u298, u299, u300, u301, u302, u303, u304, u305, u306, u307, u308, u309, u310, u311, 
    u312, u313, u314, u315, u316, u317, u318, u319, u320, u321, u322, u323, u324, u325, u326, u327, u328, u329, u330, u331, u332, u333, u334, u335, 
    u336, u337, u338, u339, u340, u341, u342, u343, u344, u345, u346, u347, u348, u349, u350, u351, u352, u353, u354, u355, u356, u357, u358, u359, 
    u360, u361, u362, u363, u364, u365, u366, u367, u368, u369, u370, u371, u372, u373, u374, u375, u376, u377, u378, u379, u380, u381, u382, u383, 
    u384, u385, u386, u387, u388, u389, u390, u391, u392, u393, u394, u395, u396, u397, u398, u399, u400, u401, u402, u403, u404, u405, u406, u407, 
    u408, u409, u410, u411, u412, u413, u414, u415, u416, u417, u418, u419, u420, u421, u422, u423, u424, u425, u426, u427, u428, u429, u430, u431, 
    u432, u433, u434, u435, u436, u437, u438, u439, u440, u441, u442, u443, u444, u445, u446, u447, u448, u449, u450, u451, u452, u453, u454, u455, 
    u456, u457, u458, u459, u460, u461, u462, u463, u464, u465, u466, u467, u468, u469, u470, u471, u472, u473, u474, u475, u476, u477, u478, u479, 
    u480, u481, u482, u483, u484, u485, u486, u487, u488, u489, u490, u491, u492, u493, u494, u495, u496, u497, u498, u499, u500, u501, u502, u503, 
    u504, u505, u506, u507, u508, u509, u510, u511, u512, u513, u514, u515, u516, u517, u518, u519, u520, u521, u522, u523, u524, u525, u526, u527, 
    u528, u529, u530, u531, u532, u533, u534, u535, u536, u537, u538, u539, u540, u541], defers := ds }
theorem At5.intro {v0 v1 v2 v3 v4 v5 v6 v7 v8 v9 v10 u11 u12 u13 u14 u15 u16 u17 u18 u19 u20 u21 u22 u23 
    u24 u25 u26 u27 u28 u29 u30 u31 u32 u33 u34 u35 u36 u37 u38 u39 u40 u41 u42 u43 u44 u45 u46 u47 
    u48 u49 u50 u51 u52 u53 u54 u55 u56 u57 u58 u59 u60 u61 u62 u63 u64 u65 u66 u67 u68 u69 u70 u71 
    u72 u73 u74 u75 u76 u77 u78 u79 u80 u81 u82 u83 u84 u85 u86 u87 u88 u89 u90 u91 u92 u93 u94 u95 
    u96 u97 u98 u99 u100 u101 u102 u103 u104 u105 u106 u107 u108 u109 u110 u111 u112 u113 u114 u115 u116 u117 u118 u119 
    u120 u121 u122 u123 u124 u125 u126 u127 u128 u129 u130 u131 u132 u133 u134 u135 u136 u137 u138 u139 u140 u141 u142 u143 
    u144 u145 u146 u147 u148 u149 u150 u151 u152 u153 u154 u155 u156 u157 u158 u159 u160 u161 u162 u163 u164 u165 u166 u167 
    u168 u169 u170 u171 u172 u173 u174 u175 u176 u177 u178 u179 u180 u181 u182 u183 u184 u185 u186 u187 u188 u189 u190 u191 
    u192 u193 u194 u195 u196 u197 u198 u199 u200 u201 u202 u203 u204 u205 u206 u207 u208 u209 u210 u211 u212 u213 u214 u215 
    u216 u217 u218 u219 u220 u221 u222 u223 u224 u225 u226 u227 u228 u229 u230 u231 u232 u233 u234 u235 u236 u237 u238 u239 
    u240 u241 u242 u243 u244 u245 u246 u247 u248 u249 u250 u251 u252 u253 u254 u255 u256 u257 u258 u259 u260 u261 u262 u263 
    u264 u265 u266 u267 u268 u269 u270 u271 u272 u273 u274 u275 u276 u277 u278 u279 u280 u281 u282 u283 u284 u285 u286 u287 
    u288 u289 u290 u291 u292 u293 u294 u295 u296 u297 u298 u299 u300 u301 u302 u303 u304 u305 u306 u307 u308 u309 u310 u311 
    u312 u313 u314 u315 u316 u317 u318 u319 u320 u321 u322 u323 u324 u325 u326 u327 u328 u329 u330 u331 u332 u333 u334 u335 
    u336 u337 u338 u339 u340 u341 u342 u343 u344 u345 u346 u347 u348 u349 u350 u351 u352 u353 u354 u355 u356 u357 u358 u359 
    u360 u361 u362 u363 u364 u365 u366 u367 u368 u369 u370 u371 u372 u373 u374 u375 u376 u377 u378 u379 u380 u381 u382 u383 
    u384 u385 u386 u387 u388 u389 u390 u391 u392 u393 u394 u395 u396 u397 u398 u399 u400 u401 u402 u403 u404 u405 u406 u407 
    u408 u409 u410 u411 u412 u413 u414 u415 u416 u417 u418 u419 u420 u421 u422 u423 u424 u425 u426 u427 u428 u429 u430 u431 
    u432 u433 u434 u435 u436 u437 u438 u439 u440 u441 u442 u443 u444 u445 u446 u447 u448 u449 u450 u451 u452 u453 u454 u455 
    u456 u457 u458 u459 u460 u461 u462 u463 u464 u465 u466 u467 u468 u469 u470 u471 u472 u473 u474 u475 u476 u477 u478 u479 
    u480 u481 u482 u483 u484 u485 u486 u487 u488 u489 u490 u491 u492 u493 u494 u495 u496 u497 u498 u499 u500 u501 u502 u503 
    u504 u505 u506 u507 u508 u509 u510 u511 u512 u513 u514 u515 u516 u517 u518 u519 u520 u521 u522 u523 u524 u525 u526 u527 
    u528 u529 u530 u531 u532 u533 u534 u535 u536 u537 u538 u539 u540 u541 : Value}
    {ds : List Deferred} : At5 v0 v1 v2 v3 v4 v5 v6 v7 v8 v9 v10 ds { tmps := #[v0, v1, v2, v3, v4, v5, v6, v7, v8, v9, v10, u11, u12, u13, u14, u15, u16, u17, u18, u19, u20, u21, u22, u23, 
    u24, u25, u26, u27, u28, u29, u30, u31, u32, u33, u34, u35, u36, u37, u38, u39, u40, u41, u42, u43, u44, u45, u46, u47, 
    u48, u49, u50, u51, u52, u53, u54, u55, u56, u57, u58, u59, u60, u61, u62, u63, u64, u65, u66, u67, u68, u69, u70, u71, 
    u72, u73, u74, u75, u76, u77, u78, u79, u80, u81, u82, u83, u84, u85, u86, u87, u88, u89, u90, u91, u92, u93, u94, u95, 
    u96, u97, u98, u99, u100, u101, u102, u103, u104, u105, u106, u107, u108, u109, u110, u111, u112, u113, u114, u115, u116, u117, u118, u119, 
    u120, u121, u122, u123, u124, u125, u126, u127, u128, u129, u130, u131, u132, u133, u134, u135, u136, u137, u138, u139, u140, u141, u142, u143, 
    u144, u145, u146, u147, u148, u149, u150, u151, u152, u153, u154, u155, u156, u157, u158, u159, u160, u161, u162, u163, u164, u165, u166, u167, 
    u168, u169, u170, u171, u172, u173, u174, u175, u176, u177, u178, u179, u180, u181, u182, u183, u184, u185, u186, u187, u188, u189, u190, u191, 
    u192, u193, u194, u195, u196, u197, u198, u199, u200, u201, u202, u203, u204, u205, u206, u207, u208, u209, u210, u211, u212, u213, u214, u215, 
    u216, u217, u218, u219, u220, u221, u222, u223, u224, u225, u226, u227, u228, u229, u230, u231, u232, u233, u234, u235, u236, u237, u238, u239, 
    u240, u241, u242, u243, u244, u245, u246, u247, u248, u249, u250, u251, u252, u253, u254, u255, u256, u257, u258, u259, u260, u261, u262, u263, 
    u264, u265, u266, u267, u268, u269, u270, u271, u272, u273, u274, u275, u276, u277, u278, u279, u280, u281, u282, u283, u284, u285, u286, u287, 
    u288, u289, u290, u291, u292, u293, u294, u295, u296, u297, u298, u299, u300, u301, u302, u303, u304, u305, u306, u307, u308, u309, u310, u311, 
    u312, u313, u314, u315, u316, u317, u318, u319, u320, u321, u322, u323, u324, u325, u326, u327, u328, u329, u330, u331, u332, u333, u334, u335, 
    u336, u337, u338, u339, u340, u341, u342, u343, u344, u345, u346, u347, u348, u349, u350, u351, u352, u353, u354, u355, u356, u357, u358, u359, 
    u360, u361, u362, u363, u364, u365, u366, u367, u368, u369, u370, u371, u372, u373, u374, u375, u376, u377, u378, u379, u380, u381, u382, u383, 
    u384, u385, u386, u387, u388, u389, u390, u391, u392, u393, u394, u395, u396, u397, u398, u399, u400, u401, u402, u403, u404, u405, u406, u407, 
    u408, u409, u410, u411, u412, u413, u414, u415, u416, u417, u418, u419, u420, u421, u422, u423, u424, u425, u426, u427, u428, u429, u430, u431, 
    u432, u433, u434, u435, u436, u437, u438, u439, u440, u441, u442, u443, u444, u445, u446, u447, u448, u449, u450, u451, u452, u453, u454, u455, 
    u456, u457, u458, u459, u460, u461, u462, u463, u464, u465, u466, u467, u468, u469, u470, u471, u472, u473, u474, u475, u476, u477, u478, u479, 
    u480, u481, u482, u483, u484, u485, u486, u487, u488, u489, u490, u491, u492, u493, u494, u495, u496, u497, u498, u499, u500, u501, u502, u503, 
    u504, u505, u506, u507, u508, u509, u510, u511, u512, u513, u514, u515, u516, u517, u518, u519, u520, u521, u522, u523, u524, u525, u526, u527, 
    u528, u529, u530, u531, u532, u533, u534, u535, u536, u537, u538, u539, u540, u541], defers := ds } := by
  unfold At5
  iterate 531 apply Exists.intro
  rfl
theorem At5.all {v0 v1 v2 v3 v4 v5 v6 v7 v8 v9 v10 : Value} {ds : List Deferred} {M : Act → Prop}
    (k : ∀ (u11 u12 u13 u14 u15 u16 u17 u18 u19 u20 u21 u22 u23 u24 u25 u26 u27 u28 u29 u30 u31 u32 u33 u34 
    u35 u36 u37 u38 u39 u40 u41 u42 u43 u44 u45 u46 u47 u48 u49 u50 u51 u52 u53 u54 u55 u56 u57 u58 
    u59 u60 u61 u62 u63 u64 u65 u66 u67 u68 u69 u70 u71 u72 u73 u74 u75 u76 u77 u78 u79 u80 u81 u82 
    u83 u84 u85 u86 u87 u88 u89 u90 u91 u92 u93 u94 u95 u96 u97 u98 u99 u100 u101 u102 u103 u104 u105 u106 
    u107 u108 u109 u110 u111 u112 u113 u114 u115 u116 u117 u118 u119 u120 u121 u122 u123 u124 u125 u126 u127 u128 u129 u130 
    u131 u132 u133 u134 u135 u136 u137 u138 u139 u140 u141 u142 u143 u144 u145 u146 u147 u148 u149 u150 u151 u152 u153 u154 
    u155 u156 u157 u158 u159 u160 u161 u162 u163 u164 u165 u166 u167 u168 u169 u170 u171 u172 u173 u174 u175 u176 u177 u178 
    u179 u180 u181 u182 u183 u184 u185 u186 u187 u188 u189 u190 u191 u192 u193 u194 u195 u196 u197 u198 u199 u200 u201 u202 
    u203 u204 u205 u206 u207 u208 u209 u210 u211 u212 u213 u214 u215 u216 u217 u218 u219 u220 u221 u222 u223 u224 u225 u226 
    u227 u228 u229 u230 u231 u232 u233 u234 u235 u236 u237 u238 u239 u240 u241 u242 u243 u244 u245 u246 u247 u248 u249 u250 
    u251 u252 u253 u254 u255 u256 u257 u258 u259 u260 u261 u262 u263 u264 u265 u266 u267 u268 u269 u270 u271 u272 u273 u274 
    u275 u276 u277 u278 u279 u280 u281 u282 u283 u284 u285 u286 u287 u288 u289 u290 u291 u292 u293 u294 u295 u296 u297 u298 
    u299 u300 u301 u302 u303 u304 u305 u306 u307 u308 u309 u310 u311 u312 u313 u314 u315 u316 u317 u318 u319 u320 u321 u322 
    u323 u324 u325 u326 u327 u328 u329 u330 u331 u332 u333 u334 u335 u336 u337 u338 u339 u340 u341 u342 u343 u344 u345 u346 
    u347 u348 u349 u350 u351 u352 u353 u354 u355 u356 u357 u358 u359 u360 u361 u362 u363 u364 u365 u366 u367 u368 u369 u370 
    u371 u372 u373 u374 u375 u376 u377 u378 u379 u380 u381 u382 u383 u384 u385 u386 u387 u388 u389 u390 u391 u392 u393 u394 
    u395 u396 u397 u398 u399 u400 u401 u402 u403 u404 u405 u406 u407 u408 u409 u410 u411 u412 u413 u414 u415 u416 u417 u418 
    u419 u420 u421 u422 u423 u424 u425 u426 u427 u428 u429 u430 u431 u432 u433 u434 u435 u436 u437 u438 u439 u440 u441 u442 
    u443 u444 u445 u446 u447 u448 u449 u450 u451 u452 u453 u454 u455 u456 u457 u458 u459 u460 u461 u462 u463 u464 u465 u466 
    u467 u468 u469 u470 u471 u472 u473 u474 u475 u476 u477 u478 u479 u480 u481 u482 u483 u484 u485 u486 u487 u488 u489 u490 
    u491 u492 u493 u494 u495 u496 u497 u498 u499 u500 u501 u502 u503 u504 u505 u506 u507 u508 u509 u510 u511 u512 u513 u514 
    u515 u516 u517 u518 u519 u520 u521 u522 u523 u524 u525 u526 u527 u528 u529 u530 u531 u532 u533 u534 u535 u536 u537 u538 
    u539 u540 u541 : Value), M { tmps := #[v0, v1, v2, v3, v4, v5, v6, v7, v8, v9, v10, u11, u12, u13, u14, u15, u16, u17, u18, u19, u20, u21, u22, u23, 
    u24, u25, u26, u27, u28, u29, u30, u31, u32, u33, u34, u35, u36, u37, u38, u39, u40, u41, u42, u43, u44, u45, u46, u47, 
    u48, u49, u50, u51, u52, u53, u54, u55, u56, u57, u58, u59, u60, u61, u62, u63, u64, u65, u66, u67, u68, u69, u70, u71, 
    u72, u73, u74, u75, u76, u77, u78, u79, u80, u81, u82, u83, u84, u85, u86, u87, u88, u89, u90, u91, u92, u93, u94, u95, 
    u96, u97, u98, u99, u100, u101, u102, u103, u104, u105, u106, u107, u108, u109, u110, u111, u112, u113, u114, u115, u116, u117, u118, u119, 
    u120, u121, u122, u123, u124, u125, u126, u127, u128, u129, u130, u131, u132, u133, u134, u135, u136, u137, u138, u139, u140, u141, u142, u143, 
    u144, u145, u146, u147, u148, u149, u150, u151, u152, u153, u154, u155, u156, u157, u158, u159, u160, u161, u162, u163, u164, u165, u166, u167, 
    u168, u169, u170, u171, u172, u173, u174, u175, u176, u177, u178, u179, u180, u181, u182, u183, u184, u185, u186, u187, u188, u189, u190, u191, 
    u192, u193, u194, u195, u196, u197, u198, u199, u200, u201, u202, u203, u204, u205, u206, u207, u208, u209, u210, u211, u212, u213, u214, u215, 
    u216, u217, u218, u219, u220, u221, u222, u223, u224, u225, u226, u227, u228, u229, u230, u231, u232, u233, u234, u235, u236, u237, u238, u239, 
    u240, u241, u242, u243, u244, u245, u246, u247, u248, u249, u250, u251, u252, u253, u254, u255, u256, u257, u258, u259, u260, u261, u262, u263, 
    u264, u265, u266, u267, u268, u269, u270, u271, u272, u273, u274, u275, u276, u277, u278, u279, u280, u281, u282, u283, u284, u285, u286, u287, 
    u288, u289, u290, u291, u292, u293, u294, u295, u296, u297, u298, u299, u300, u301, u302, u303, u304, u305, u306, u307, u308, u309, u310, u311, 
    u312, u313, u314, u315, u316, u317, u318, u319, u320, u321, u322, u323, u324, u325, u326, u327, u328, u329, u330, u331, u332, u333, u334, u335, 
    u336, u337, u338, u339, u340, u341, u342, u343, u344, u345, u346, u347, u348, u349, u350, u351, u352, u353, u354, u355, u356, u357, u358, u359, 
    u360, u361, u362, u363, u364, u365, u366, u367, u368, u369, u370, u371, u372, u373, u374, u375, u376, u377, u378, u379, u380, u381, u382, u383, 
    u384, u385, u386, u387, u388, u389, u390, u391, u392, u393, u394, u395, u396, u397, u398, u399, u400, u401, u402, u403, u404, u405, u406, u407, 
    u408, u409, u410, u411, u412, u413, u414, u415, u416, u417, u418, u419, u420, u421, u422, u423, u424, u425, u426, u427, u428, u429, u430, u431, 
    u432, u433, u434, u435, u436, u437, u438, u439, u440, u441, u442, u443, u444, u445, u446, u447, u448, u449, u450, u451, u452, u453, u454, u455, 
    u456, u457, u458, u459, u460, u461, u462, u463, u464, u465, u466, u467, u468, u469, u470, u471, u472, u473, u474, u475, u476, u477, u478, u479, 
    u480, u481, u482, u483, u484, u485, u486, u487, u488, u489, u490, u491, u492, u493, u494, u495, u496, u497, u498, u499, u500, u501, u502, u503, 
    u504, u505, u506, u507, u508, u509, u510, u511, u512, u513, u514, u515, u516, u517, u518, u519, u520, u521, u522, u523, u524, u525, u526, u527, 
    u528, u529, u530, u531, u532, u533, u534, u535, u536, u537, u538, u539, u540, u541], defers := ds }) : ∀ a, At5 v0 v1 v2 v3 v4 v5 v6 v7 v8 v9 v10 ds a → M a := by
  intro a h
  obtain ⟨u11, h⟩ := h
  obtain ⟨u12, h⟩ := h
  obtain ⟨u13, h⟩ := h
  obtain ⟨u14, h⟩ := h
  obtain ⟨u15, h⟩ := h
  obtain ⟨u16, h⟩ := h
  obtain ⟨u17, h⟩ := h
  obtain ⟨u18, h⟩ := h
  obtain ⟨u19, h⟩ := h
  obtain ⟨u20, h⟩ := h
  obtain ⟨u21, h⟩ := h
  obtain ⟨u22, h⟩ := h
  obtain ⟨u23, h⟩ := h
  obtain ⟨u24, h⟩ := h
  obtain ⟨u25, h⟩ := h
  obtain ⟨u26, h⟩ := h
  obtain ⟨u27, h⟩ := h
  obtain ⟨u28, h⟩ := h
  obtain ⟨u29, h⟩ := h
  obtain ⟨u30, h⟩ := h
  obtain ⟨u31, h⟩ := h
  obtain ⟨u32, h⟩ := h
  obtain ⟨u33, h⟩ := h
  obtain ⟨u34, h⟩ := h
  obtain ⟨u35, h⟩ := h
  obtain ⟨u36, h⟩ := h
  obtain ⟨u37, h⟩ := h
  obtain ⟨u38, h⟩ := h
  obtain ⟨u39, h⟩ := h
  obtain ⟨u40, h⟩ := h
  obtain ⟨u41, h⟩ := h
  obtain ⟨u42, h⟩ := h
  obtain ⟨u43, h⟩ := h
  obtain ⟨u44, h⟩ := h
  obtain ⟨u45, h⟩ := h
  obtain ⟨u46, h⟩ := h
  obtain ⟨u47, h⟩ := h
  obtain ⟨u48, h⟩ := h
  obtain ⟨u49, h⟩ := h
  obtain ⟨u50, h⟩ := h
  obtain ⟨u51, h⟩ := h
  obtain ⟨u52, h⟩ := h
  obtain ⟨u53, h⟩ := h
  obtain ⟨u54, h⟩ := h
  obtain ⟨u55, h⟩ := h
  obtain ⟨u56, h⟩ := h
  obtain ⟨u57, h⟩ := h
  obtain ⟨u58, h⟩ := h
  obtain ⟨u59, h⟩ := h
  obtain ⟨u60, h⟩ := h
  obtain ⟨u61, h⟩ := h
  obtain ⟨u62, h⟩ := h
  obtain ⟨u63, h⟩ := h
  obtain ⟨u64, h⟩ := h
  obtain ⟨u65, h⟩ := h
  obtain ⟨u66, h⟩ := h
  obtain ⟨u67, h⟩ := h
  obtain ⟨u68, h⟩ := h
  obtain ⟨u69, h⟩ := h
  obtain ⟨u70, h⟩ := h
  obtain ⟨u71, h⟩ := h
  obtain ⟨u72, h⟩ := h
  obtain ⟨u73, h⟩ := h
  obtain ⟨u74, h⟩ := h
  obtain ⟨u75, h⟩ := h
  obtain ⟨u76, h⟩ := h
  obtain ⟨u77, h⟩ := h
  obtain ⟨u78, h⟩ := h
  obtain ⟨u79, h⟩ := h
  obtain ⟨u80, h⟩ := h
  obtain ⟨u81, h⟩ := h
  obtain ⟨u82, h⟩ := h
  obtain ⟨u83, h⟩ := h
  obtain ⟨u84, h⟩ := h
  obtain ⟨u85, h⟩ := h
  obtain ⟨u86, h⟩ := h
  obtain ⟨u87, h⟩ := h
  obtain ⟨u88, h⟩ := h
  obtain ⟨u89, h⟩ := h
  obtain ⟨u90, h⟩ := h
  obtain ⟨u91, h⟩ := h
  obtain ⟨u92, h⟩ := h
  obtain ⟨u93, h⟩ := h
  obtain ⟨u94, h⟩ := h
  obtain ⟨u95, h⟩ := h
  obtain ⟨u96, h⟩ := h
  obtain ⟨u97, h⟩ := h
  obtain ⟨u98, h⟩ := h
  obtain ⟨u99, h⟩ := h
  obtain ⟨u100, h⟩ := h
  obtain ⟨u101, h⟩ := h
  obtain ⟨u102, h⟩ := h
  obtain ⟨u103, h⟩ := h
  obtain ⟨u104, h⟩ := h
  obtain ⟨u105, h⟩ := h
  obtain ⟨u106, h⟩ := h
  obtain ⟨u107, h⟩ := h
  obtain ⟨u108, h⟩ := h
  obtain ⟨u109, h⟩ := h
  obtain ⟨u110, h⟩ := h
  obtain ⟨u111, h⟩ := h
  obtain ⟨u112, h⟩ := h
  obtain ⟨u113, h⟩ := h
  obtain ⟨u114, h⟩ := h
  obtain ⟨u115, h⟩ := h
  obtain ⟨u116, h⟩ := h
  obtain ⟨u117, h⟩ := h
  obtain ⟨u118, h⟩ := h
  obtain ⟨u119, h⟩ := h
  obtain ⟨u120, h⟩ := h
  obtain ⟨u121, h⟩ := h
  obtain ⟨u122, h⟩ := h
  obtain ⟨u123, h⟩ := h
  obtain ⟨u124, h⟩ := h
  obtain ⟨u125, h⟩ := h
  obtain ⟨u126, h⟩ := h
  obtain ⟨u127, h⟩ := h
  obtain ⟨u128, h⟩ := h
  obtain ⟨u129, h⟩ := h
  obtain ⟨u130, h⟩ := h
  obtain ⟨u131, h⟩ := h
  obtain ⟨u132, h⟩ := h
  obtain ⟨u133, h⟩ := h
  obtain ⟨u134, h⟩ := h
  obtain ⟨u135, h⟩ := h
  obtain ⟨u136, h⟩ := h
  obtain ⟨u137, h⟩ := h
  obtain ⟨u138, h⟩ := h
  obtain ⟨u139, h⟩ := h
  obtain ⟨u140, h⟩ := h
  obtain ⟨u141, h⟩ := h
  obtain ⟨u142, h⟩ := h
  obtain ⟨u143, h⟩ := h
  obtain ⟨u144, h⟩ := h
  obtain ⟨u145, h⟩ := h
  obtain ⟨u146, h⟩ := h
  obtain ⟨u147, h⟩ := h
  obtain ⟨u148, h⟩ := h
  obtain ⟨u149, h⟩ := h
  obtain ⟨u150, h⟩ := h
  obtain ⟨u151, h⟩ := h
  obtain ⟨u152, h⟩ := h
  obtain ⟨u153, h⟩ := h
  obtain ⟨u154, h⟩ := h
  obtain ⟨u155, h⟩ := h
  obtain ⟨u156, h⟩ := h
  obtain ⟨u157, h⟩ := h
  obtain ⟨u158, h⟩ := h
  obtain ⟨u159, h⟩ := h
  obtain ⟨u160, h⟩ := h
  obtain ⟨u161, h⟩ := h
  obtain ⟨u162, h⟩ := h
  obtain ⟨u163, h⟩ := h
  obtain ⟨u164, h⟩ := h
  obtain ⟨u165, h⟩ := h
  obtain ⟨u166, h⟩ := h
  obtain ⟨u167, h⟩ := h
  obtain ⟨u168, h⟩ := h
  obtain ⟨u169, h⟩ := h
  obtain ⟨u170, h⟩ := h
  obtain ⟨u171, h⟩ := h
  obtain ⟨u172, h⟩ := h
  obtain ⟨u173, h⟩ := h
  obtain ⟨u174, h⟩ := h
  obtain ⟨u175, h⟩ := h
  obtain ⟨u176, h⟩ := h
  obtain ⟨u177, h⟩ := h
  obtain ⟨u178, h⟩ := h
  obtain ⟨u179, h⟩ := h
  obtain ⟨u180, h⟩ := h
  obtain ⟨u181, h⟩ := h
  obtain ⟨u182, h⟩ := h
  obtain ⟨u183, h⟩ := h
  obtain ⟨u184, h⟩ := h
  obtain ⟨u185, h⟩ := h
  obtain ⟨u186, h⟩ := h
  obtain ⟨u187, h⟩ := h
  obtain ⟨u188, h⟩ := h
  obtain ⟨u189, h⟩ := h
  obtain ⟨u190, h⟩ := h
  obtain ⟨u191, h⟩ := h
  obtain ⟨u192, h⟩ := h
  obtain ⟨u193, h⟩ := h
  obtain ⟨u194, h⟩ := h
  obtain ⟨u195, h⟩ := h
  obtain ⟨u196, h⟩ := h
  obtain ⟨u197, h⟩ := h
  obtain ⟨u198, h⟩ := h
  obtain ⟨u199, h⟩ := h
  obtain ⟨u200, h⟩ := h
  obtain ⟨u201, h⟩ := h
  obtain ⟨u202, h⟩ := h
  obtain ⟨u203, h⟩ := h
  obtain ⟨u204, h⟩ := h
  obtain ⟨u205, h⟩ := h
  obtain ⟨u206, h⟩ := h
  obtain ⟨u207, h⟩ := h
  obtain ⟨u208, h⟩ := h
  obtain ⟨u209, h⟩ := h
  obtain ⟨u210, h⟩ := h
  obtain ⟨u211, h⟩ := h
  obtain ⟨u212, h⟩ := h
  obtain ⟨u213, h⟩ := h
  obtain ⟨u214, h⟩ := h
  obtain ⟨u215, h⟩ := h
  obtain ⟨u216, h⟩ := h
  obtain ⟨u217, h⟩ := h
  obtain ⟨u218, h⟩ := h
  obtain ⟨u219, h⟩ := h
  obtain ⟨u220, h⟩ := h
  obtain ⟨u221, h⟩ := h
  obtain ⟨u222, h⟩ := h
  obtain ⟨u223, h⟩ := h
  obtain ⟨u224, h⟩ := h
  obtain ⟨u225, h⟩ := h
  obtain ⟨u226, h⟩ := h
  obtain ⟨u227, h⟩ := h
  obtain ⟨u228, h⟩ := h
  obtain ⟨u229, h⟩ := h
  obtain ⟨u230, h⟩ := h
  obtain ⟨u231, h⟩ := h
  obtain ⟨u232, h⟩ := h
  obtain ⟨u233, h⟩ := h
  obtain ⟨u234, h⟩ := h
  obtain ⟨u235, h⟩ := h
  obtain ⟨u236, h⟩ := h
  obtain ⟨u237, h⟩ := h
  obtain ⟨u238, h⟩ := h
  obtain ⟨u239, h⟩ := h
  obtain ⟨u240, h⟩ := h
  obtain ⟨u241, h⟩ := h
  obtain ⟨u242, h⟩ := h
  obtain ⟨u243, h⟩ := h
  obtain ⟨u244, h⟩ := h
  obtain ⟨u245, h⟩ := h
  obtain ⟨u246, h⟩ := h
  obtain ⟨u247, h⟩ := h
  obtain ⟨u248, h⟩ := h
  obtain ⟨u249, h⟩ := h
  obtain ⟨u250, h⟩ := h
  obtain ⟨u251, h⟩ := h
  obtain ⟨u252, h⟩ := h
  obtain ⟨u253, h⟩ := h
  obtain ⟨u254, h⟩ := h
  obtain ⟨u255, h⟩ := h
  obtain ⟨u256, h⟩ := h
  obtain ⟨u257, h⟩ := h
  obtain ⟨u258, h⟩ := h
  obtain ⟨u259, h⟩ := h
  obtain ⟨u260, h⟩ := h
  obtain ⟨u261, h⟩ := h
  obtain ⟨u262, h⟩ := h
  obtain ⟨u263, h⟩ := h
  obtain ⟨u264, h⟩ := h
  obtain ⟨u265, h⟩ := h
  obtain ⟨u266, h⟩ := h
  obtain ⟨u267, h⟩ := h
  obtain ⟨u268, h⟩ := h
  obtain ⟨u269, h⟩ := h
  obtain ⟨u270, h⟩ := h
  obtain ⟨u271, h⟩ := h
  obtain ⟨u272, h⟩ := h
  obtain ⟨u273, h⟩ := h
  obtain ⟨u274, h⟩ := h
  obtain ⟨u275, h⟩ := h
  obtain ⟨u276, h⟩ := h
  obtain ⟨u277, h⟩ := h
  obtain ⟨u278, h⟩ := h
  obtain ⟨u279, h⟩ := h
  obtain ⟨u280, h⟩ := h
  obtain ⟨u281, h⟩ := h
  obtain ⟨u282, h⟩ := h
  obtain ⟨u283, h⟩ := h
  obtain ⟨u284, h⟩ := h
  obtain ⟨u285, h⟩ := h
  obtain ⟨u286, h⟩ := h
  obtain ⟨u287, h⟩ := h
  obtain ⟨u288, h⟩ := h
  obtain ⟨u289, h⟩ := h
  obtain ⟨u290, h⟩ := h
  obtain ⟨u291, h⟩ := h
  obtain ⟨u292, h⟩ := h
  obtain ⟨u293, h⟩ := h
  obtain ⟨u294, h⟩ := h
  obtain ⟨u295, h⟩ := h
  obtain ⟨u296, h⟩ := h
  obtain ⟨u297, h⟩ := h
  obtain ⟨u298, h⟩ := h
  obtain ⟨u299, h⟩ := h
  obtain ⟨u300, h⟩ := h
  obtain ⟨u301, h⟩ := h
  obtain ⟨u302, h⟩ := h
  obtain ⟨u303, h⟩ := h
  obtain ⟨u304, h⟩ := h
  obtain ⟨u305, h⟩ := h
  obtain ⟨u306, h⟩ := h
  obtain ⟨u307, h⟩ := h
  obtain ⟨u308, h⟩ := h
  obtain ⟨u309, h⟩ := h
  obtain ⟨u310, h⟩ := h
  obtain ⟨u311, h⟩ := h
  obtain ⟨u312, h⟩ := h
  obtain ⟨u313, h⟩ := h
  obtain ⟨u314, h⟩ := h
  obtain ⟨u315, h⟩ := h
  obtain ⟨u316, h⟩ := h
  obtain ⟨u317, h⟩ := h
  obtain ⟨u318, h⟩ := h
  obtain ⟨u319, h⟩ := h
  obtain ⟨u320, h⟩ := h
  obtain ⟨u321, h⟩ := h
  obtain ⟨u322, h⟩ := h
  obtain ⟨u323, h⟩ := h
  obtain ⟨u324, h⟩ := h
  obtain ⟨u325, h⟩ := h
  obtain ⟨u326, h⟩ := h
  obtain ⟨u327, h⟩ := h
  obtain ⟨u328, h⟩ := h
  obtain ⟨u329, h⟩ := h
  obtain ⟨u330, h⟩ := h
  obtain ⟨u331, h⟩ := h
  obtain ⟨u332, h⟩ := h
  obtain ⟨u333, h⟩ := h
  obtain ⟨u334, h⟩ := h
  obtain ⟨u335, h⟩ := h
  obtain ⟨u336, h⟩ := h
  obtain ⟨u337, h⟩ := h
  obtain ⟨u338, h⟩ := h
  obtain ⟨u339, h⟩ := h
  obtain ⟨u340, h⟩ := h
  obtain ⟨u341, h⟩ := h
  obtain ⟨u342, h⟩ := h
  obtain ⟨u343, h⟩ := h
  obtain ⟨u344, h⟩ := h
  obtain ⟨u345, h⟩ := h
  obtain ⟨u346, h⟩ := h
  obtain ⟨u347, h⟩ := h
  obtain ⟨u348, h⟩ := h
  obtain ⟨u349, h⟩ := h
  obtain ⟨u350, h⟩ := h
  obtain ⟨u351, h⟩ := h
  obtain ⟨u352, h⟩ := h
  obtain ⟨u353, h⟩ := h
  obtain ⟨u354, h⟩ := h
  obtain ⟨u355, h⟩ := h
  obtain ⟨u356, h⟩ := h
  obtain ⟨u357, h⟩ := h
  obtain ⟨u358, h⟩ := h
  obtain ⟨u359, h⟩ := h
  obtain ⟨u360, h⟩ := h
  obtain ⟨u361, h⟩ := h
  obtain ⟨u362, h⟩ := h
  obtain ⟨u363, h⟩ := h
  obtain ⟨u364, h⟩ := h
  obtain ⟨u365, h⟩ := h
  obtain ⟨u366, h⟩ := h
  obtain ⟨u367, h⟩ := h
  obtain ⟨u368, h⟩ := h
  obtain ⟨u369, h⟩ := h
  obtain ⟨u370, h⟩ := h
  obtain ⟨u371, h⟩ := h
  obtain ⟨u372, h⟩ := h
  obtain ⟨u373, h⟩ := h
  obtain ⟨u374, h⟩ := h
  obtain ⟨u375, h⟩ := h
  obtain ⟨u376, h⟩ := h
  obtain ⟨u377, h⟩ := h
  obtain ⟨u378, h⟩ := h
  obtain ⟨u379, h⟩ := h
  obtain ⟨u380, h⟩ := h
  obtain ⟨u381, h⟩ := h
  obtain ⟨u382, h⟩ := h
  obtain ⟨u383, h⟩ := h
  obtain ⟨u384, h⟩ := h
  obtain ⟨u385, h⟩ := h
  obtain ⟨u386, h⟩ := h
  obtain ⟨u387, h⟩ := h
  obtain ⟨u388, h⟩ := h
  obtain ⟨u389, h⟩ := h
  obtain ⟨u390, h⟩ := h
  obtain ⟨u391, h⟩ := h
  obtain ⟨u392, h⟩ := h
  obtain ⟨u393, h⟩ := h
  obtain ⟨u394, h⟩ := h
  obtain ⟨u395, h⟩ := h
  obtain ⟨u396, h⟩ := h
  obtain ⟨u397, h⟩ := h
  obtain ⟨u398, h⟩ := h
  obtain ⟨u399, h⟩ := h
  obtain ⟨u400, h⟩ := h
  obtain ⟨u401, h⟩ := h
  obtain ⟨u402, h⟩ := h
  obtain ⟨u403, h⟩ := h
  obtain ⟨u404, h⟩ := h
  obtain ⟨u405, h⟩ := h
  obtain ⟨u406, h⟩ := h
  obtain ⟨u407, h⟩ := h
  obtain ⟨u408, h⟩ := h
  obtain ⟨u409, h⟩ := h
  obtain ⟨u410, h⟩ := h
  obtain ⟨u411, h⟩ := h
  obtain ⟨u412, h⟩ := h
  obtain ⟨u413, h⟩ := h
  obtain ⟨u414, h⟩ := h
  obtain ⟨u415, h⟩ := h
  obtain ⟨u416, h⟩ := h
  obtain ⟨u417, h⟩ := h
  obtain ⟨u418, h⟩ := h
  obtain ⟨u419, h⟩ := h
  obtain ⟨u420, h⟩ := h
  obtain ⟨u421, h⟩ := h
  obtain ⟨u422, h⟩ := h
  obtain ⟨u423, h⟩ := h
  obtain ⟨u424, h⟩ := h
  obtain ⟨u425, h⟩ := h
  obtain ⟨u426, h⟩ := h
  obtain ⟨u427, h⟩ := h
  obtain ⟨u428, h⟩ := h
  obtain ⟨u429, h⟩ := h
  obtain ⟨u430, h⟩ := h
  obtain ⟨u431, h⟩ := h
  obtain ⟨u432, h⟩ := h
  obtain ⟨u433, h⟩ := h
  obtain ⟨u434, h⟩ := h
  obtain ⟨u435, h⟩ := h
  obtain ⟨u436, h⟩ := h
  obtain ⟨u437, h⟩ := h
  obtain ⟨u438, h⟩ := h
  obtain ⟨u439, h⟩ := h
  obtain ⟨u440, h⟩ := h
  obtain ⟨u441, h⟩ := h
  obtain ⟨u442, h⟩ := h
  obtain ⟨u443, h⟩ := h
  obtain ⟨u444, h⟩ := h
  obtain ⟨u445, h⟩ := h
  obtain ⟨u446, h⟩ := h
  obtain ⟨u447, h⟩ := h
  obtain ⟨u448, h⟩ := h
  obtain ⟨u449, h⟩ := h
  obtain ⟨u450, h⟩ := h
  obtain ⟨u451, h⟩ := h
  obtain ⟨u452, h⟩ := h
  obtain ⟨u453, h⟩ := h
  obtain ⟨u454, h⟩ := h
  obtain ⟨u455, h⟩ := h
  obtain ⟨u456, h⟩ := h
  obtain ⟨u457, h⟩ := h
  obtain ⟨u458, h⟩ := h
  obtain ⟨u459, h⟩ := h
  obtain ⟨u460, h⟩ := h
  obtain ⟨u461, h⟩ := h
  obtain ⟨u462, h⟩ := h
  obtain ⟨u463, h⟩ := h
  obtain ⟨u464, h⟩ := h
  obtain ⟨u465, h⟩ := h
  obtain ⟨u466, h⟩ := h
  obtain ⟨u467, h⟩ := h
  obtain ⟨u468, h⟩ := h
  obtain ⟨u469, h⟩ := h
  obtain ⟨u470, h⟩ := h
  obtain ⟨u471, h⟩ := h
  obtain ⟨u472, h⟩ := h
  obtain ⟨u473, h⟩ := h
  obtain ⟨u474, h⟩ := h
  obtain ⟨u475, h⟩ := h
  obtain ⟨u476, h⟩ := h
  obtain ⟨u477, h⟩ := h
  obtain ⟨u478, h⟩ := h
  obtain ⟨u479, h⟩ := h
  obtain ⟨u480, h⟩ := h
  obtain ⟨u481, h⟩ := h
  obtain ⟨u482, h⟩ := h
  obtain ⟨u483, h⟩ := h
  obtain ⟨u484, h⟩ := h
  obtain ⟨u485, h⟩ := h
  obtain ⟨u486, h⟩ := h
  obtain ⟨u487, h⟩ := h
  obtain ⟨u488, h⟩ := h
  obtain ⟨u489, h⟩ := h
  obtain ⟨u490, h⟩ := h
  obtain ⟨u491, h⟩ := h
  obtain ⟨u492, h⟩ := h
  obtain ⟨u493, h⟩ := h
  obtain ⟨u494, h⟩ := h
  obtain ⟨u495, h⟩ := h
  obtain ⟨u496, h⟩ := h
  obtain ⟨u497, h⟩ := h
  obtain ⟨u498, h⟩ := h
  obtain ⟨u499, h⟩ := h
  obtain ⟨u500, h⟩ := h
  obtain ⟨u501, h⟩ := h
  obtain ⟨u502, h⟩ := h
  obtain ⟨u503, h⟩ := h
  obtain ⟨u504, h⟩ := h
  obtain ⟨u505, h⟩ := h
  obtain ⟨u506, h⟩ := h
  obtain ⟨u507, h⟩ := h
  obtain ⟨u508, h⟩ := h
  obtain ⟨u509, h⟩ := h
  obtain ⟨u510, h⟩ := h
  obtain ⟨u511, h⟩ := h
  obtain ⟨u512, h⟩ := h
  obtain ⟨u513, h⟩ := h
  obtain ⟨u514, h⟩ := h
  obtain ⟨u515, h⟩ := h
  obtain ⟨u516, h⟩ := h
  obtain ⟨u517, h⟩ := h
  obtain ⟨u518, h⟩ := h
  obtain ⟨u519, h⟩ := h
  obtain ⟨u520, h⟩ := h
  obtain ⟨u521, h⟩ := h
  obtain ⟨u522, h⟩ := h
  obtain ⟨u523, h⟩ := h
  obtain ⟨u524, h⟩ := h
  obtain ⟨u525, h⟩ := h
  obtain ⟨u526, h⟩ := h
  obtain ⟨u527, h⟩ := h
  obtain ⟨u528, h⟩ := h
  obtain ⟨u529, h⟩ := h
  obtain ⟨u530, h⟩ := h
  obtain ⟨u531, h⟩ := h
  obtain ⟨u532, h⟩ := h
  obtain ⟨u533, h⟩ := h
  obtain ⟨u534, h⟩ := h
  obtain ⟨u535, h⟩ := h
  obtain ⟨u536, h⟩ := h
  obtain ⟨u537, h⟩ := h
  obtain ⟨u538, h⟩ := h
  obtain ⟨u539, h⟩ := h
  obtain ⟨u540, h⟩ := h
  obtain ⟨u541, h⟩ := h
  subst h
  exact k u11 u12 u13 u14 u15 u16 u17 u18 u19 u20 u21 u22 u23 u24 u25 u26 u27 u28 u29 u30 u31 u32 u33 u34 
    u35 u36 u37 u38 u39 u40 u41 u42 u43 u44 u45 u46 u47 u48 u49 u50 u51 u52 u53 u54 u55 u56 u57 u58 
    u59 u60 u61 u62 u63 u64 u65 u66 u67 u68 u69 u70 u71 u72 u73 u74 u75 u76 u77 u78 u79 u80 u81 u82 
    u83 u84 u85 u86 u87 u88 u89 u90 u91 u92 u93 u94 u95 u96 u97 u98 u99 u100 u101 u102 u103 u104 u105 u106 
    u107 u108 u109 u110 u111 u112 u113 u114 u115 u116 u117 u118 u119 u120 u121 u122 u123 u124 u125 u126 u127 u128 u129 u130 
    u131 u132 u133 u134 u135 u136 u137 u138 u139 u140 u141 u142 u143 u144 u145 u146 u147 u148 u149 u150 u151 u152 u153 u154 
    u155 u156 u157 u158 u159 u160 u161 u162 u163 u164 u165 u166 u167 u168 u169 u170 u171 u172 u173 u174 u175 u176 u177 u178 
    u179 u180 u181 u182 u183 u184 u185 u186 u187 u188 u189 u190 u191 u192 u193 u194 u195 u196 u197 u198 u199 u200 u201 u202 
    u203 u204 u205 u206 u207 u208 u209 u210 u211 u212 u213 u214 u215 u216 u217 u218 u219 u220 u221 u222 u223 u224 u225 u226 
    u227 u228 u229 u230 u231 u232 u233 u234 u235 u236 u237 u238 u239 u240 u241 u242 u243 u244 u245 u246 u247 u248 u249 u250 
    u251 u252 u253 u254 u255 u256 u257 u258 u259 u260 u261 u262 u263 u264 u265 u266 u267 u268 u269 u270 u271 u272 u273 u274 
    u275 u276 u277 u278 u279 u280 u281 u282 u283 u284 u285 u286 u287 u288 u289 u290 u291 u292 u293 u294 u295 u296 u297 u298 
    u299 u300 u301 u302 u303 u304 u305 u306 u307 u308 u309 u310 u311 u312 u313 u314 u315 u316 u317 u318 u319 u320 u321 u322 
    u323 u324 u325 u326 u327 u328 u329 u330 u331 u332 u333 u334 u335 u336 u337 u338 u339 u340 u341 u342 u343 u344 u345 u346 
    u347 u348 u349 u350 u351 u352 u353 u354 u355 u356 u357 u358 u359 u360 u361 u362 u363 u364 u365 u366 u367 u368 u369 u370 
    u371 u372 u373 u374 u375 u376 u377 u378 u379 u380 u381 u382 u383 u384 u385 u386 u387 u388 u389 u390 u391 u392 u393 u394 
    u395 u396 u397 u398 u399 u400 u401 u402 u403 u404 u405 u406 u407 u408 u409 u410 u411 u412 u413 u414 u415 u416 u417 u418 
    u419 u420 u421 u422 u423 u424 u425 u426 u427 u428 u429 u430 u431 u432 u433 u434 u435 u436 u437 u438 u439 u440 u441 u442 
    u443 u444 u445 u446 u447 u448 u449 u450 u451 u452 u453 u454 u455 u456 u457 u458 u459 u460 u461 u462 u463 u464 u465 u466 
    u467 u468 u469 u470 u471 u472 u473 u474 u475 u476 u477 u478 u479 u480 u481 u482 u483 u484 u485 u486 u487 u488 u489 u490 
    u491 u492 u493 u494 u495 u496 u497 u498 u499 u500 u501 u502 u503 u504 u505 u506 u507 u508 u509 u510 u511 u512 u513 u514 
    u515 u516 u517 u518 u519 u520 u521 u522 u523 u524 u525 u526 u527 u528 u529 u530 u531 u532 u533 u534 u535 u536 u537 u538 
    u539 u540 u541
end Go.Proofs.Ytcahmhenlpplcaa
