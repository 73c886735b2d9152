/-
  The turns: a queue and a window answer as what is written down beside them.
-/
import Derived.Test.YtcahmhenlpplcaaTurn
namespace Go.Proofs.Ytcahmhenlpplcaa
open Go.RowKit
set_option maxRecDepth 100000
attribute [local go_sem] Oper.semAt_some

set_option maxHeartbeats 8000000 in
theorem pushed23_any (room : Int) (lv : Value) (ys : List Turn) (w : World) (h0 : 0 ≤ room) (h1 : room ≤ 60) (hy : ys.length ≤ 60) (hr : Reads w.heap.size w lv ys) :
    Calls Try.prog 5 #[.int .i64 room, lv] w (Ends fun e w' => e = .returned (.tuple #[.int .u64 (runTurns room 0 ys St.start).gone, .bool true]) ∧ Below w.heap.size w w') := by
  obtain ⟨A, c, rfl, hr2⟩ := id hr
  have HR := Lib.hid hr
  clear hr hr2
  refine callsIn_wide.1 (callsIn_of_wp_marks (n := 0) Try.func5 rfl trivial (wpIn_wide.2 ?_) rfl)
  simp only [Try.ntmps5, List.size_toArray, List.length_cons, List.length_nil, Nat.reduceAdd, Nat.reduceSub, Array.replicate_succ, Array.replicate_zero, List.push_toArray, List.append_toArray, List.nil_append, List.cons_append]
  go_wp2_with (first | (go_at_call 6; go_must (refine (oqNew_any room _ h0 (by omega)).mono ?_; rintro e w1 ⟨bq, cq, rfl, hb, hc, ho, hk⟩; have B1 := Lib.hid hb; have C1 := Lib.hid hc; have O1 := Lib.hid ho; have K1 := Lib.hid hk; clear hb hc ho hk)) | (go_at_call 7; go_must (refine (wNew_any _).mono ?_; rintro e w2 ⟨rfl, hw⟩; have W2 := Lib.hid hw; clear hw)) | (go_at_call 8; refine (num_any _ _).mono ?_; rintro e w' ⟨rfl, rfl⟩))
  have hA : ∃ Ad : Adr, Ad = { b4 := w.heap.size, b5 := w.heap.size + 1, b9 := w2.heap.size + 1, bx := w2.heap.size, bq := bq, cq := cq, bw := w1.heap.size } := ⟨_, rfl⟩
  obtain ⟨Ad, hAd⟩ := hA
  refine wp_loop (fun a W => ∃ (i : Nat) (ds : List Deferred) (st : St), i ≤ ys.length ∧ At5 (.int .i64 room) (.slice A ys.length c) undef undef (.pointer (some ⟨Ad.b4, 0, none⟩)) (.pointer (some ⟨Ad.b5, 0, none⟩)) (.pointer (some ⟨Ad.bq, 0, none⟩)) (.int .i64 0) (.pointer (some ⟨Ad.bw, 0, none⟩)) (.pointer (some ⟨Ad.b9, 0, none⟩)) (.int .i64 i) ds a ∧
      Marks w.heap.size W ds ∧ PInv Ad w.heap.size w room i st W ∧ runTurns room i (ys.drop i) st = runTurns room 0 ys St.start) (fun a _ => ys.length - (intOf (a.tmps.getD 10 undef)).toNat) ?_ ?_
  · refine ⟨0, [], St.start, Nat.zero_le _, ?_, Marks.nil _ _, ?_, rfl⟩
    · rw [hAd]
      exact At5.intro
    · refine ⟨⟨⟨by simp [St.start], by simp [St.start], fun _ => rfl⟩, by simp [St.start], by simp [St.waits, St.start, total, h0], by decide, by decide, by decide, by decide⟩, ⟨.slice none 0 0, .slice none 0 0, .slice none 0 0, [], [], 0, 0⟩, ?_⟩
      have hB := B1.out
      have hC := C1.out
      have hK := K1.out
      have hO := O1.out
      simp only [World.size_alloc] at hB hC hK
      have hw := W2.out
      subst hw
      subst hAd
      exact start_inv hO hB hC hK
  · clear hAd B1 C1 O1 K1 W2
    rintro a W ⟨i, ds, st, hi, hat, hm, hp, hrun⟩
    revert hat
    revert a
    refine At5.all ?_
    intro u11 u12 u13 u14 u15 u16 u17 u18 u19 u20 u21 u22 u23 u24 u25 u26 u27 u28 u29 u30 u31 u32 u33 u34 u35 u36 u37 u38 u39 u40 u41 u42 u43 u44 u45 u46 u47 u48 u49 u50 u51 u52 u53 u54 u55 u56 u57 u58 u59 u60 u61 u62 u63 u64 u65 u66 u67 u68 u69 u70 u71 u72 u73 u74 u75 u76 u77 u78 u79 u80 u81 u82 u83 u84 u85 u86 u87 u88 u89 u90 u91 u92 u93 u94 u95 u96 u97 u98 u99 u100 u101 u102 u103 u104 u105 u106 u107 u108 u109 u110 u111 u112 u113 u114 u115 u116 u117 u118 u119 u120 u121 u122 u123 u124 u125 u126 u127 u128 u129 u130 u131 u132 u133 u134 u135 u136 u137 u138 u139 u140 u141 u142 u143 u144 u145 u146 u147 u148 u149 u150 u151 u152 u153 u154 u155 u156 u157 u158 u159 u160 u161 u162 u163 u164 u165 u166 u167 u168 u169 u170 u171 u172 u173 u174 u175 u176 u177 u178 u179 u180 u181 u182 u183 u184 u185 u186 u187 u188 u189 u190 u191 u192 u193 u194 u195 u196 u197 u198 u199 u200 u201 u202 u203 u204 u205 u206 u207 u208 u209 u210 u211 u212 u213 u214 u215 u216 u217 u218 u219 u220 u221 u222 u223 u224 u225 u226 u227 u228 u229 u230 u231 u232 u233 u234 u235 u236 u237 u238 u239 u240 u241 u242 u243 u244 u245 u246 u247 u248 u249 u250 u251 u252 u253 u254 u255 u256 u257 u258 u259 u260 u261 u262 u263 u264 u265 u266 u267 u268 u269 u270 u271 u272 u273 u274 u275 u276 u277 u278 u279 u280 u281 u282 u283 u284 u285 u286 u287 u288 u289 u290 u291 u292 u293 u294 u295 u296 u297 u298 u299 u300 u301 u302 u303 u304 u305 u306 u307 u308 u309 u310 u311 u312 u313 u314 u315 u316 u317 u318 u319 u320 u321 u322 u323 u324 u325 u326 u327 u328 u329 u330 u331 u332 u333 u334 u335 u336 u337 u338 u339 u340 u341 u342 u343 u344 u345 u346 u347 u348 u349 u350 u351 u352 u353 u354 u355 u356 u357 u358 u359 u360 u361 u362 u363 u364 u365 u366 u367 u368 u369 u370 u371 u372 u373 u374 u375 u376 u377 u378 u379 u380 u381 u382 u383 u384 u385 u386 u387 u388 u389 u390 u391 u392 u393 u394 u395 u396 u397 u398 u399 u400 u401 u402 u403 u404 u405 u406 u407 u408 u409 u410 u411 u412 u413 u414 u415 u416 u417 u418 u419 u420 u421 u422 u423 u424 u425 u426 u427 u428 u429 u430 u431 u432 u433 u434 u435 u436 u437 u438 u439 u440 u441 u442 u443 u444 u445 u446 u447 u448 u449 u450 u451 u452 u453 u454 u455 u456 u457 u458 u459 u460 u461 u462 u463 u464 u465 u466 u467 u468 u469 u470 u471 u472 u473 u474 u475 u476 u477 u478 u479 u480 u481 u482 u483 u484 u485 u486 u487 u488 u489 u490 u491 u492 u493 u494 u495 u496 u497 u498 u499 u500 u501 u502 u503 u504 u505 u506 u507 u508 u509 u510 u511 u512 u513 u514 u515 u516 u517 u518 u519 u520 u521 u522 u523 u524 u525 u526 u527 u528 u529 u530 u531 u532 u533 u534 u535 u536 u537 u538 u539 u540 u541
    obtain ⟨hok, D, hpi⟩ := hp
    by_cases hlt : i < ys.length
    · obtain ⟨A0, c0, hAc, hcc, hrd0⟩ := HR.out.below hpi.bel
      obtain ⟨gl, off, hAg, hgl, hrd⟩ := hrd0 (by omega)
      injection hAc with hA1 _ hA2
      subst hA1
      subst hA2
      subst hAg
      obtain ⟨y, hyi⟩ : ∃ y, ys[i]? = some y := ⟨_, List.getElem?_eq_getElem hlt⟩
      obtain ⟨r0, r1, ⟨u, r2, hsu⟩, hk255, hn255, hl255⟩ := hrd i y hyi
      obtain ⟨Au, cu, rfl⟩ : ∃ Au cu, u = .slice Au y.lengths.length cu := by
        obtain ⟨Au, cu, hu, _⟩ := hsu
        exact ⟨Au, cu, hu⟩
      have HY := Lib.hid hyi
      have HM := Lib.hid hm
      have HM0 := Lib.hid hpi.bel.size
      have HP := Lib.hid hpi
      have HO := Lib.hid hok
      have HRU := Lib.hid hrun
      have HS := Lib.hid hsu
      have HL := Lib.hid hl255
      clear hrd hrd0 hyi hm hpi hok hrun hsu hl255
      go_upto_region 9 with fail
      go_cut [11] from 541 to 541 (fun p wx => ∃ b11, p = .pointer (some ⟨b11, 0, none⟩) ∧ Blk wx b11 30 #[.int .u8 y.kind, .int .u8 y.n, .slice Au y.lengths.length cu] ∧ Keep (fun k => W.heap.size ≤ k) W wx)
      case first =>
        go_wp2_with fail
        go_meet
        exact ⟨_, rfl, Blk.new _ _ _, (Keep.refl (fun k => W.heap.size ≤ k) W).alloc _⟩
      case rest =>
        obtain ⟨b11, rfl, hb11, hk11⟩ := hcut
        obtain ⟨hp1, hst1⟩ := HP.out.new_ hk11
        have HS1 := Lib.hid (HS.out.keep hk11 (fun k hk hlt => by omega))
        have p0 := hb11.cell 0
        have p1 := hb11.cell 1
        have p2 := hb11.cell 2
        have B11 := Lib.hid hb11
        have P1 := Lib.hid hp1
        have T1 := Lib.hid hst1
        clear hb11 hp1 hst1 hk11 HP HS r0 r1 r2
        generalize wc = W1 at *
        go_upto_block 2 with fail
        refine wp_cut (fun a wx => At5 (.int .i64 room) (.slice (some ⟨gl, off, none⟩) ys.length c) undef undef (.pointer (some ⟨Ad.b4, 0, none⟩)) (.pointer (some ⟨Ad.b5, 0, none⟩)) (.pointer (some ⟨Ad.bq, 0, none⟩)) (.int .i64 0) (.pointer (some ⟨Ad.bw, 0, none⟩)) (.pointer (some ⟨Ad.b9, 0, none⟩)) (.int .i64 i) ds a ∧
          Still W1 wx ∧ PInv Ad w.heap.size w room (i + 1) (st.step room i y) wx) ?rest ?first
        case first =>
          intro J K' hJ hK'
          have HJ := Lib.hid hJ
          clear hJ
          have hk8 : y.kind % 8 < 8 := Nat.mod_lt _ (by decide)
          by_cases hq6 : y.kind % 8 = 6
          · as_aux_lemma =>
            -- <k6>
            have hkm : (y.kind : Int) % 8 = 6 := by omega
            have c9 := P1.out.c9.cell 0
            by_cases hn3 : y.n < 3
            · have hn3i : ((y.n : Int) < 3) := by omega
              have HT := Lib.hid (oqTake_neg P1.out.oq ((y.n : Int) - 3) (by omega))
              go_wp2_with (first | (go_at_call 15; go_must (refine HT.out.mono ?_; rintro e w' ⟨rfl, rfl⟩)) | (go_at_call 8; refine (num_any _ _).mono ?_; rintro e w' ⟨rfl, rfl⟩))
              refine Met.intro (HJ.out _ _ ⟨At5.intro, Still.refl _, step_ok HO.out h0 h1 hn255, D, ?_⟩)
              rw [St.step_few hq6 hn3]
              exact P1.out.weak (by omega) (by omega)
            · have hn3i : ¬ ((y.n : Int) < 3) := by omega
              obtain ⟨T, hT⟩ : ∃ T, takeTo (y.n - 3) st.fr st.begun = T := ⟨_, rfl⟩
              obtain ⟨k1, k2, k3, k4⟩ := takeTo_eq st.fr (y.n - 3) st.begun HO.out.f
              rw [hT] at k1 k2 k3 k4
              have hbt : st.begun ≤ total st.fr := begun_le HO.out.f
              have hbe := begun_le19 HO.out.f HO.out.n
              have hwv := HO.out.w
              unfold St.waits at hwv
              have htf : total st.fr ≤ 1048576 := by omega
              have hll := P1.out.ll
              have hla := P1.out.la
              have hfl : D.lens.length - D.gI = st.fr.length := by
                have := congrArg List.length P1.out.hl
                simpa [lensOf] using this
              have hfl2 : st.fr.length ≤ 1048576 := by omega
              have halls : D.all.length - D.gB = total st.fr - st.begun := by
                have := congrArg List.length P1.out.ha
                rw [List.length_drop, List.length_drop, total_flatten] at this
                omega
              have hQ := oqTake_any P1.out.oq (by omega) (by omega) ((y.n : Int) - 3) (by omega) (by omega) (by rw [P1.out.hl]; exact fun p hp1 hp0 => goesTo_bd (lensOf_pos _) p hp0 hp1)
              rw [halls, P1.out.hl, P1.out.ha] at hQ
              have hdl : (st.fr.flatten.drop st.begun).length = total st.fr - st.begun := by rw [List.length_drop, total_flatten]
              have htk : tk ((y.n : Int) - 3) (total st.fr - st.begun) = min (y.n - 3) (total st.fr - st.begun) := by
                unfold tk
                omega
              have htl : T.1.length = min (y.n - 3) (total st.fr - st.begun) := by rw [k1, List.length_take, hdl]
              have htt : (st.fr.flatten.drop st.begun).take (min (y.n - 3) (total st.fr - st.begun)) = T.1 := by
                rw [k1, ← hdl]
                rcases Nat.le_total (y.n - 3) (st.fr.flatten.drop st.begun).length with h | h
                · rw [Nat.min_eq_left h]
                · rw [Nat.min_eq_right h, List.take_of_length_le (Nat.le_refl _), List.take_of_length_le h]
              have htd : (st.fr.flatten.drop st.begun).drop (min (y.n - 3) (total st.fr - st.begun)) = (st.fr.drop T.2.1).flatten.drop T.2.2 := by
                rw [k4, ← hdl]
                rcases Nat.le_total (y.n - 3) (st.fr.flatten.drop st.begun).length with h | h
                · rw [Nat.min_eq_left h]
                · rw [Nat.min_eq_right h, List.drop_of_length_le (Nat.le_refl _), List.drop_of_length_le h]
              rw [htk, show (st.begun : Int) + ((min (y.n - 3) (total st.fr - st.begun) : Nat) : Int) = ((st.begun + min (y.n - 3) (total st.fr - st.begun) : Nat) : Int) from by omega, k2, htt, htd, ← htl] at hQ
              have HQ := Lib.hid hQ
              have HTT := Lib.hid hT
              have HTL := Lib.hid htl
              have K3 := Lib.hid k3
              have K4 := Lib.hid k4
              clear hQ hdl htk htl htt htd k1 k2 k3 k4 hT
              go_wp2_with (first | (go_at_call 15; go_must (refine HQ.out.mono ?_; rintro e w3 ⟨r, rfl, hr, ho, hto⟩; obtain ⟨⟨D3, hp4⟩, hst4⟩ := P1.out.que_ hto; obtain ⟨A3, c3, rfl⟩ := hr.slice; obtain ⟨_, _, _, _, _, _, _, _, _, _, _, hkq, _⟩ := id hto; have p1 := (B11.out.keep hkq (P1.out.oq.ne_blk B11.out (by decide) (by decide) (by decide) (by decide))).cell 1; clear hkq; have c9 := hp4.c9.cell 0; have P4 := Lib.hid hp4; have T4 := Lib.hid hst4; have R3 := Lib.hid hr; have O3 := Lib.hid ho; have hc3 : ((y.n - 3 : Nat) : Int) = (y.n : Int) - 3 := (by omega); have hS := shTake_any hp4.she HO.out.f htf hfl2 (y.n - 3) (by omega) T HTT.out; rw [hc3] at hS; have HS2 := Lib.hid hS; clear hto hp4 hst4 hr ho hS hc3)) | (go_at_call 16; go_must (refine HS2.out.mono ?_; rintro e w5 ⟨r5, V5, rfl, hr5, ho5, hsh5, hV5, hk5⟩; obtain ⟨A5, c5, rfl⟩ := hr5.slice; have hr3 := R3.out.keep hk5 (fun k hk e => by have h1 := O3.out k hk; have h2 := P1.out.she.blk.lt; omega); have hs3 := run_str (hr3.sees (ok := fun _ => True) (fun _ _ => trivial)); have hs5 := run_str (hr5.sees (ok := fun _ => True) (fun _ _ => trivial)); have S5 := Lib.hid hsh5; have V5h := Lib.hid hV5; have K5 := Lib.hid hk5; clear hr5 ho5 hsh5 hV5 hk5 hr3)) | (go_at_call 8; refine (num_any _ _).mono ?_; rintro e w' ⟨rfl, rfl⟩))
              obtain ⟨⟨D6, hp6⟩, hst6⟩ := P4.out.she_ (V' := V5) (S5.out.mono (fun k hk hlt => ⟨hk, hlt, fun e => hk.2.2.1 (e.trans V5h.out)⟩) (fun e => e.1.2.1 rfl) (fun k hk e => e.2.2 hk)) (fun k hk => .inl (hk.trans V5h.out)) (K5.out.mono (fun k _ h => .inl h))
              refine Met.intro (HJ.out _ _ ⟨At5.intro, T4.out.trans hst6, step_ok HO.out h0 h1 hn255, D6, ?_⟩)
              rw [St.step_take hq6 hn3]
              simp only [St.take, HTT.out]
              have hdl : lensOf (st.fr.drop T.2.1) = (lensOf st.fr).drop T.2.1 := by simp [lensOf]
              rw [hdl]
              exact hp6.weak (by omega) (by omega)
            -- </k6>
          · by_cases hq3 : y.kind % 8 = 3 ∨ y.kind % 8 = 4
            · as_aux_lemma =>
              -- <k3>
              have c9 := P1.out.c9.cell 0
              have x3 := P1.out.she.blk.cell 3
              have x5 := P1.out.she.blk.cell 5
              have f3 := P1.out.she.blk.frozen 3
              have hl0 := HO.out.l0
              have hl1 := HO.out.l1
              have hb11x : b11 ≠ Ad.bx := Blk.ne B11.out P1.out.she.blk (by decide)
              go_upto_if 186 with fail
              go_cut [186] from 74 to 188 (fun v wx => v = .bool true ∧ wx = W1)
              case first =>
                rcases hq3 with h | h
                · have hkm : (y.kind : Int) % 8 = 3 := by omega
                  go_wp2_with fail
                  go_meet
                  exact ⟨rfl, rfl⟩
                · have hkm : (y.kind : Int) % 8 = 4 := by omega
                  go_wp2_with fail
                  go_meet
                  exact ⟨rfl, rfl⟩
              case rest =>
                obtain ⟨rfl, hw⟩ := hcut
                rw [hw]
                clear hw
                go_upto_if 193 with fail
                go_cut [] from 189 to 205 (fun wx => (∃ D', PI Ad D' w.heap.size w room (4 * i) (80 * i) (lensOf st.fr) (st.fr.flatten.drop st.begun) st.begun st.fr st.begun (granted st.sh st.left y.n) st.gone st.sh st.left st.gone st.sh wx) ∧ Still W1 wx ∧ Blk wx b11 30 #[.int .u8 y.kind, .int .u8 y.n, .slice Au y.lengths.length cu])
                case first =>
                  by_cases hsh : st.sh = true
                  · rw [hsh] at x5
                    have hx : (!st.sh) = false := by rw [hsh]; rfl
                    rw [hx]
                    clear hx
                    go_wp2_with fail
                    go_meet
                    rw [show granted st.sh st.left y.n = st.left from if_pos hsh]
                    exact ⟨⟨D, P1.out⟩, Still.refl _, B11.out⟩
                  · have hsh2 : st.sh = false := by simpa using hsh
                    rw [hsh2] at x5
                    have hx : (!st.sh) = true := by rw [hsh2]; rfl
                    rw [hx]
                    clear hsh hx
                    go_wp2_with fail
                    go_region
                    all_goals
                      go_wp2_with fail
                      go_meet
                      rw [show granted st.sh st.left y.n = min (st.left + y.n) 1099511627776 from (if_neg (by rw [hsh2]; decide)).trans (Int.min_comm _ _)]
                      obtain ⟨hp3, hst3⟩ := P1.out.cell_ (i := 3) (u := .int .u64 (min (st.left + (y.n : Int)) 1099511627776)) (begun' := st.begun) (left' := min (st.left + (y.n : Int)) 1099511627776) (gone' := st.gone) (sh' := st.sh) rfl
                      obtain ⟨hp4, hst4⟩ := hp3.new_ ((Keep.refl _ _).drew)
                      exact ⟨⟨D, hp4⟩, hst3.trans hst4, (B11.out.far hb11x _).drew⟩
                case rest =>
                  obtain ⟨⟨D', hp3⟩, hst3, hb3⟩ := hcut
                  have c9 := hp3.c9.cell 0
                  have x3 := hp3.she.blk.cell 3
                  have p1 := hb3.cell 1
                  have hG := wGrant_any hp3.wi y.n HO.out.l0 HO.out.l1 (by omega) (by omega)
                  have HG := Lib.hid hG
                  have P3 := Lib.hid hp3
                  have T3 := Lib.hid hst3
                  clear hp3 hst3 hb3 hG x5 f3
                  obtain ⟨gr, hgr⟩ : ∃ gr, granted st.sh st.left y.n = gr := ⟨_, rfl⟩
                  rw [hgr] at P3 x3 HG
                  have HGR := Lib.hid hgr
                  clear hgr
                  go_wp2_with (first | (go_at_call 12; go_must (refine HG.out.mono ?_; rintro e w3 ⟨rfl, hw, hk⟩; obtain ⟨hp4, hst4⟩ := P3.out.win_ hw hk; have c9 := hp4.c9.cell 0; have x3 := hp4.she.blk.cell 3; have P4 := Lib.hid hp4; have T4 := Lib.hid hst4; clear hw hk hp4 hst4)) | (go_at_call 8; refine (num_any _ _).mono ?_; rintro e w' ⟨rfl, rfl⟩))
                  refine Met.intro (HJ.out _ _ ⟨At5.intro, T3.out.trans T4.out, step_ok HO.out h0 h1 hn255, D', ?_⟩)
                  rw [St.step_grant hq3, HGR.out]
                  exact P4.out.weak (by omega) (by omega)
              -- </k3>
            · by_cases hq7 : y.kind % 8 = 7
              · as_aux_lemma =>
                -- <k7>
                have hkm : (y.kind : Int) % 8 = 7 := by omega
                have c9 := P1.out.c9.cell 0
                have x1 := P1.out.she.blk.cell 1
                have x3 := P1.out.she.blk.cell 3
                by_cases hn5 : y.n = 255
                · have hn5i : (y.n : Int) = 255 := by omega
                  have HT := Lib.hid (wShut_any P1.out.wi)
                  go_wp2_with (first | (go_at_call 17; go_must (refine HT.out.mono ?_; rintro e w3 ⟨rfl, hw, hk⟩; obtain ⟨hp4, hst4⟩ := P1.out.win_ hw hk; have c9 := hp4.c9.cell 0; have x3 := hp4.she.blk.cell 3; have f3 := hp4.she.blk.frozen 3; have x5 := hp4.she.blk.cell 5; have f5 := hp4.she.blk.frozen 5; have P4 := Lib.hid hp4; have T4 := Lib.hid hst4; clear hw hk hp4 hst4)))
                  go_region
                  all_goals
                    go_wp2_with fail
                    obtain ⟨hp5, hst5⟩ := P4.out.cell_ (i := 5) (u := .bool true) (begun' := st.begun) (left' := st.left) (gone' := st.gone) (sh' := true) rfl
                    obtain ⟨hp6, hst6⟩ := hp5.cell_ (i := 3) (u := .int .u64 0) (begun' := st.begun) (left' := 0) (gone' := st.gone) (sh' := true) rfl
                    obtain ⟨hp7, hst7⟩ := hp6.new_ ((Keep.refl _ _).drew)
                    refine Met.intro (HJ.out _ _ ⟨At5.intro, ((T4.out.trans hst5).trans hst6).trans hst7, step_ok HO.out h0 h1 hn255, D, ?_⟩)
                    rw [St.step_shut hq7 hn5]
                    exact hp7.weak (by omega) (by omega)
                · have hn5i : ((y.n : Int) == 255) = false := beq_eq_false_iff_ne.2 (by omega)
                  have hbt : st.begun ≤ total st.fr := begun_le HO.out.f
                  have hbe := begun_le19 HO.out.f HO.out.n
                  have hwv := HO.out.w
                  unfold St.waits at hwv
                  have htf : total st.fr ≤ 1048576 := by omega
                  have hll := P1.out.ll
                  have hfl : D.lens.length - D.gI = st.fr.length := by
                    have := congrArg List.length P1.out.hl
                    simpa [lensOf] using this
                  have hfl2 : st.fr.length ≤ 1048576 := by omega
                  have halls : ((D.all.length - D.gB : Nat) : Int) = (total st.fr : Int) - st.begun := by
                    have := congrArg List.length P1.out.ha
                    rw [List.length_drop, List.length_drop, total_flatten] at this
                    omega
                  have HWt := Lib.hid (fun m => shWaits_any (P1.out.she.drewN m) (by omega) (by omega) htf hfl2)
                  obtain ⟨AV, cV, hV⟩ := P1.out.she.len
                  have x2 : W1.cell? ⟨Ad.bx, 2, none⟩ = some (.slice AV st.fr.length cV) := by
                    rw [← hV]
                    exact P1.out.she.blk.cell 2
                  have hwt0 : 0 ≤ (total st.fr : Int) - st.begun := by omega
                  have hC := fun m => oqClear_any (P1.out.oq.drewN m) (by have := P1.out.la; omega) (by omega)
                  rw [hfl, halls] at hC
                  have HC := Lib.hid hC
                  clear hC hV halls hfl hwv
                  go_wp2_with fail
                  go_quiet (first | (go_at_call 10; exact quiet_call_same (HWt.out _)))
                  go_upto_if 103 with fail
                  go_cut [41] from 103 to 105 (fun v wx => v = .int .i64 ((st.fr.length : Int) - oneIf (st.begun : Int)) ∧ wx = W1.drewN nq)
                  case first =>
                    by_cases hb0 : 0 < st.begun
                    · have hb0i : (0 : Int) < (st.begun : Int) := by omega
                      have hfp : 0 < st.fr.length := by
                        rcases hfr : st.fr with _ | ⟨f, fs⟩
                        · have := HO.out.f.2.2 hfr
                          omega
                        · simp
                      go_wp2_with fail
                      go_meet
                      rw [show oneIf (st.begun : Int) = 1 from if_pos hb0i]
                      exact ⟨rfl, rfl⟩
                    · have hb0i : ¬ (0 : Int) < (st.begun : Int) := by omega
                      go_wp2_with fail
                      go_meet
                      exact ⟨by rw [show oneIf (st.begun : Int) = 0 from if_neg (by omega), Int.sub_zero], rfl⟩
                  case rest =>
                    obtain ⟨rfl, hw⟩ := hcut
                    rw [hw]
                    clear hw c9 x1 x2 x3
                    have hPn := P1.out.new_ ((Keep.refl _ W1).drewN nq)
                    have PN := Lib.hid hPn
                    clear hPn
                    go_wp2_with (first | (go_at_call 18; go_must (refine (HC.out nq).mono ?_; rintro e w3 ⟨rfl, hto⟩; obtain ⟨⟨D3, hp4⟩, hst4⟩ := PN.out.1.que_ hto; have c9 := hp4.c9.cell 0; have y2 := hp4.she.blk.cell 2; have f2 := hp4.she.blk.frozen 2; have y1 := hp4.she.blk.cell 1; have f1 := hp4.she.blk.frozen 1; have P4 := Lib.hid hp4; have T4 := Lib.hid hst4; clear hto hp4 hst4)))
                    go_region
                    all_goals
                      go_wp2_with fail
                      obtain ⟨⟨D5, hp5⟩, hst5⟩ := P4.out.clear_
                      obtain ⟨hp6, hst6⟩ := hp5.new_ ((Keep.refl _ _).drew)
                      refine Met.intro (HJ.out _ _ ⟨At5.intro, ((PN.out.2.trans T4.out).trans hst5).trans hst6, step_ok HO.out h0 h1 hn255, D5, ?_⟩)
                      rw [St.step_clear hq7 hn5]
                      have hla := P1.out.la
                      exact hp6.weak (by omega) (by omega)
                -- </k7>
              · by_cases hq5 : y.kind % 8 = 5
                · as_aux_lemma =>
                  -- <k5>
                  have hkm : (y.kind : Int) % 8 = 5 := by omega
                  have hl0 := HO.out.l0
                  have hl1 := HO.out.l1
                  have hbt : st.begun ≤ total st.fr := begun_le HO.out.f
                  have hbe := begun_le19 HO.out.f HO.out.n
                  have hwv := HO.out.w
                  unfold St.waits at hwv
                  have htf : total st.fr ≤ 1048576 := by omega
                  have hll := P1.out.ll
                  have hfl : D.lens.length - D.gI = st.fr.length := by
                    have := congrArg List.length P1.out.hl
                    simpa [lensOf] using this
                  have hfl2 : st.fr.length ≤ 1048576 := by omega
                  obtain ⟨xs, hxs⟩ : ∃ xs, waitsOf (lensOf st.fr) st.begun = xs := ⟨_, rfl⟩
                  have hxl : xs.length = st.fr.length := by rw [← hxs, waitsOf_len, lensOf_len]
                  have hxb := waitsOf_bd HO.out.f HO.out.n
                  have hxsum := waitsOf_sum HO.out.f
                  have hxg := fun (k : Nat) (h : k < st.fr.length) => waits_get (b := (st.begun : Int)) h
                  rw [hxs] at hxb hxsum
                  simp only [hxs] at hxg
                  have XL := Lib.hid hxl
                  have XB := Lib.hid hxb
                  have XS := Lib.hid hxsum
                  have XG := Lib.hid hxg
                  have XH := Lib.hid hxs
                  clear hxs hxl hxb hxsum hxg hfl
                  go_wp2_with fail
                  go_loopw [20, 21] (fun v i wr => ∃ (k : Nat) (o : Value), k ≤ st.fr.length ∧ i = .int .i64 k ∧ o = v ∧ Row wr 3 1 o k (ints .i64 (xs.take k)) ∧ (∀ j, some j = o.ownBlock → W1.heap.size ≤ j) ∧ Keep (fun j => W1.heap.size ≤ j) W1 wr) (fun _ i _ => st.fr.length - (intOf i).toNat)
                  case atStart => exact ⟨0, _, Nat.zero_le _, rfl, rfl, Row.nil _ _ _, by simp [Value.ownBlock], Keep.refl _ _⟩
                  case round =>
                    obtain ⟨k, o, hk, rfl, rfl, hrow, hown, hkeep⟩ := hrel
                    obtain ⟨hpX, hsX⟩ := P1.out.new_ hkeep
                    have c9 := hpX.c9.cell 0
                    have x1 := hpX.she.blk.cell 1
                    obtain ⟨AV, cV, hV⟩ := hpX.she.len
                    have x2 : wr.cell? ⟨Ad.bx, 2, none⟩ = some (.slice AV st.fr.length cV) := by
                      rw [← hV]
                      exact hpX.she.blk.cell 2
                    have hF := hpX.she.frs
                    rw [hV] at hF
                    have HR := Lib.hid hrow
                    have HW := Lib.hid hown
                    have HK := Lib.hid hkeep
                    have PX := Lib.hid hpX
                    have SX := Lib.hid hsX
                    clear hrow hown hkeep hpX hsX hV
                    by_cases hlt : k < st.fr.length
                    · obtain ⟨gx, off2, A', c', rfl, _, hc, _⟩ := hF.at_ hlt
                      have hf19 : st.fr[k].length ≤ 19 := HO.out.n _ (List.getElem_mem _)
                      have hxk := XG.out k hlt
                      obtain ⟨z, hz⟩ : ∃ z, xs.getD k 0 = z := ⟨_, rfl⟩
                      rw [hz] at hxk
                      have htk : xs.take (k + 1) = xs.take k ++ [z] := by
                        have hlx : k < xs.length := by rw [XL.out]; exact hlt
                        rw [List.take_succ_eq_append_getElem hlx, ← hz, List.getD_eq_getElem?_getD, List.getElem?_eq_getElem hlx]
                        rfl
                      have HT := Lib.hid htk
                      clear hz htk hF
                      by_cases hk0 : k = 0
                      · rw [if_pos hk0] at hxk
                        have hk0i : ((k : Int) == 0) = true := by simp [hk0]
                        subst hxk
                        clear hk0
                        go_wp2_with (first | (at_builtin; go_must (refine wpList_append_row rfl _ _ 47 rfl ty47 (v := o) (n := k) (xs := ints .i64 (xs.take k)) rfl ?hrow _ _ _ [.int .i64 ((st.fr[k].length : Int) - st.begun)] rfl ?hsrc ?h63 ?hb ?_; (case hrow => exact HR.out.keep ((Keep.refl (fun j => wr.heap.size ≤ j) wr).alloc _) (fun j hj e => by have := HR.out.lt j hj; omega)); (case hsrc => exact Src.lit (heap_alloc_at _ _ _ (by simp)) rfl (by simp [Value.oneCell'])); (case h63 => simp only [Go.maxLen]; omega); (case hb => omega); intro v1 w1 hr1 hk1 ho1; have R1 := Lib.hid hr1; have K1 := Lib.hid hk1; have O1 := Lib.hid ho1; clear hr1 hk1 ho1)))
                        have hK : Keep (fun j => W1.heap.size ≤ j) W1 w1 := (HK.out.alloc _).then K1.out (fun i hi he => by have := HW.out i he; omega)
                        have hr1 : Row w1 3 1 v1 (k + 1) (ints .i64 (xs.take (k + 1))) := by
                          rw [HT.out, ints_append]
                          exact R1.out
                        have ho1 : ∀ j, some j = v1.ownBlock → W1.heap.size ≤ j := by
                          intro j hj
                          rcases O1.out with h | h
                          · exact HW.out j (hj.trans h)
                          · rw [h] at hj
                            injection hj with hj
                            have := HK.out.size
                            simp at hj
                            omega
                        have A1 := Lib.hid hr1
                        have A3 := Lib.hid ho1
                        have A4 := Lib.hid hK
                        clear hK hr1 ho1
                        go_roundw
                        case rel => exact ⟨k + 1, v1, by omega, by go_num, rfl, A1.out, A3.out, A4.out⟩
                        case measure => simp [intOf]; omega
                      · rw [if_neg hk0] at hxk
                        have hk0i : ((k : Int) == 0) = false := beq_eq_false_iff_ne.2 (by omega)
                        subst hxk
                        clear hk0
                        go_wp2_with (first | (at_builtin; go_must (refine wpList_append_row rfl _ _ 47 rfl ty47 (v := o) (n := k) (xs := ints .i64 (xs.take k)) rfl ?hrow _ _ _ [.int .i64 ((st.fr[k].length : Int))] rfl ?hsrc ?h63 ?hb ?_; (case hrow => exact HR.out.keep ((Keep.refl (fun j => wr.heap.size ≤ j) wr).alloc _) (fun j hj e => by have := HR.out.lt j hj; omega)); (case hsrc => exact Src.lit (heap_alloc_at _ _ _ (by simp)) rfl (by simp [Value.oneCell'])); (case h63 => simp only [Go.maxLen]; omega); (case hb => omega); intro v1 w1 hr1 hk1 ho1; have R1 := Lib.hid hr1; have K1 := Lib.hid hk1; have O1 := Lib.hid ho1; clear hr1 hk1 ho1)))
                        have hK : Keep (fun j => W1.heap.size ≤ j) W1 w1 := (HK.out.alloc _).then K1.out (fun i hi he => by have := HW.out i he; omega)
                        have hr1 : Row w1 3 1 v1 (k + 1) (ints .i64 (xs.take (k + 1))) := by
                          rw [HT.out, ints_append]
                          exact R1.out
                        have ho1 : ∀ j, some j = v1.ownBlock → W1.heap.size ≤ j := by
                          intro j hj
                          rcases O1.out with h | h
                          · exact HW.out j (hj.trans h)
                          · rw [h] at hj
                            injection hj with hj
                            have := HK.out.size
                            simp at hj
                            omega
                        have A1 := Lib.hid hr1
                        have A3 := Lib.hid ho1
                        have A4 := Lib.hid hK
                        clear hK hr1 ho1
                        go_roundw
                        case rel => exact ⟨k + 1, v1, by omega, by go_num, rfl, A1.out, A3.out, A4.out⟩
                        case measure => simp [intOf]; omega
                    · obtain rfl : k = st.fr.length := by omega
                      have hxt : xs.take st.fr.length = xs := by rw [← XL.out, List.take_length]
                      have hr2 := HR.out
                      rw [hxt] at hr2
                      obtain ⟨A2, c2, rfl⟩ := hr2.slice
                      have R2 := Lib.hid hr2
                      have hs2 := hr2.sees (ok := fun j => W1.heap.size ≤ j) HW.out
                      rw [← XL.out] at hs2
                      have hSh := wShare_any PX.out.wi hl0 hl1 xs _ _ hs2 (fun x hx => by have := XB.out x hx; omega) (by rw [XL.out]; exact hfl2)
                      rw [XL.out] at hSh
                      have HSH := Lib.hid hSh
                      clear hr2 hxt hF hs2 hSh HR
                      go_wp2_with (first | (go_at_call 13; go_must (refine HSH.out.mono ?_; rintro e w3 ⟨r, rfl, hr, ho, hb⟩; obtain ⟨A3, c3, rfl⟩ := hr.slice; obtain ⟨hp3, hst3⟩ := PX.out.new_ (Keep.of_below hb); have R3 := Lib.hid hr; have O3 := Lib.hid ho; have B3 := Lib.hid hb; have P3 := Lib.hid hp3; have T3 := Lib.hid hst3; clear hr ho hb hp3 hst3)))
                      obtain ⟨n, hn⟩ : ∃ n, st.goes = n := ⟨_, rfl⟩
                      have hnI : min ((total st.fr : Int) - st.begun) st.left = (n : Int) := by
                        rw [← hn]
                        unfold St.goes St.waits
                        omega
                      have hnb : (n : Int) ≤ 60 := by omega
                      have hnt : n ≤ total st.fr - st.begun := by omega
                      have hnl : (n : Int) ≤ st.left := by omega
                      have hshn : shares st.left xs = shares (n : Int) xs := by
                        refine shares_min xs _ _ (fun x hx => (XB.out x hx).1) (by omega) hnl (fun h => ?_)
                        rw [XS.out]
                        omega
                      have hslz : sharesLeft (n : Int) xs = 0 := sharesLeft_zero xs _ (fun x hx => (XB.out x hx).1) (by omega) (by rw [XS.out]; omega)
                      have hr3 := R3.out
                      rw [hshn] at hr3
                      clear R3
                      have R3 := Lib.hid hr3
                      have HN := Lib.hid hn
                      have HNI := Lib.hid hnI
                      have HSZ := Lib.hid hslz
                      have HWt := Lib.hid (fun m => shWaits_any (P3.out.she.drewN m) (by omega) (by omega) htf hfl2)
                      have R2k := Lib.hid (R2.out.keep (Keep.of_below (S := fun _ => False) B3.out) (fun _ _ h => h))
                      have hwt0 : 0 ≤ (total st.fr : Int) - st.begun := by omega
                      clear c9 x1 x2 hn hnI hslz hshn hr3
                      have c9 := P3.out.c9.cell 0
                      have x3 := P3.out.she.blk.cell 3
                      go_quiet (first | (go_at_call 10; exact quiet_call_same (HWt.out _)))
                      rw [HNI.out]
                      go_wp2_with fail
                      go_loopw [26, 27, 28] (fun s r i wx => ∃ k m : Nat, k ≤ st.fr.length ∧ i = .int .i64 k ∧ r = .int .i64 (sharesLeft n (xs.take k)) ∧ s = .int .i64 ((n : Int) - sharesLeft n (xs.take k)) ∧ wx = w3.drewN m) (fun _ _ i _ => st.fr.length - (intOf i).toNat)
                      case atStart => exact ⟨0, nq, Nat.zero_le _, rfl, rfl, by simp [sharesLeft], rfl⟩
                      case round =>
                        obtain ⟨k, m, hk, rfl, rfl, rfl, rfl⟩ := hrel
                        clear x3
                        by_cases hlt : k < st.fr.length
                        · have hlx : k < xs.length := by rw [XL.out]; exact hlt
                          obtain ⟨g2, o2, c2', he2, hc2, hg2, _, hcell2⟩ := R2k.out.cells (by omega)
                          injection he2 with he2 _ he2c
                          subst he2
                          subst he2c
                          obtain ⟨g3, o3, c3', he3, hc3, hg3, _, hcell3⟩ := R3.out.cells (by omega)
                          injection he3 with he3 _ he3c
                          subst he3
                          subst he3c
                          have hb := sharesLeft_bd (xs.take k) (fun x hx => (XB.out x (List.mem_of_mem_take hx)).1) n (by omega)
                          have hz := XB.out xs[k] (List.getElem_mem _)
                          have htk := List.take_succ_eq_append_getElem hlx
                          have hsl : sharesLeft n (xs.take (k + 1)) = sharesLeft n (xs.take k) - min xs[k] (sharesLeft n (xs.take k)) := by rw [htk, sharesLeft_snoc]
                          have q2 := hcell2 k (.int .i64 xs[k]) (by rw [ints_get, List.getElem?_eq_getElem hlx]; rfl)
                          have q3 := hcell3 k (.int .i64 (min (sharesLeft n (xs.take k)) xs[k])) (by rw [ints_get, shares_at xs n k hlx, Int.min_comm]; rfl)
                          rw [Int.min_comm] at hsl
                          have HSL := Lib.hid hsl
                          clear hsl htk hcell2 hcell3
                          generalize xs[k] = z at *
                          generalize sharesLeft n (xs.take k) = sl at *
                          go_wp2_with fail
                          go_quiet (fail)
                          go_wp2_with fail
                          go_roundw
                          case rel => exact ⟨k + 1, _, by omega, by go_num, by rw [HSL.out], by rw [HSL.out]; go_num, rfl⟩
                          case measure => simp [intOf]; omega
                        · obtain rfl : k = st.fr.length := by omega
                          have hsz : sharesLeft n (xs.take st.fr.length) = 0 := by rw [← XL.out, List.take_length, HSZ.out]
                          rw [hsz, Int.sub_zero]
                          obtain ⟨T, hT⟩ : ∃ T, takeTo n st.fr st.begun = T := ⟨_, rfl⟩
                          have hg0 := HO.out.g0
                          have hg1 := HO.out.g1
                          have hi60 : i < 60 := by omega
                          have hpm := P3.out.new_ ((Keep.refl _ w3).drewN m)
                          have hTk := wTake_any hpm.1.wi ((total st.fr : Int) - st.begun) hwt0 (by omega) hl0 hl1 hg0 (by omega)
                          rw [HNI.out] at hTk
                          have c9 := hpm.1.c9.cell 0
                          have PM := Lib.hid hpm
                          have HTK := Lib.hid hTk
                          have HTT := Lib.hid hT
                          clear hsz hpm hTk hT
                          go_wp2_with (first
                            | (go_at_call 8; refine (num_any _ _).mono ?_; rintro e w' ⟨rfl, rfl⟩)
                            | (go_at_call 10; refine (HWt.out m).mono ?_; rintro e w' ⟨rfl, rfl⟩)
                            | (go_at_call 14; go_must (refine HTK.out.mono ?_; rintro e w4 ⟨rfl, hw, hk⟩; obtain ⟨hp4, hst4⟩ := PM.out.1.win_ hw hk; have HQ := Lib.hid (hp4.take_ HO.out h1 (by omega) (by omega) n T HTT.out); have P4 := Lib.hid hp4; have T4 := Lib.hid hst4; clear hw hk hp4 hst4))
                            | (go_at_call 15; go_must (refine HQ.out.mono ?_; rintro e w5 ⟨r5, rfl, hr5, ho5, hto⟩; obtain ⟨A5, c5, rfl⟩ := hr5.slice; obtain ⟨⟨D5, hp5⟩, hst5⟩ := P4.out.que_ hto; have c9 := hp5.c9.cell 0; have HS := Lib.hid (shTake_any hp5.she HO.out.f htf hfl2 n (by omega) T HTT.out); have P5 := Lib.hid hp5; have T5 := Lib.hid hst5; have R5 := Lib.hid hr5; have O5 := Lib.hid ho5; clear hr5 ho5 hto hp5 hst5))
                            | (go_at_call 16; go_must (refine HS.out.mono ?_; rintro e w6 ⟨r6, V6, rfl, hr6, ho6, hsh6, hV6, hk6⟩; obtain ⟨A6, c6, rfl⟩ := hr6.slice; obtain ⟨⟨D6, hp6⟩, hst6⟩ := P5.out.she_ (V' := V6) (hsh6.mono (fun k hk hlt => ⟨hk, hlt, fun e => hk.2.2.1 (e.trans hV6)⟩) (fun e => e.1.2.1 rfl) (fun k hk e => e.2.2 hk)) (fun k hk => .inl (hk.trans hV6)) (hk6.mono (fun k _ h => .inl h)); have hr5 := R5.out.keep hk6 (fun k hk e => by have h1 := O5.out k hk; have h2 := P4.out.she.blk.lt; omega); have R6 := Lib.hid hr6; have R5b := Lib.hid hr5; have P6 := Lib.hid hp6; have T6 := Lib.hid hst6; clear hr5 hr6 ho6 hsh6 hV6 hk6 hp6 hst6)))
                          have c9 := P6.out.c9.cell 0
                          have x3 := P6.out.she.blk.cell 3
                          have x4 := P6.out.she.blk.cell 4
                          have f3 := P6.out.she.blk.frozen 3
                          have f4 := P6.out.she.blk.frozen 4
                          have h9x : (⟨Ad.bx, 3, none⟩ : Addr).block ≠ (⟨Ad.b9, 0, none⟩ : Addr).block := Blk.ne P6.out.she.blk P6.out.c9 (by decide)
                          have hwn : IntKind.u64.wrap (n : Int) = n := IntWalk.u64_in _ (by omega)
                          have hsub : IntKind.u64.wrap (st.left - (n : Int)) = st.left - n := IntWalk.u64_in _ (by omega)
                          have hadd : IntKind.u64.wrap (st.gone + (n : Int)) = st.gone + n := IntWalk.u64_in _ (by omega)
                          go_cut [] from 342 to 361 (fun wx => PI Ad D6 w.heap.size w room (4 * i) (80 * i) (lensOf (st.fr.drop T.2.1)) ((st.fr.drop T.2.1).flatten.drop T.2.2) T.2.2 (st.fr.drop T.2.1) T.2.2 (st.left - n) (st.gone + n) st.sh (st.left - n) (st.gone + n) st.sh wx ∧ Still w6 wx ∧ Keep (fun k => k = Ad.bx) w6 wx)
                          case first =>
                            refine wp_region_noPanic ?_
                            refine wp_region_held_drew (S := fun w' => w'.cell? ⟨Ad.b9, 0, none⟩ = some (.pointer (some ⟨Ad.bx, 0, none⟩))) (by kernel_rfl) (by exact c9) (fun hHeld => ?_)
                            refine wpAnyH_take (i := 0) (v := ?_) (List.getElem?_toArray.trans rfl) (by kernel_rfl) (by kernel_rfl) (by kernel_rfl) (fun _ _ _ h => h) (Or.inl ⟨by rfl, ?_⟩) (by assumption) ?_
                            rotate_left
                            · (intro W hSw; (try dsimp only at hSw); go_simp; try with_reducible rfl)
                            (try simp only [Act.put, List.setIfInBounds_toArray, List.set_cons_zero, List.set_cons_succ])
                            refine wpAnyH_take (i := 1) (v := ?_) (List.getElem?_toArray.trans rfl) (by kernel_rfl) (by kernel_rfl) (by kernel_rfl) (fun _ _ _ h => h) (Or.inl ⟨by rfl, ?_⟩) (by assumption) ?_
                            rotate_left
                            · (intro W hSw; (try dsimp only at hSw); go_simp; try with_reducible rfl)
                            (try simp only [Act.put, List.setIfInBounds_toArray, List.set_cons_zero, List.set_cons_succ])
                            refine wpAnyH_take (i := 2) (v := ?_) (List.getElem?_toArray.trans rfl) (by kernel_rfl) (by kernel_rfl) (by kernel_rfl) (fun _ _ _ h => h) (Or.inl ⟨by rfl, ?_⟩) (by assumption) ?_
                            rotate_left
                            · (intro W hSw; (try dsimp only at hSw); go_simp; try with_reducible rfl)
                            (try simp only [Act.put, List.setIfInBounds_toArray, List.set_cons_zero, List.set_cons_succ])
                            refine wpAnyH_take (i := 3) (v := ?_) (List.getElem?_toArray.trans rfl) (by kernel_rfl) (by kernel_rfl) (by kernel_rfl) (fun _ _ _ h => h) (Or.inl ⟨by rfl, ?_⟩) (by assumption) ?_
                            rotate_left
                            · (intro W hSw; (try dsimp only at hSw); go_simp; try with_reducible rfl)
                            (try simp only [Act.put, List.setIfInBounds_toArray, List.set_cons_zero, List.set_cons_succ])
                            refine wpAnyH_take (i := 4) (v := ?_) (List.getElem?_toArray.trans rfl) (by kernel_rfl) (by kernel_rfl) (by kernel_rfl) (fun _ _ _ h => h) (Or.inl ⟨by rfl, ?_⟩) (by assumption) ?_
                            rotate_left
                            · (intro W hSw; (try dsimp only at hSw); go_simp; try with_reducible rfl)
                            (try simp only [Act.put, List.setIfInBounds_toArray, List.set_cons_zero, List.set_cons_succ])
                            refine wpAnyH_take (i := 6) (v := ?_) (List.getElem?_toArray.trans rfl) (by kernel_rfl) (by kernel_rfl) (by kernel_rfl) (fun _ _ _ h => h) (Or.inl ⟨by rfl, ?_⟩) (by assumption) ?_
                            rotate_left
                            · (intro W hSw; (try dsimp only at hSw); go_simp; try with_reducible rfl)
                            (try simp only [Act.put, List.setIfInBounds_toArray, List.set_cons_zero, List.set_cons_succ])
                            refine wpAnyH_take (i := 7) (v := ?_) (List.getElem?_toArray.trans rfl) (by kernel_rfl) (by kernel_rfl) (by kernel_rfl) (fun _ _ _ h => h) (Or.inl ⟨by rfl, ?_⟩) (by assumption) ?_
                            rotate_left
                            · (intro W hSw; (try dsimp only at hSw); go_simp; try with_reducible rfl)
                            (try simp only [Act.put, List.setIfInBounds_toArray, List.set_cons_zero, List.set_cons_succ])
                            refine wpAnyH_take (i := 9) (v := ?_) (List.getElem?_toArray.trans rfl) (by kernel_rfl) (by kernel_rfl) (by kernel_rfl) (fun _ _ _ h => h) (Or.inl ⟨by rfl, ?_⟩) (by assumption) ?_
                            rotate_left
                            · (intro W hSw; (try dsimp only at hSw); go_simp; try with_reducible rfl)
                            (try simp only [Act.put, List.setIfInBounds_toArray, List.set_cons_zero, List.set_cons_succ])
                            refine wpAnyH_take (i := 10) (v := ?_) (List.getElem?_toArray.trans rfl) (by kernel_rfl) (by kernel_rfl) (by kernel_rfl) (fun _ _ _ h => h) (Or.inl ⟨by rfl, ?_⟩) (by assumption) ?_
                            rotate_left
                            · (intro W hSw; (try dsimp only at hSw); go_simp; try with_reducible rfl)
                            (try simp only [Act.put, List.setIfInBounds_toArray, List.set_cons_zero, List.set_cons_succ])
                            refine wpAnyH_take (i := 11) (v := ?_) (List.getElem?_toArray.trans rfl) (by kernel_rfl) (by kernel_rfl) (by kernel_rfl) (fun _ _ _ h => h) (Or.inl ⟨by rfl, ?_⟩) (by assumption) ?_
                            rotate_left
                            · (intro W hSw; (try dsimp only at hSw); go_simp; try with_reducible rfl)
                            (try simp only [Act.put, List.setIfInBounds_toArray, List.set_cons_zero, List.set_cons_succ])
                            refine wpAnyH_take (i := 13) (v := ?_) (List.getElem?_toArray.trans rfl) (by kernel_rfl) (by kernel_rfl) (by kernel_rfl) (fun _ _ _ h => h) (Or.inl ⟨by rfl, ?_⟩) (by assumption) ?_
                            rotate_left
                            · (intro W hSw; (try dsimp only at hSw); go_simp; try with_reducible rfl)
                            (try simp only [Act.put, List.setIfInBounds_toArray, List.set_cons_zero, List.set_cons_succ])
                            refine wpAnyH_take (i := 14) (v := ?_) (List.getElem?_toArray.trans rfl) (by kernel_rfl) (by kernel_rfl) (by kernel_rfl) (fun _ _ _ h => h) (Or.inl ⟨by rfl, ?_⟩) (by assumption) ?_
                            rotate_left
                            · (intro W hSw; (try dsimp only at hSw); go_simp; try with_reducible rfl)
                            (try simp only [Act.put, List.setIfInBounds_toArray, List.set_cons_zero, List.set_cons_succ])
                            refine wpAnyH_ready (rs := [5, 12]) (by kernel_rfl) (by simp) ?_
                            refine AllReadyH.cons (List.getElem?_toArray.trans rfl) (fun K hK => ?_) ?_
                            · go_simp
                              refine hK.out _ _ (by first | exact c9 | exact cell_far h9x c9 | exact cell_far h9x (cell_far h9x c9)) (fun hHeld => ?_)
                              clear hK K
                              (try simp only [Act.put, List.setIfInBounds_toArray, List.set_cons_zero, List.set_cons_succ])
                              refine wpAnyH_take (i := 8) (v := ?_) (List.getElem?_toArray.trans rfl) (by kernel_rfl) (by kernel_rfl) (by kernel_rfl) (fun _ _ _ h => h) (Or.inl ⟨by rfl, ?_⟩) (by assumption) ?_
                              rotate_left
                              · (intro W hSw; (try dsimp only at hSw); go_simp; try with_reducible rfl)
                              (try simp only [Act.put, List.setIfInBounds_toArray, List.set_cons_zero, List.set_cons_succ])
                              refine wpAnyH_ready (rs := [12]) (by kernel_rfl) (by simp) ?_
                              refine AllReadyH.cons (List.getElem?_toArray.trans rfl) (fun K hK => ?_) AllReadyH.nil
                              go_simp
                              refine hK.out _ _ (by first | exact c9 | exact cell_far h9x c9 | exact cell_far h9x (cell_far h9x c9)) (fun hHeld => ?_)
                              clear hK K
                              (try simp only [Act.put, List.setIfInBounds_toArray, List.set_cons_zero, List.set_cons_succ])
                              refine wpAnyH_take (i := 15) (v := ?_) (List.getElem?_toArray.trans rfl) (by kernel_rfl) (by kernel_rfl) (by kernel_rfl) (fun _ _ _ h => h) (Or.inl ⟨by rfl, ?_⟩) (by assumption) ?_
                              rotate_left
                              · (intro W hSw; (try dsimp only at hSw); go_simp; try with_reducible rfl)
                              (try simp only [Act.put, List.setIfInBounds_toArray, List.set_cons_zero, List.set_cons_succ])
                              refine wpAnyH_take (i := 16) (v := ?_) (List.getElem?_toArray.trans rfl) (by kernel_rfl) (by kernel_rfl) (by kernel_rfl) (fun _ _ _ h => h) (Or.inl ⟨by rfl, ?_⟩) (by assumption) ?_
                              rotate_left
                              · (intro W hSw; (try dsimp only at hSw); go_simp; try with_reducible rfl)
                              (try simp only [Act.put, List.setIfInBounds_toArray, List.set_cons_zero, List.set_cons_succ])
                              refine wpAnyH_take (i := 17) (v := ?_) (List.getElem?_toArray.trans rfl) (by kernel_rfl) (by kernel_rfl) (by kernel_rfl) (fun _ _ _ h => h) (Or.inl ⟨by rfl, ?_⟩) (by assumption) ?_
                              rotate_left
                              · (intro W hSw; (try dsimp only at hSw); go_simp; try with_reducible rfl)
                              (try simp only [Act.put, List.setIfInBounds_toArray, List.set_cons_zero, List.set_cons_succ])
                              refine wpAnyH_ready (rs := [18]) (by kernel_rfl) (by simp) ?_
                              refine AllReadyH.cons (List.getElem?_toArray.trans rfl) (fun K hK => ?_) AllReadyH.nil
                              go_simp
                              refine hK.out _ _ (by first | exact c9 | exact cell_far h9x c9 | exact cell_far h9x (cell_far h9x c9)) (fun hHeld => ?_)
                              clear hK K
                              (try simp only [Act.put, List.setIfInBounds_toArray, List.set_cons_zero, List.set_cons_succ])
                              refine wpAnyH_take (i := 19) (v := ?_) (List.getElem?_toArray.trans rfl) (by kernel_rfl) (by kernel_rfl) (by kernel_rfl) (fun _ _ _ h => h) (Or.inl ⟨by rfl, ?_⟩) (by assumption) ?_
                              rotate_left
                              · (intro W hSw; (try dsimp only at hSw); go_simp; try with_reducible rfl)
                              (try simp only [Act.put, List.setIfInBounds_toArray, List.set_cons_zero, List.set_cons_succ])
                              refine wpAnyH_take (i := 20) (v := ?_) (List.getElem?_toArray.trans rfl) (by kernel_rfl) (by kernel_rfl) (by kernel_rfl) (fun _ _ _ h => h) (Or.inl ⟨by rfl, ?_⟩) (by assumption) ?_
                              rotate_left
                              · (intro W hSw; (try dsimp only at hSw); go_simp; try with_reducible rfl)
                              (try simp only [Act.put, List.setIfInBounds_toArray, List.set_cons_zero, List.set_cons_succ])
                              refine wpAnyH_ready (rs := [21]) (by kernel_rfl) (by simp) ?_
                              refine AllReadyH.cons (List.getElem?_toArray.trans rfl) (fun K hK => ?_) AllReadyH.nil
                              go_simp
                              refine hK.out _ _ (by first | exact c9 | exact cell_far h9x c9 | exact cell_far h9x (cell_far h9x c9)) (fun hHeld => ?_)
                              clear hK K
                              (try simp only [Act.put, List.setIfInBounds_toArray, List.set_cons_zero, List.set_cons_succ])
                              refine wpAnyH_done (by kernel_rfl) ?_ _
                              refine NoPanic.normal ?_
                              go_wp2_with fail
                              go_meet
                              obtain ⟨hp7, hst7⟩ := P6.out.cell_ (i := 3) (u := .int .u64 (st.left - (n : Int))) (begun' := T.2.2) (left' := st.left - n) (gone' := st.gone) (sh' := st.sh) rfl
                              obtain ⟨hp8, hst8⟩ := hp7.cell_ (i := 4) (u := .int .u64 (st.gone + (n : Int))) (begun' := T.2.2) (left' := st.left - n) (gone' := st.gone + n) (sh' := st.sh) rfl
                              obtain ⟨hp9, hst9⟩ := hp8.new_ ((Keep.refl _ _).drew)
                              exact ⟨hp9, (hst7.trans hst8).trans hst9, (((Keep.refl (fun k => k = Ad.bx) w6).setCell (fun _ => rfl) _).setCell (fun _ => rfl) _).drew⟩
                            refine AllReadyH.cons (List.getElem?_toArray.trans rfl) (fun K hK => ?_) AllReadyH.nil
                            · go_simp
                              refine hK.out _ _ (by first | exact c9 | exact cell_far h9x c9 | exact cell_far h9x (cell_far h9x c9)) (fun hHeld => ?_)
                              clear hK K
                              (try simp only [Act.put, List.setIfInBounds_toArray, List.set_cons_zero, List.set_cons_succ])
                              refine wpAnyH_take (i := 15) (v := ?_) (List.getElem?_toArray.trans rfl) (by kernel_rfl) (by kernel_rfl) (by kernel_rfl) (fun _ _ _ h => h) (Or.inl ⟨by rfl, ?_⟩) (by assumption) ?_
                              rotate_left
                              · (intro W hSw; (try dsimp only at hSw); go_simp; try with_reducible rfl)
                              (try simp only [Act.put, List.setIfInBounds_toArray, List.set_cons_zero, List.set_cons_succ])
                              refine wpAnyH_ready (rs := [5]) (by kernel_rfl) (by simp) ?_
                              refine AllReadyH.cons (List.getElem?_toArray.trans rfl) (fun K hK => ?_) AllReadyH.nil
                              go_simp
                              refine hK.out _ _ (by first | exact c9 | exact cell_far h9x c9 | exact cell_far h9x (cell_far h9x c9)) (fun hHeld => ?_)
                              clear hK K
                              (try simp only [Act.put, List.setIfInBounds_toArray, List.set_cons_zero, List.set_cons_succ])
                              refine wpAnyH_take (i := 8) (v := ?_) (List.getElem?_toArray.trans rfl) (by kernel_rfl) (by kernel_rfl) (by kernel_rfl) (fun _ _ _ h => h) (Or.inl ⟨by rfl, ?_⟩) (by assumption) ?_
                              rotate_left
                              · (intro W hSw; (try dsimp only at hSw); go_simp; try with_reducible rfl)
                              (try simp only [Act.put, List.setIfInBounds_toArray, List.set_cons_zero, List.set_cons_succ])
                              refine wpAnyH_take (i := 16) (v := ?_) (List.getElem?_toArray.trans rfl) (by kernel_rfl) (by kernel_rfl) (by kernel_rfl) (fun _ _ _ h => h) (Or.inl ⟨by rfl, ?_⟩) (by assumption) ?_
                              rotate_left
                              · (intro W hSw; (try dsimp only at hSw); go_simp; try with_reducible rfl)
                              (try simp only [Act.put, List.setIfInBounds_toArray, List.set_cons_zero, List.set_cons_succ])
                              refine wpAnyH_take (i := 17) (v := ?_) (List.getElem?_toArray.trans rfl) (by kernel_rfl) (by kernel_rfl) (by kernel_rfl) (fun _ _ _ h => h) (Or.inl ⟨by rfl, ?_⟩) (by assumption) ?_
                              rotate_left
                              · (intro W hSw; (try dsimp only at hSw); go_simp; try with_reducible rfl)
                              (try simp only [Act.put, List.setIfInBounds_toArray, List.set_cons_zero, List.set_cons_succ])
                              refine wpAnyH_ready (rs := [18]) (by kernel_rfl) (by simp) ?_
                              refine AllReadyH.cons (List.getElem?_toArray.trans rfl) (fun K hK => ?_) AllReadyH.nil
                              go_simp
                              refine hK.out _ _ (by first | exact c9 | exact cell_far h9x c9 | exact cell_far h9x (cell_far h9x c9)) (fun hHeld => ?_)
                              clear hK K
                              (try simp only [Act.put, List.setIfInBounds_toArray, List.set_cons_zero, List.set_cons_succ])
                              refine wpAnyH_take (i := 19) (v := ?_) (List.getElem?_toArray.trans rfl) (by kernel_rfl) (by kernel_rfl) (by kernel_rfl) (fun _ _ _ h => h) (Or.inl ⟨by rfl, ?_⟩) (by assumption) ?_
                              rotate_left
                              · (intro W hSw; (try dsimp only at hSw); go_simp; try with_reducible rfl)
                              (try simp only [Act.put, List.setIfInBounds_toArray, List.set_cons_zero, List.set_cons_succ])
                              refine wpAnyH_take (i := 20) (v := ?_) (List.getElem?_toArray.trans rfl) (by kernel_rfl) (by kernel_rfl) (by kernel_rfl) (fun _ _ _ h => h) (Or.inl ⟨by rfl, ?_⟩) (by assumption) ?_
                              rotate_left
                              · (intro W hSw; (try dsimp only at hSw); go_simp; try with_reducible rfl)
                              (try simp only [Act.put, List.setIfInBounds_toArray, List.set_cons_zero, List.set_cons_succ])
                              refine wpAnyH_ready (rs := [21]) (by kernel_rfl) (by simp) ?_
                              refine AllReadyH.cons (List.getElem?_toArray.trans rfl) (fun K hK => ?_) AllReadyH.nil
                              go_simp
                              refine hK.out _ _ (by first | exact c9 | exact cell_far h9x c9 | exact cell_far h9x (cell_far h9x c9)) (fun hHeld => ?_)
                              clear hK K
                              (try simp only [Act.put, List.setIfInBounds_toArray, List.set_cons_zero, List.set_cons_succ])
                              refine wpAnyH_done (by kernel_rfl) ?_ _
                              refine NoPanic.normal ?_
                              go_wp2_with fail
                              go_meet
                              obtain ⟨hp7, hst7⟩ := P6.out.cell_ (i := 3) (u := .int .u64 (st.left - (n : Int))) (begun' := T.2.2) (left' := st.left - n) (gone' := st.gone) (sh' := st.sh) rfl
                              obtain ⟨hp8, hst8⟩ := hp7.cell_ (i := 4) (u := .int .u64 (st.gone + (n : Int))) (begun' := T.2.2) (left' := st.left - n) (gone' := st.gone + n) (sh' := st.sh) rfl
                              obtain ⟨hp9, hst9⟩ := hp8.new_ ((Keep.refl _ _).drew)
                              exact ⟨hp9, (hst7.trans hst8).trans hst9, (((Keep.refl (fun k => k = Ad.bx) w6).setCell (fun _ => rfl) _).setCell (fun _ => rfl) _).drew⟩
                          case rest =>
                            obtain ⟨hp7, hst7, hk7⟩ := hcut
                            have hs5 := run_str ((R5b.out.keep hk7 (fun k hk e => R5b.out.ne_blk P6.out.she.blk (by decide) (e ▸ hk))).sees (ok := fun _ => True) (fun _ _ => trivial))
                            have hs6 := run_str ((R6.out.keep hk7 (fun k hk e => R6.out.ne_blk P6.out.she.blk (by decide) (e ▸ hk))).sees (ok := fun _ => True) (fun _ _ => trivial))
                            have P7 := Lib.hid hp7
                            have T7 := Lib.hid hst7
                            clear hp7 hst7 hk7 c9 x3 x4 f3 f4 hwn hsub hadd
                            go_wp2_with (go_at_call 8; refine (num_any _ _).mono ?_; rintro e w' ⟨rfl, rfl⟩)
                            refine Met.intro (HJ.out _ _ ⟨At5.intro, (((((SX.out.trans T3.out).trans PM.out.2).trans T4.out).trans T5.out).trans T6.out).trans T7.out, step_ok HO.out h0 h1 hn255, D6, ?_⟩)
                            rw [St.step_goes hq5]
                            simp only [St.take, HN.out, HTT.out]
                            exact P7.out.weak (by omega) (by omega)
                  -- </k5>
                · as_aux_lemma =>
                  -- <k0>
                  have hk2 : y.kind % 8 ≤ 2 := by omega
                  go_upto_if 125 with fail
                  go_cut [125] from 74 to 128 (fun v wx => v = .bool true ∧ wx = W1)
                  case first =>
                    have hk3 : y.kind % 8 = 0 ∨ y.kind % 8 = 1 ∨ y.kind % 8 = 2 := by omega
                    rcases hk3 with h | h | h
                    · have hkm : (y.kind : Int) % 8 = 0 := by omega
                      go_wp2_with fail
                      go_meet
                      exact ⟨rfl, rfl⟩
                    · have hkm : (y.kind : Int) % 8 = 1 := by omega
                      go_wp2_with fail
                      go_meet
                      exact ⟨rfl, rfl⟩
                    · have hkm : (y.kind : Int) % 8 = 2 := by omega
                      go_wp2_with fail
                      go_meet
                      exact ⟨rfl, rfl⟩
                  case rest =>
                    obtain ⟨rfl, hw⟩ := hcut
                    rw [hw]
                    clear hw
                    go_wp2_with fail
                    go_loopw [12, 13, 14, 15] (fun v s nn kv wr => ∃ (k : Nat) (o : Value) (vs : List Value), k ≤ y.lengths.length ∧ k ≤ 4 ∧ kv = .int .i64 k ∧ o = v ∧ s = .int .i64 (total (framesOf i (y.lengths.take k)) : Nat) ∧ nn = .bool (hasEmpty (framesOf i (y.lengths.take k))) ∧ NewFrs W1 wr o (framesOf i (y.lengths.take k)) vs ∧ Keep (fun j => W1.heap.size ≤ j) W1 wr) (fun _ _ _ kv _ => 4 - (intOf kv).toNat)
                    case atStart => exact ⟨0, _, [], Nat.zero_le _, Nat.zero_le _, rfl, rfl, rfl, rfl, NewFrs.nil _, Keep.refl _ _⟩
                    case round =>
                      obtain ⟨k, o, vs, hk, hk4, rfl, rfl, rfl, rfl, hnf, hkeep⟩ := hrel
                      have hb11 := B11.out.keep hkeep (by have := B11.out.lt; show ¬ _ ≤ _; omega)
                      have p2 := hb11.cell 2
                      have hi60 : i < 60 := by omega
                      have hWW : W1.heap.size ≤ wr.heap.size := hkeep.size
                      by_cases hin : k < y.lengths.length ∧ k < 4
                      · obtain ⟨hlt, hlt4⟩ := hin
                        have hkl : (framesOf i (y.lengths.take k)).length = k := by rw [framesOf_len, List.length_take]; omega
                        have hrow0 := hnf.row
                        rw [hkl] at hrow0
                        obtain ⟨Au', cu', he, _, _, _, hcS⟩ := HS1.out.keep hkeep (fun k hk hlt => by have := P1.out.n0s; have := P1.out.bel.size; omega)
                        obtain ⟨gu, ou, hAu, hgu, _, hcell⟩ := hcS (by omega)
                        injection he with he1 _ he3
                        subst he1
                        subst he3
                        subst hAu
                        have q0 := hcell k (.int .u8 (y.lengths[k] : Nat)) (by rw [ints_get]; simp [hlt])
                        obtain ⟨z, hz⟩ : ∃ z, y.lengths[k] % 20 = z := ⟨_, rfl⟩
                        have hzi : ((y.lengths[k] : Nat) : Int) % 20 = (z : Int) := by omega
                        have hz20 : z < 20 := by omega
                        have hfs : framesOf i (y.lengths.take (k + 1)) = framesOf i (y.lengths.take k) ++ [frameOf z ((i : Int) + (k : Int))] := by
                          rw [List.take_succ_eq_append_getElem hlt, framesOf_snoc, hz, List.length_take, Nat.min_eq_left (by omega), Int.natCast_add]
                        have htot : total (framesOf i (y.lengths.take (k + 1))) = total (framesOf i (y.lengths.take k)) + z := by rw [hfs, total_snoc, frameOf_len]
                        have hemp : hasEmpty (framesOf i (y.lengths.take (k + 1))) = (hasEmpty (framesOf i (y.lengths.take k)) || z == 0) := by
                          rw [hfs]
                          simp [hasEmpty, frameOf_len]
                        have htb : total (framesOf i (y.lengths.take k)) ≤ 76 := by
                          have h1 := framesOf_total (y.lengths.take k) i
                          rw [List.length_take] at h1
                          omega
                        have HF := Lib.hid (frame23_any z ((i : Int) + (k : Int)) wr (by omega) (by omega) (by omega))
                        have NF := Lib.hid hnf
                        have HR0 := Lib.hid hrow0
                        have HK := Lib.hid hkeep
                        have HFS := Lib.hid hfs
                        have HTO := Lib.hid htot
                        have HEM := Lib.hid hemp
                        have HKL := Lib.hid hkl
                        clear hnf hrow0 hkeep hcell hcS hz hfs htot hemp hb11 hkl
                        generalize y.lengths[k] = lk at *
                        rcases Bool.eq_false_or_eq_true (hasEmpty (framesOf i (y.lengths.take k))) with he | he
                        · rw [he]
                          have hee := Lib.hid he
                          clear he
                          go_wp2_with (first
                            | (go_at_call 9; go_must (refine HF.out.mono ?_; rintro e wf ⟨r, rfl, hr, hn, hb⟩; obtain ⟨Ar, cr, rfl⟩ := hr.slice; have RF := Lib.hid hr; have NW := Lib.hid hn; have BF := Lib.hid hb; have hb11 := B11.out.keep (HK.out.trans (Keep.of_below hb)) (by have := B11.out.lt; show ¬ _ ≤ _; omega); have p2 := hb11.cell 2; clear hr hn hb hb11))
                            | (at_builtin; go_must (refine wpList_append_row rfl _ _ 38 rfl ty38 (v := o) (n := k) (xs := vs) rfl ?hrow _ _ _ [.slice Ar z cr] rfl ?hsrc ?h63 ?hb ?_; (case hrow => exact HR0.out.keep ((Keep.of_below (S := fun _ => False) BF.out).alloc _) (fun _ _ h => h)); (case hsrc => exact Src.lit (heap_alloc_at _ _ _ (by simp)) rfl (by simp [Value.oneCell'])); (case h63 => simp only [Go.maxLen]; omega); (case hb => omega); intro v1 wg hr1 hk1 ho1; have R1 := Lib.hid hr1; have K1 := Lib.hid hk1; have O1 := Lib.hid ho1; clear hr1 hk1 ho1)))
                          have hrf : Row wf 5 1 (.slice Ar z cr) (frameOf z ((i : Int) + (k : Int))).length (ints .u8 (frameOf z ((i : Int) + (k : Int)))) := (by rw [frameOf_len]; exact RF.out)
                          have hr1 := R1.out
                          rw [← HKL.out] at hr1
                          have hN := NF.out.snoc hWW hrf NW.out BF.out hr1 K1.out O1.out
                          rw [← HFS.out] at hN
                          have hKK : Keep (fun j => W1.heap.size ≤ j) W1 wg := ((HK.out.trans (Keep.of_below BF.out)).alloc _).then K1.out (fun j hj e => NF.out.own j e)
                          have N1 := Lib.hid hN
                          have KK := Lib.hid hKK
                          clear hrf hr1 hN hKK
                          go_roundw
                          case rel => exact ⟨k + 1, v1, _, by omega, by omega, by go_num, rfl, by rw [HTO.out]; go_num, (by rw [HEM.out, hee.out]; simp), N1.out, KK.out⟩
                          case measure => simp [intOf]; omega
                        · rw [he]
                          have hee := Lib.hid he
                          clear he
                          by_cases hz0 : z = 0
                          · have hz0i : ((z : Int) == 0) = true := by simp [hz0]
                            have HZ := Lib.hid hz0
                            clear hz0
                            go_wp2_with (first
                              | (go_at_call 9; go_must (refine HF.out.mono ?_; rintro e wf ⟨r, rfl, hr, hn, hb⟩; obtain ⟨Ar, cr, rfl⟩ := hr.slice; have RF := Lib.hid hr; have NW := Lib.hid hn; have BF := Lib.hid hb; have hb11 := B11.out.keep (HK.out.trans (Keep.of_below hb)) (by have := B11.out.lt; show ¬ _ ≤ _; omega); have p2 := hb11.cell 2; clear hr hn hb hb11))
                              | (at_builtin; go_must (refine wpList_append_row rfl _ _ 38 rfl ty38 (v := o) (n := k) (xs := vs) rfl ?hrow _ _ _ [.slice Ar z cr] rfl ?hsrc ?h63 ?hb ?_; (case hrow => exact HR0.out.keep ((Keep.of_below (S := fun _ => False) BF.out).alloc _) (fun _ _ h => h)); (case hsrc => exact Src.lit (heap_alloc_at _ _ _ (by simp)) rfl (by simp [Value.oneCell'])); (case h63 => simp only [Go.maxLen]; omega); (case hb => omega); intro v1 wg hr1 hk1 ho1; have R1 := Lib.hid hr1; have K1 := Lib.hid hk1; have O1 := Lib.hid ho1; clear hr1 hk1 ho1)))
                            have hrf : Row wf 5 1 (.slice Ar z cr) (frameOf z ((i : Int) + (k : Int))).length (ints .u8 (frameOf z ((i : Int) + (k : Int)))) := (by rw [frameOf_len]; exact RF.out)
                            have hr1 := R1.out
                            rw [← HKL.out] at hr1
                            have hN := NF.out.snoc hWW hrf NW.out BF.out hr1 K1.out O1.out
                            rw [← HFS.out] at hN
                            have hKK : Keep (fun j => W1.heap.size ≤ j) W1 wg := ((HK.out.trans (Keep.of_below BF.out)).alloc _).then K1.out (fun j hj e => NF.out.own j e)
                            have N1 := Lib.hid hN
                            have KK := Lib.hid hKK
                            clear hrf hr1 hN hKK
                            go_roundw
                            case rel => exact ⟨k + 1, v1, _, by omega, by omega, by go_num, rfl, by rw [HTO.out]; go_num, (by rw [HEM.out, hee.out, HZ.out]; simp), N1.out, KK.out⟩
                            case measure => simp [intOf]; omega
                          · have hz0i : ((z : Int) == 0) = false := beq_eq_false_iff_ne.2 (by omega)
                            have HZ : Hid ((z == 0) = false) := Lib.hid (by simpa using hz0)
                            go_wp2_with (first
                              | (go_at_call 9; go_must (refine HF.out.mono ?_; rintro e wf ⟨r, rfl, hr, hn, hb⟩; obtain ⟨Ar, cr, rfl⟩ := hr.slice; have RF := Lib.hid hr; have NW := Lib.hid hn; have BF := Lib.hid hb; have hb11 := B11.out.keep (HK.out.trans (Keep.of_below hb)) (by have := B11.out.lt; show ¬ _ ≤ _; omega); have p2 := hb11.cell 2; clear hr hn hb hb11))
                              | (at_builtin; go_must (refine wpList_append_row rfl _ _ 38 rfl ty38 (v := o) (n := k) (xs := vs) rfl ?hrow _ _ _ [.slice Ar z cr] rfl ?hsrc ?h63 ?hb ?_; (case hrow => exact HR0.out.keep ((Keep.of_below (S := fun _ => False) BF.out).alloc _) (fun _ _ h => h)); (case hsrc => exact Src.lit (heap_alloc_at _ _ _ (by simp)) rfl (by simp [Value.oneCell'])); (case h63 => simp only [Go.maxLen]; omega); (case hb => omega); intro v1 wg hr1 hk1 ho1; have R1 := Lib.hid hr1; have K1 := Lib.hid hk1; have O1 := Lib.hid ho1; clear hr1 hk1 ho1)))
                            have hrf : Row wf 5 1 (.slice Ar z cr) (frameOf z ((i : Int) + (k : Int))).length (ints .u8 (frameOf z ((i : Int) + (k : Int)))) := (by rw [frameOf_len]; exact RF.out)
                            have hr1 := R1.out
                            rw [← HKL.out] at hr1
                            have hN := NF.out.snoc hWW hrf NW.out BF.out hr1 K1.out O1.out
                            rw [← HFS.out] at hN
                            have hKK : Keep (fun j => W1.heap.size ≤ j) W1 wg := ((HK.out.trans (Keep.of_below BF.out)).alloc _).then K1.out (fun j hj e => NF.out.own j e)
                            have N1 := Lib.hid hN
                            have KK := Lib.hid hKK
                            clear hrf hr1 hN hKK
                            go_roundw
                            case rel => exact ⟨k + 1, v1, _, by omega, by omega, by go_num, rfl, by rw [HTO.out]; go_num, (by rw [HEM.out, hee.out, HZ.out]; simp), N1.out, KK.out⟩
                            case measure => simp [intOf]; omega
                      · have htk : y.lengths.take k = y.lengths.take 4 := by
                          rcases Nat.lt_or_ge k 4 with h | h
                          · rw [List.take_of_length_le (by omega), List.take_of_length_le (by omega)]
                          · rw [show k = 4 from by omega]
                        obtain ⟨fs, hfs⟩ : ∃ fs, framesOf i (y.lengths.take 4) = fs := ⟨_, rfl⟩
                        rw [htk, hfs] at hnf
                        rw [htk, hfs]
                        have hfl : fs.length ≤ 4 := by
                          rw [← hfs, framesOf_len, List.length_take]
                          omega
                        have htb : total fs ≤ 76 := by
                          have h1 := framesOf_total (y.lengths.take 4) i
                          rw [hfs, List.length_take] at h1
                          omega
                        have hf19 : ∀ x ∈ fs, x.length ≤ 19 := by
                          rw [← hfs]
                          exact framesOf_19 _ _
                        obtain ⟨hpX, hsX⟩ := P1.out.new_ hkeep
                        have hbt : st.begun ≤ total st.fr := begun_le HO.out.f
                        have hbe := begun_le19 HO.out.f HO.out.n
                        have hwv := HO.out.w
                        unfold St.waits at hwv
                        have htf : total st.fr ≤ 1048576 := by omega
                        have hll := P1.out.ll
                        have hla := P1.out.la
                        have hlens : D.lens.length - D.gI = st.fr.length := by
                          have := congrArg List.length P1.out.hl
                          simpa [lensOf] using this
                        have hfl2 : st.fr.length ≤ 1048576 := by omega
                        have halls : D.all.length - D.gB = total st.fr - st.begun := by
                          have := congrArg List.length P1.out.ha
                          rw [List.length_drop, List.length_drop, total_flatten] at this
                          omega
                        have hwt0 : 0 ≤ (total st.fr : Int) - st.begun := by omega
                        have hoq : ∀ j, W1.heap.size ≤ j → ¬ OqS Ad.bq Ad.cq D.vI D.vB j := by
                          rintro j hj (rfl | rfl | e | e)
                          · have := P1.out.oq.ln.blk.lt
                            omega
                          · have := P1.out.oq.bq.blk.lt
                            omega
                          · have := P1.out.oq.ln.row.lt j e
                            omega
                          · have := P1.out.oq.bq.row.lt j e
                            omega
                        have c9 := hpX.c9.cell 0
                        have HFS := Lib.hid hfs
                        have HF19 := Lib.hid hf19
                        have NF := Lib.hid hnf
                        have PX := Lib.hid hpX
                        have SX := Lib.hid hsX
                        have HOQ := Lib.hid hoq
                        have HWt := Lib.hid (fun m => shWaits_any (PX.out.she.drewN m) (by omega) (by omega) htf hfl2)
                        clear hnf hpX hsX hoq hfs hf19 htk hb11
                        go_upto_region 29 with fail
                        go_cut [137] from 129 to 137 (fun v wx => v = .bool false ∧ wx = wr)
                        case first =>
                          by_cases hlt : k < y.lengths.length
                          · have h4 : decide ((k : Int) < 4) = false := by
                              rw [decide_eq_false_iff_not]
                              omega
                            go_wp2_with fail
                            go_meet
                            exact ⟨rfl, rfl⟩
                          · go_wp2_with fail
                            go_meet
                            exact ⟨rfl, rfl⟩
                        case rest =>
                        obtain ⟨rfl, hw⟩ := hcut
                        rw [hw]
                        clear hw hin
                        by_cases he : hasEmpty fs = true
                        · rw [he]
                          have HE := Lib.hid he
                          have HQ := Lib.hid (oqPush_empty PX.out.oq o fs _ NF.out.frs (by omega) he)
                          clear he
                          go_wp2_with (first | (go_at_call 8; refine (num_any _ _).mono ?_; rintro e w' ⟨rfl, rfl⟩) | (go_at_call 11; go_must (refine HQ.out.mono ?_; rintro e w' ⟨rfl, rfl⟩)))
                          refine Met.intro (HJ.out _ _ ⟨At5.intro, SX.out, step_ok HO.out h0 h1 hn255, D, ?_⟩)
                          rw [St.step_none hk2 (HFS.out ▸ HE.out)]
                          exact PX.out.weak (by omega) (by omega)
                        · have he2 : hasEmpty fs = false := by simpa using he
                          have HE2 := Lib.hid he
                          rw [he2]
                          by_cases hfit : room < (total st.fr : Int) - st.begun + total fs
                          · have hq := oqPush_full PX.out.oq o fs _ NF.out.frs (by omega) he2 (by omega) (by omega)
                            have HQ := Lib.hid hq
                            clear hq he he2
                            go_wp2_with (first | (go_at_call 8; refine (num_any _ _).mono ?_; rintro e w' ⟨rfl, rfl⟩) | (go_at_call 10; refine (HWt.out 0).mono ?_; rintro e w' ⟨rfl, rfl⟩) | (go_at_call 11; go_must (refine HQ.out.mono ?_; rintro e w' ⟨rfl, m, rfl⟩)))
                            obtain ⟨hp3, hst3⟩ := PX.out.new_ ((Keep.refl _ wr).drewN m)
                            refine Met.intro (HJ.out _ _ ⟨At5.intro, SX.out.trans hst3, step_ok HO.out h0 h1 hn255, D, ?_⟩)
                            rw [St.step_full hk2 (HFS.out ▸ HE2.out) (by rw [HFS.out]; unfold St.waits; omega)]
                            exact hp3.weak (by omega) (by omega)
                          · obtain ⟨ws, hV0, hws⟩ := PX.out.she.vs
                            obtain ⟨AV, cV, hV⟩ := hV0.slice
                            have x2 : wr.cell? ⟨Ad.bx, 2, none⟩ = some (.slice AV st.fr.length cV) := by
                              rw [← hV]
                              exact PX.out.she.blk.cell 2
                            have f2 := PX.out.she.blk.frozen 2
                            obtain ⟨Ao, co, rfl⟩ := NF.out.row.slice
                            obtain ⟨Ao', co', hoo, hsrc⟩ := (NF.out.row.sees (ok := fun _ => True) (fun _ _ => trivial)).src NF.out.one
                            injection hoo with hoo1 _ hoo2
                            subst hoo1
                            have HSR := Lib.hid hsrc
                            have HV0 := Lib.hid hV0
                            have HV := Lib.hid hV
                            have HWS := Lib.hid hws
                            have hVx : ¬ some Ad.bx = D.V.ownBlock := hV0.ne_blk PX.out.she.blk (by decide)
                            have hV9 : ¬ some Ad.b9 = D.V.ownBlock := hV0.ne_blk PX.out.c9 (by decide)
                            have HVX := Lib.hid hVx
                            have HV9 := Lib.hid hV9
                            have HE3 := Lib.hid he2
                            clear hV0 hV hws hsrc hVx hV9 he he2 hoo2
                            go_upto_region 39 with (first | (go_at_call 10; refine (HWt.out 0).mono ?_; rintro e w' ⟨rfl, rfl⟩))
                            go_cut [] from 170 to 178 (fun wx => ∃ V1, (PI Ad { D with V := V1 } w.heap.size w room (4 * i) (80 * i) (lensOf st.fr) (st.fr.flatten.drop st.begun) st.begun (st.fr ++ fs) st.begun st.left st.gone st.sh st.left st.gone st.sh wx ∧ Still wr wx) ∧ NewFrs W1 wx (.slice Ao fs.length co) fs vs)
                            case first =>
                              refine wp_region_noPanic ?_
                              go_region_law (first | (refine step_append_row (by rfl) _ _ 38 (by rfl) ty38 (v := .slice AV st.fr.length cV) (n := st.fr.length) (xs := ws) (by rfl) ?h1 _ _ _ vs (by rfl) ?h2 ?h3 ?h4 ?_; go_must ((case h1 => rw [← HV.out]; exact HV0.out); (case h2 => exact HSR.out); (case h3 => simp only [Go.maxLen]; omega); (case h4 => omega); intro v1 wg hr1 hk1 ho1; rw [← HV.out] at hk1 ho1; obtain ⟨A1, c1, rfl⟩ := hr1.slice; have q9 := (PX.out.c9.keep (S := fun k => some k = D.V.ownBlock) (by first | exact hk1 | exact ((Keep.refl _ _).drew).trans hk1) HV9.out).cell 0; have q2 := (PX.out.she.blk.keep (S := fun k => some k = D.V.ownBlock) (by first | exact hk1 | exact ((Keep.refl _ _).drew).trans hk1) HVX.out).cell 2; have g2 := (PX.out.she.blk.keep (S := fun k => some k = D.V.ownBlock) (by first | exact hk1 | exact ((Keep.refl _ _).drew).trans hk1) HVX.out).frozen 2; have R1 := Lib.hid hr1; have K1 := Lib.hid hk1; have O1 := Lib.hid ho1; clear hr1 hk1 ho1)))
                              all_goals
                                refine NoPanic.normal ?_
                                go_wp2_with fail
                                go_meet
                                obtain ⟨hpd, hstd⟩ := PX.out.new_ ((Keep.refl _ wr).drewN 1)
                                have hres := hpd.push_ (W0 := W1) P1.out (NF.out.keep ((Keep.refl (fun _ => False) wr).drewN 1) (fun _ _ _ h => h)) (HV0.out.drewN 1) HWS.out R1.out K1.out O1.out
                                exact ⟨_, ⟨hres.1.1, hstd.trans hres.1.2⟩, hres.2⟩
                            case rest =>
                              obtain ⟨V1, ⟨hp3, hst3⟩, hnf3⟩ := hcut
                              have hq := oqPush_ok hp3.oq _ fs _ hnf3.frs HOQ.out (by omega) HE3.out (by show D.all.length + _ ≤ _; omega) (by show D.lens.length + _ ≤ _; omega) (fun x hx => by have := HF19.out x hx; omega) (by show ((D.all.length - D.gB : Nat) : Int) + _ ≤ _; omega)
                              have HQ := Lib.hid hq
                              have P3 := Lib.hid hp3
                              have T3 := Lib.hid hst3
                              clear hq hp3 hst3 hnf3 x2 f2 c9
                              go_wp2_with (first | (go_at_call 8; refine (num_any _ _).mono ?_; rintro e w' ⟨rfl, rfl⟩) | (go_at_call 11; go_must (refine HQ.out.mono ?_; rintro e w5 ⟨rfl, hto⟩; obtain ⟨⟨D5, hp5⟩, hst5⟩ := P3.out.que_ hto; have P5 := Lib.hid hp5; have T5 := Lib.hid hst5; clear hto hp5 hst5)))
                              refine Met.intro (HJ.out _ _ ⟨At5.intro, (SX.out.trans T3.out).trans T5.out, step_ok HO.out h0 h1 hn255, D5, ?_⟩)
                              rw [St.step_push hk2 (HFS.out ▸ HE2.out) (by rw [HFS.out]; unfold St.waits; omega), HFS.out]
                              have hp5 := P5.out
                              rw [P3.out.hl, P3.out.ha] at hp5
                              have hdl : lensOf (st.fr ++ fs) = lensOf st.fr ++ lensOf fs := by simp [lensOf]
                              have hdd : (st.fr ++ fs).flatten.drop st.begun = st.fr.flatten.drop st.begun ++ fs.flatten := by
                                rw [List.flatten_append, List.drop_append_of_le_length (by rw [total_flatten]; exact hbt)]
                              show PI Ad D5 _ _ _ _ _ (lensOf (st.fr ++ fs)) ((st.fr ++ fs).flatten.drop st.begun) _ (st.fr ++ fs) _ _ _ _ _ _ _ _
                              rw [hdl, hdd]
                              exact hp5.weak (by show D.lens.length + _ ≤ _; omega) (by show D.all.length + _ ≤ _; omega)
                  -- </k0>
        case rest => as_aux_lemma =>
          rintro a W2 ⟨hat, hst2, hok2, D2, hp2⟩
          revert hat
          revert a
          refine At5.all ?_
          clear p0 p1 p2 B11 P1 HS1
          intro u11 u12 u13 u14 u15 u16 u17 u18 u19 u20 u21 u22 u23 u24 u25 u26 u27 u28 u29 u30 u31 u32 u33 u34 u35 u36 u37 u38 u39 u40 u41 u42 u43 u44 u45 u46 u47 u48 u49 u50 u51 u52 u53 u54 u55 u56 u57 u58 u59 u60 u61 u62 u63 u64 u65 u66 u67 u68 u69 u70 u71 u72 u73 u74 u75 u76 u77 u78 u79 u80 u81 u82 u83 u84 u85 u86 u87 u88 u89 u90 u91 u92 u93 u94 u95 u96 u97 u98 u99 u100 u101 u102 u103 u104 u105 u106 u107 u108 u109 u110 u111 u112 u113 u114 u115 u116 u117 u118 u119 u120 u121 u122 u123 u124 u125 u126 u127 u128 u129 u130 u131 u132 u133 u134 u135 u136 u137 u138 u139 u140 u141 u142 u143 u144 u145 u146 u147 u148 u149 u150 u151 u152 u153 u154 u155 u156 u157 u158 u159 u160 u161 u162 u163 u164 u165 u166 u167 u168 u169 u170 u171 u172 u173 u174 u175 u176 u177 u178 u179 u180 u181 u182 u183 u184 u185 u186 u187 u188 u189 u190 u191 u192 u193 u194 u195 u196 u197 u198 u199 u200 u201 u202 u203 u204 u205 u206 u207 u208 u209 u210 u211 u212 u213 u214 u215 u216 u217 u218 u219 u220 u221 u222 u223 u224 u225 u226 u227 u228 u229 u230 u231 u232 u233 u234 u235 u236 u237 u238 u239 u240 u241 u242 u243 u244 u245 u246 u247 u248 u249 u250 u251 u252 u253 u254 u255 u256 u257 u258 u259 u260 u261 u262 u263 u264 u265 u266 u267 u268 u269 u270 u271 u272 u273 u274 u275 u276 u277 u278 u279 u280 u281 u282 u283 u284 u285 u286 u287 u288 u289 u290 u291 u292 u293 u294 u295 u296 u297 u298 u299 u300 u301 u302 u303 u304 u305 u306 u307 u308 u309 u310 u311 u312 u313 u314 u315 u316 u317 u318 u319 u320 u321 u322 u323 u324 u325 u326 u327 u328 u329 u330 u331 u332 u333 u334 u335 u336 u337 u338 u339 u340 u341 u342 u343 u344 u345 u346 u347 u348 u349 u350 u351 u352 u353 u354 u355 u356 u357 u358 u359 u360 u361 u362 u363 u364 u365 u366 u367 u368 u369 u370 u371 u372 u373 u374 u375 u376 u377 u378 u379 u380 u381 u382 u383 u384 u385 u386 u387 u388 u389 u390 u391 u392 u393 u394 u395 u396 u397 u398 u399 u400 u401 u402 u403 u404 u405 u406 u407 u408 u409 u410 u411 u412 u413 u414 u415 u416 u417 u418 u419 u420 u421 u422 u423 u424 u425 u426 u427 u428 u429 u430 u431 u432 u433 u434 u435 u436 u437 u438 u439 u440 u441 u442 u443 u444 u445 u446 u447 u448 u449 u450 u451 u452 u453 u454 u455 u456 u457 u458 u459 u460 u461 u462 u463 u464 u465 u466 u467 u468 u469 u470 u471 u472 u473 u474 u475 u476 u477 u478 u479 u480 u481 u482 u483 u484 u485 u486 u487 u488 u489 u490 u491 u492 u493 u494 u495 u496 u497 u498 u499 u500 u501 u502 u503 u504 u505 u506 u507 u508 u509 u510 u511 u512 u513 u514 u515 u516 u517 u518 u519 u520 u521 u522 u523 u524 u525 u526 u527 u528 u529 u530 u531 u532 u533 u534 u535 u536 u537 u538 u539 u540 u541
          dsimp only
          have hnext : runTurns room (i + 1) (ys.drop (i + 1)) (st.step room i y) = runTurns room 0 ys St.start := by
            rw [← HRU.out, ← List.getElem_cons_drop hlt]
            have hyy : ys[i] = y := by
              have := HY.out
              rw [List.getElem?_eq_getElem hlt] at this
              exact Option.some.inj this
            rw [hyy]
            rfl
          have HN := Lib.hid hnext
          have T2 := Lib.hid (T1.out.trans hst2)
          clear hnext hst2 T1 HRU HY HO HL
          generalize st.step room i y = st2 at *
          obtain ⟨wt, hwt⟩ : ∃ wt : Int, (total st2.fr : Int) - st2.begun = wt := ⟨_, rfl⟩
          have hbt : st2.begun ≤ total st2.fr := begun_le hok2.f
          have hwt0 : 0 ≤ wt := by omega
          have hwt1 : wt ≤ 60 := by
            have := hok2.w
            unfold St.waits at this
            omega
          have hlens : D2.lens.length - D2.gI = st2.fr.length := by
            have := congrArg List.length hp2.hl
            simpa [lensOf] using this
          have halls : ((D2.all.length - D2.gB : Nat) : Int) = wt := by
            have := congrArg List.length hp2.ha
            rw [List.length_drop, List.length_drop, total_flatten] at this
            omega
          have hfl : st2.fr.length ≤ 1048576 := by
            have := hp2.ll
            omega
          have htf : total st2.fr ≤ 1048576 := by
            have := begun_le19 hok2.f hok2.n
            omega
          have hbe : (st2.begun : Int) ≤ 1048576 := by
            have := begun_le19 hok2.f hok2.n
            omega
          have hWt := fun m => shWaits_any (hp2.she.drewN m) (by omega) hbe htf hfl
          have hLn := fun m => oqLen_any (hp2.oq.drewN m)
          have hFr := fun m => oqFrames_any (hp2.oq.drewN m)
          have hBg := fun m => oqBegun_any (hp2.oq.drewN m)
          have hRm := fun m => oqRoom_any (hp2.oq.drewN m)
          rw [hwt] at hWt
          simp only [halls] at hLn hRm
          simp only [hlens] at hFr
          have HWt := Lib.hid hWt
          have HLn := Lib.hid hLn
          have HFr := Lib.hid hFr
          have HBg := Lib.hid hBg
          have HRm := Lib.hid hRm
          have c9 := hp2.c9.cell 0
          have x1 := hp2.she.blk.cell 1
          have x3 := hp2.she.blk.cell 3
          have x4 := hp2.she.blk.cell 4
          have x5 := hp2.she.blk.cell 5
          obtain ⟨AV, cV, hV⟩ := hp2.she.len
          have x2 : W2.cell? ⟨Ad.bx, 2, none⟩ = some (.slice AV st2.fr.length cV) := by
            rw [← hV]
            exact hp2.she.blk.cell 2
          have H2 := Lib.hid hp2
          have O2 := Lib.hid hok2
          have HWT := Lib.hid hwt
          have HHL := Lib.hid hlens
          clear hp2 hok2 hwt hlens halls hWt hLn hFr hBg hRm hV
          go_wp2_with fail
          go_quiet (first | (go_at_call 19; exact quiet_call (HLn.out _)) | (go_at_call 10; exact quiet_call_same (HWt.out _)) | (go_at_call 20; exact quiet_call (HFr.out _)) | (go_at_call 21; exact quiet_call_same (HBg.out _)) | (go_at_call 22; exact quiet_call (HRm.out _)) | (go_at_call 23; exact quiet_call_same (wLeft_any (Blk.drewN H2.out.wi _))) | (go_at_call 24; exact quiet_call_same (wGone_any (Blk.drewN H2.out.wi _))) | (go_at_call 25; exact quiet_call_same (wOpen_any (Blk.drewN H2.out.wi _))))
          have hk3 : Keep (fun k => W2.heap.size ≤ k) W2 (W2.drewN nq) := (Keep.refl _ W2).drewN nq
          obtain ⟨hp3, hst3⟩ := H2.out.new_ hk3
          have T3 := Lib.hid (T2.out.trans hst3)
          generalize W2.drewN nq = W3 at *
          have hk4 : Keep (fun k => W3.heap.size ≤ k) W3 (W3.alloc (.cells #[.int .i64 0] 3)) := (Keep.refl _ W3).alloc _
          have hll : D2.lens.length ≤ 1048576 := by
            have := hp3.ll
            omega
          have hAll := oqAll_any (hp3.new_ hk4).1.oq hll
          rw [hp3.hl, HHL.out] at hAll
          have HAll := Lib.hid hAll
          have H3 := Lib.hid hp3
          have HK4 := Lib.hid hk4
          clear hk3 hst3 T2 H2 c9 x1 x2 x3 x4 x5 HWt HLn HFr HBg HRm hp3 hAll hk4
          go_wp2_with (first | (go_at_call 26; go_must (refine HAll.out.mono ?_; rintro e W4 ⟨B, r, rfl, hB, hb, hr, ho, hk⟩; have BB := Lib.hid hB; have B4 := Lib.hid hb; have R4 := Lib.hid hr; have O4 := Lib.hid ho; have K4 := Lib.hid hk; have hqn := eql_func_nil B W4; clear hB hb hr ho hk)))
          have hA4 := H3.out.new_ HK4.out
          have hk5 : Keep (fun k => (W3.alloc (.cells #[.int .i64 0] 3)).heap.size ≤ k) (W3.alloc (.cells #[.int .i64 0] 3)) W4 := Keep.of_below K4.out
          have hA5 := hA4.1.new_ hk5
          have h45 : Blk W4 W3.heap.size 3 #[.int .i64 0] := (Blk.new W3 3 #[.int .i64 0]).keep hk5 (by simp)
          have KW4 := Lib.hid (HK4.out.then hk5 (fun j hj e => by simp only [World.size_alloc] at e; omega))
          have B45 := Lib.hid h45
          have hBl := BB.out
          have hOl := O4.out
          simp only [World.size_alloc] at hBl hOl
          have hx9 : Ad.b9 < W3.heap.size := H3.out.c9.lt
          have hxx : Ad.bx < W3.heap.size := H3.out.she.blk.lt
          have OL := Lib.hid hOl
          clear hA4 hk5 hA5 h45 HAll HK4 BB O4 K4 hqn hOl
          obtain ⟨xs, hxs⟩ : ∃ xs, waitsOf (lensOf st2.fr) st2.begun = xs := ⟨_, rfl⟩
          have hxl : xs.length = st2.fr.length := by rw [← hxs, waitsOf_len, lensOf_len]
          rw [hxs, ← hxl] at R4
          have HXS := Lib.hid hxs
          have HXL := Lib.hid hxl
          clear hxs hxl
          refine (wpIn_wide (n := 5)).1 (wpIn_range_all (gf := 50) (lb := #[.pointer (some ⟨B, 0, none⟩)]) rfl (enters_of Try.func50 (by kernel_rfl) rfl) (fun k => #[.int .i64 k, .int .i64 (xs.getD k 0)]) xs.length (fun _ => rfl)
            (fun k W => Keep (fun j => j = W3.heap.size) W4 W ∧ Blk W W3.heap.size 3 #[.int .i64 k]) ?own ?init ?a1 ?seq ?assign ?body ?done)
          case own =>
            rintro k X X' row ⟨hk, hb⟩ hg hrow
            have hkr := Keep.of_grownBy hg
            have hlt := B45.out.lt
            exact ⟨hk.then hkr (fun j hj e => by have := (hrow j e.symm).1; omega), hb.keep hkr (fun e => by have := (hrow _ e.symm).1; omega)⟩
          case init => exact ⟨Keep.refl _ _, B45.out⟩
          case seq =>
            intro l J X hJI hY hJ0
            refine oqAll1_in l B r xs (by rw [HXL.out]; exact hfl) _ J (fun k X h => ⟨B4.out.keep h.1 (by omega), R4.out.keep h.1 (fun j hj => by have := OL.out j hj; omega)⟩) hJI hY X hJ0
          case assign =>
            intro l k X K hK
            gi_wp2
            exact hK
          case body =>
            rintro l k X ⟨hk, hb⟩ hlt
            obtain ⟨hpX, _⟩ := H3.out.new_ (KW4.out.then hk (fun j hj e => by omega))
            have hlf : k < st2.fr.length := by rw [← HXL.out]; exact hlt
            have c9 := hpX.c9.cell 0
            have x1 := hpX.she.blk.cell 1
            obtain ⟨AV, cV, hV⟩ := hpX.she.len
            have x2 : X.cell? ⟨Ad.bx, 2, none⟩ = some (.slice AV st2.fr.length cV) := by
              rw [← hV]
              exact hpX.she.blk.cell 2
            have hF := hpX.she.frs
            rw [hV] at hF
            obtain ⟨gx, off2, A', c', rfl, _, hc, _⟩ := hF.at_ hlf
            have y0 := hb.cell 0
            have yf := hb.frozen 0
            have hxk : xs.getD k 0 = if k = 0 then ((st2.fr[k].length : Nat) : Int) - st2.begun else ((st2.fr[k].length : Nat) : Int) := by
              rw [← HXS.out]
              exact waits_get hlf
            have hf19 : st2.fr[k].length ≤ 19 := O2.out.n _ (List.getElem_mem _)
            have hkb : (k : Int) ≤ 1048576 := by omega
            have HB := Lib.hid hb
            have HKX := Lib.hid hk
            clear hpX hF hV hb hk
            rw [List.getD_eq_getElem?_getD] at hxk
            generalize xs[k]?.getD 0 = x at *
            by_cases hk0 : k = 0
            · rw [if_pos hk0] at hxk
              subst hxk
              have hk0i : ((k : Int) == 0) = true := by simp [hk0]
              clear hk0
              gi_wp2
              have hcast : (k : Int) + 1 = ((k + 1 : Nat) : Int) := by omega
              rw [hcast]
              exact ⟨(KeepsOthers.setCell _ _ _).from _, HKX.out.setCell (fun _ => rfl) _, HB.out.set_ 0 _⟩
            · rw [if_neg hk0] at hxk
              subst hxk
              have hk0i : ((k : Int) == 0) = false := beq_eq_false_iff_ne.2 (by omega)
              gi_wp2
              have hcast : (k : Int) + 1 = ((k + 1 : Nat) : Int) := by omega
              rw [hcast]
              exact ⟨(KeepsOthers.setCell _ _ _).from _, HKX.out.setCell (fun _ => rfl) _, HB.out.set_ 0 _⟩
          case done =>
            rintro D X hD ⟨hk, hb⟩ hd
            obtain ⟨hpX, hsX⟩ := H3.out.new_ (KW4.out.then hk (fun j hj e => by omega))
            rw [HXL.out] at hb
            have c9 := hpX.c9.cell 0
            obtain ⟨AV, cV, hV⟩ := hpX.she.len
            have x2 : X.cell? ⟨Ad.bx, 2, none⟩ = some (.slice AV st2.fr.length cV) := by
              rw [← hV]
              exact hpX.she.blk.cell 2
            have y0 := hb.cell 0
            have HPX := Lib.hid hpX
            have HSX := Lib.hid hsX
            have HKX := Lib.hid hk
            have HD := Lib.hid hd
            clear hpX hsX hV hb hk hd
            go_wp2_with fail
            go_quiet (fail)
            go_wp2_with fail
            have hcast : (i : Int) + 1 = ((i + 1 : Nat) : Int) := by omega
            obtain ⟨hpN, hsN⟩ := HPX.out.new_ ((Keep.refl _ X).drewN nq)
            have hsA := T3.out.trans (HSX.out.trans hsN)
            have hWX : W.heap.size ≤ D := Nat.le_trans (T3.out.trans (Still.of_keep (KW4.out) (fun k h1 h2 => by omega))).1 hD
            refine ⟨⟨i + 1, _, st2, by omega, ?_, Marks.cons HM.out (HM.out.still hsA) (Nat.le_trans (HPX.out.n0s) (Nat.le_trans (Nat.le_trans HM0.out T3.out.1) (Nat.le_trans KW4.out.size hD))) hWX HD.out, ⟨O2.out, D2, hpN⟩, HN.out⟩, ?_⟩
            · rw [hcast]
              exact At5.intro
            · simp [intOf]
              omega
    · as_aux_lemma =>
      have hrun2 : st.gone = (runTurns room 0 ys St.start).gone := by
        rw [← hrun, List.drop_of_length_le (by omega)]
        rfl
      have HR2 := Lib.hid hrun2
      have c9 := hpi.c9.cell 0
      have cx := hpi.she.blk.cell 4
      have c4 := hpi.c4.cell 0
      have c5 := hpi.c5.cell 0
      have f4 := hpi.c4.frozen 0
      have f5 := hpi.c5.frozen 0
      have n45 : Ad.b4 ≠ Ad.b5 := Blk.ne hpi.c4 hpi.c5 (by decide)
      have H := Lib.hid hpi
      have HM := Lib.hid hm
      have HM0 := Lib.hid hpi.bel.size
      have HO := Lib.hid hok
      clear hpi hm hok hrun hrun2
      go_wp2_with fail
      have hk2 : Keep (fun k => k = Ad.b4 ∨ k = Ad.b5) W ((W.setCell ⟨Ad.b4, 0, none⟩ (.int .u64 st.gone)).setCell ⟨Ad.b5, 0, none⟩ (.bool true)) := ((Keep.refl (fun k => k = Ad.b4 ∨ k = Ad.b5) W).setCell (fun _ => .inl rfl) _).setCell (fun _ => .inr rfl) _
      rw [← HR2.out]
      refine ends_marks (b4 := Ad.b4) (b5 := Ad.b5) (HM.out.keep hk2 (fun D hD e => ?_)) ((H.out.c4.set_ 0 _).far n45 _) ((H.out.c5.far (Ne.symm n45) _).set_ 0 _) (H.out.bel.trans (hk2.below H.out.bel.size (fun k e => e.elim (fun e => e ▸ H.out.base.1) (fun e => e ▸ H.out.base.2.1)))) (Nat.le_refl _) rfl rfl
      rcases e with rfl | rfl
      · exact absurd (H.out.c4.symm.trans hD) (by simp)
      · exact absurd (H.out.c5.symm.trans hD) (by simp)
end Go.Proofs.Ytcahmhenlpplcaa
