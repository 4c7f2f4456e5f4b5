/- The walks (printed by a program of ours). -/
import Derived.Test.YtjpmbedipdkakaaW2
namespace Go.Proofs.Ytjpmbedipdkakaa
open Go Go.Fw
set_option linter.unusedVariables false
set_option maxRecDepth 8000
set_option maxHeartbeats 1000000
theorem W_law20_PostPlays {I : IH} {a0 : Int} {a1 : List Law20_Act} {p1 : Option Addr} {c2 : Nat} {Q : Bool → Prop} (R3 : RepSl eLaw20_Act I p1 c2 a1) (hd : law20_PostPlays a0 a1 Q) :
    PFun Try.prog 4 [.int .i64 a0, .slice p1 a1.length c2] I (fun I_ v => ∃ r, v = .bool r ∧ Q r) := by
  refine Fun.enter Try.func4 rfl Try.ntmps4 rfl (.c (.c .n)) fun w0 M => ?_
  refine .seq ?_
  refine .region ?_
  refine .skips 1 rfl ?_
  refine .nil' fun c w ho hs => Cod.at (E := [(0, _), (1, _)]) (ho.sub ⟨rfl, rfl, trivial⟩) hs ?_
  refine .seq ?_
  refine .region ?_
  refine .skips 1 rfl ?_
  have hw44 := W_post_New_i17 (I := I) (a0 := a0) hd
  refine .callS (.f Try.call6 rfl) .n hw44 rfl rfl fun v48 I45 l49 hl46 hv47 => ?_
  rcases hv47 with hv47 | hv47
  · obtain ⟨r50, rfl, rfl, hd⟩ := hv47
    have le62 := IH.le.trans (.refl _) hl46
    replace R3 := R3.mono hl46
    refine .re (m' := []) rfl ?_
    refine .skips 1 rfl ?_
    refine .extract rfl rfl rfl rfl ?_
    refine .extract rfl rfl rfl rfl ?_
    refine .skips 2 rfl ?_
    refine .nil' fun c w ho hs => Cod.at (E := [(0, _), (1, _), (5, _), (6, _)]) (ho.sub ⟨rfl, rfl, rfl, rfl, trivial⟩) hs ?_
    refine .seq ?_
    refine .region ?_
    refine .skips 1 rfl ?_
    have hw95 := W_ref20_New_i19 (I := I45) (a0 := a0) hd
    refine .callS (.f Try.call14 rfl) .n hw95 rfl rfl fun v99 I96 l100 hl97 hv98 => ?_
    rcases hv98 with hv98 | hv98
    · obtain ⟨r101, rfl, rfl, hd⟩ := hv98
      have le109 := IH.le.trans le62 hl97
      replace R3 := R3.mono hl97
      refine .re (m' := []) rfl ?_
      refine .skips 1 rfl ?_
      refine .extract rfl rfl rfl rfl ?_
      refine .extract rfl rfl rfl rfl ?_
      refine .skips 2 rfl ?_
      refine .nil' fun c w ho hs => Cod.at (E := [(0, _), (1, _), (5, _), (6, _), (7, _), (8, _)]) (ho.sub ⟨rfl, rfl, rfl, rfl, rfl, rfl, trivial⟩) hs ?_
      refine .seq ?_
      refine .seq ?_
      refine .region ?_
      refine .skips 2 rfl ?_
      refine .ne rfl rfl rfl rfl ?_
      refine .skips 1 rfl ?_
      refine split (r50 != r101) (fun hb111 => ?_) (fun hb111 => ?_)
      · have hd := hd.1 hb111
        rw [hb111]
        refine .skips 6 rfl ?_
        refine .nil' fun c w ho hs => Cod.at (E := [(0, _), (1, _), (5, _), (7, _), (30, _)]) (ho.sub ⟨rfl, rfl, rfl, rfl, rfl, trivial⟩) hs ?_
        refine .condKT rfl rfl ?_
        refine .seq ?_
        refine .region ?_
        refine .skips 1 rfl ?_
        refine .nil' fun c w ho hs => Cod.at (E := [(4, _)]) (ho.sub ⟨rfl, trivial⟩) hs ?_
        exact .ret (pret Try.results4 (.t rfl .n) le109 ⟨false, rfl, hd⟩)
      · have hd := hd.2 hb111
        rw [hb111]
        refine .gyes rfl rfl rfl (.move rfl rfl rfl ?_)
        refine .gyes rfl rfl rfl (.eqNilP Try.underlying22 rfl rfl rfl rfl ?_)
        refine .gyes rfl rfl rfl (.move rfl rfl rfl ?_)
        refine .gyes rfl rfl rfl (.eqNilP Try.underlying42 rfl rfl rfl rfl ?_)
        refine .gyes rfl rfl rfl (.neB Try.underlying4 rfl rfl rfl rfl ?_)
        refine .skips 1 rfl ?_
        refine .nil' fun c w ho hs => Cod.at (E := [(0, _), (1, _), (5, _), (7, _), (30, _)]) (ho.sub ⟨rfl, rfl, rfl, rfl, rfl, trivial⟩) hs ?_
        refine .condKF rfl rfl ?_
        refine .skip' fun c w ho hs => Cod.at (E := [(0, _), (1, _), (5, _), (7, _)]) (ho.sub ⟨rfl, rfl, rfl, rfl, trivial⟩) hs ?_
        refine .seq ?_
        refine .seq ?_
        refine .region ?_
        refine .skips 1 rfl ?_
        refine .eqNilP Try.underlying22 rfl rfl rfl rfl ?_
        refine .nil' fun c w ho hs => Cod.at (E := [(0, _), (1, _), (5, _), (7, _), (32, _)]) (ho.sub ⟨rfl, rfl, rfl, rfl, rfl, trivial⟩) hs ?_
        refine .condKT rfl rfl ?_
        refine .seq ?_
        refine .region ?_
        have hw210 := W_law20_live (I := I96) hd
        refine .call Try.call11 rfl hw210 rfl rfl fun v208 I205 hl206 hv207 => ?_
        obtain ⟨r204, rfl, hd⟩ := hv207
        have le211 := IH.le.trans le109 hl206
        replace R3 := R3.mono hl206
        refine .skips 1 rfl ?_
        refine split r204 (fun hb212 => ?_) (fun hb212 => ?_)
        · have hd := hd.1 hb212
          rw [hb212]
          refine .gyes rfl rfl rfl (.move rfl rfl rfl ?_)
          refine .gyes rfl rfl rfl (.build Try.zeroValue34 Try.underlying34 BI34 .n (by exact trivial) rfl rfl ?_)
          have hw213 := W_post_Box_Send_i20 (I := I205) (a0 := ({ Kind := 0, From := 0, To := 0, Seq := 0, Round := 0, Vec := ({ N := 0, Items := ([] : List Item) } : Vec), Sums := ([] : List Sum), Triples := ([] : List Triple), N := 0, Over := false } : Frame)) (.nil _ none 0) (.nil _ none 0) (.nil _ none 0) hd
          refine .gyes rfl rfl rfl (.callS (.f Try.call7 rfl) .n hw213 rfl rfl fun v217 I214 l218 hl215 hv216 => ?_)
          obtain ⟨r219, rfl, rfl, hd⟩ := hv216
          have le220 := IH.le.trans le211 hl215
          replace R3 := R3.mono hl215
          refine .re (m' := []) rfl ?_
          refine .gyes rfl rfl rfl (.eq rfl rfl rfl rfl ?_)
          refine .skips 2 rfl ?_
          refine split (r219 == 10) (fun hb221 => ?_) (fun hb221 => ?_)
          · have hd := hd.1 hb221
            rw [hb221]
            refine .gyes rfl rfl rfl (.move rfl rfl rfl ?_)
            have hw222 := W_post_Box_Double_i21 (I := I214) (a0 := 0) hd
            refine .gyes rfl rfl rfl (.callS (.f Try.call8 rfl) .n hw222 rfl rfl fun v226 I223 l227 hl224 hv225 => ?_)
            obtain ⟨r228, rfl, rfl, hd⟩ := hv225
            have le229 := IH.le.trans le220 hl224
            replace R3 := R3.mono hl224
            refine .re (m' := []) rfl ?_
            refine .gyes rfl rfl rfl (.eq rfl rfl rfl rfl ?_)
            refine .skips 2 rfl ?_
            refine split (r228 == 10) (fun hb230 => ?_) (fun hb230 => ?_)
            · have hd := hd.1 hb230
              rw [hb230]
              refine .gyes rfl rfl rfl (.move rfl rfl rfl ?_)
              have hw231 := W_post_Box_Move_i23 (I := I223) (a0 := 0) hd
              refine .gyes rfl rfl rfl (.callS (.f Try.call15 rfl) .n hw231 rfl rfl fun v235 I232 l236 hl233 hv234 => ?_)
              obtain ⟨r237, rfl, rfl, hd⟩ := hv234
              have le238 := IH.le.trans le229 hl233
              replace R3 := R3.mono hl233
              refine .re (m' := []) rfl ?_
              refine .gyes rfl rfl rfl (.eq rfl rfl rfl rfl ?_)
              refine .skips 2 rfl ?_
              refine split (r237 == 10) (fun hb239 => ?_) (fun hb239 => ?_)
              · have hd := hd.1 hb239
                rw [hb239]
                refine .gyes rfl rfl rfl (.move rfl rfl rfl ?_)
                have hw240 := W_post_Box_Oldest_i24 (I := I232)  hd
                refine .gyes rfl rfl rfl (.callS (.f Try.call10 rfl) .n hw240 rfl rfl fun v244 I241 l245 hl242 hv243 => ?_)
                obtain ⟨r246, rfl, rfl, hd⟩ := hv243
                have le247 := IH.le.trans le238 hl242
                replace R3 := R3.mono hl242
                refine .re (m' := []) rfl ?_
                refine .gyes rfl rfl rfl (.eq rfl rfl rfl rfl ?_)
                refine .skips 2 rfl ?_
                refine split (r246 == (-1)) (fun hb248 => ?_) (fun hb248 => ?_)
                · have hd := hd.1 hb248
                  rw [hb248]
                  refine .gyes rfl rfl rfl (.move rfl rfl rfl ?_)
                  have hw249 := W_post_Box_Len_i25 (I := I241)  hd
                  refine .gyes rfl rfl rfl (.callS (.f Try.call12 rfl) .n hw249 rfl rfl fun v253 I250 l254 hl251 hv252 => ?_)
                  obtain ⟨r255, rfl, rfl, hd⟩ := hv252
                  have le256 := IH.le.trans le247 hl251
                  replace R3 := R3.mono hl251
                  refine .re (m' := []) rfl ?_
                  refine .gyes rfl rfl rfl (.eq rfl rfl rfl rfl ?_)
                  refine .skips 2 rfl ?_
                  refine split (r255 == 0) (fun hb257 => ?_) (fun hb257 => ?_)
                  · have hd := hd.1 hb257
                    rw [hb257]
                    refine .gyes rfl rfl rfl (.move rfl rfl rfl ?_)
                    have hw258 := W_post_Box_Room_i26 (I := I250)  hd
                    refine .gyes rfl rfl rfl (.callS (.f Try.call16 rfl) .n hw258 rfl rfl fun v262 I259 l263 hl260 hv261 => ?_)
                    obtain ⟨r264, rfl, rfl, hd⟩ := hv261
                    have le265 := IH.le.trans le256 hl260
                    replace R3 := R3.mono hl260
                    refine .re (m' := []) rfl ?_
                    refine .gyes rfl rfl rfl (.eq rfl rfl rfl rfl ?_)
                    refine .skips 2 rfl ?_
                    refine split (r264 == 0) (fun hb266 => ?_) (fun hb266 => ?_)
                    · have hd := hd.1 hb266
                      rw [hb266]
                      refine .gyes rfl rfl rfl (.move rfl rfl rfl ?_)
                      have hw267 := W_post_Box_Sent_i27 (I := I259)  hd
                      refine .gyes rfl rfl rfl (.callS (.f Try.call13 rfl) .n hw267 rfl rfl fun v271 I268 l272 hl269 hv270 => ?_)
                      obtain ⟨r273, rfl, rfl, hd⟩ := hv270
                      have le274 := IH.le.trans le265 hl269
                      replace R3 := R3.mono hl269
                      refine .re (m' := []) rfl ?_
                      refine .gyes rfl rfl rfl (.eq rfl rfl rfl rfl ?_)
                      refine .skips 2 rfl ?_
                      refine split (r273 == 0) (fun hb275 => ?_) (fun hb275 => ?_)
                      · have hd := hd.1 hb275
                        rw [hb275]
                        refine .gyes rfl rfl rfl (.move rfl rfl rfl ?_)
                        have hw276 := W_post_Box_Taken_i28 (I := I268)  hd
                        refine .gyes rfl rfl rfl (.callS (.f Try.call17 rfl) .n hw276 rfl rfl fun v280 I277 l281 hl278 hv279 => ?_)
                        obtain ⟨r282, rfl, rfl, hd⟩ := hv279
                        have le283 := IH.le.trans le274 hl278
                        replace R3 := R3.mono hl278
                        refine .re (m' := []) rfl ?_
                        refine .gyes rfl rfl rfl (.eq rfl rfl rfl rfl ?_)
                        refine .skips 2 rfl ?_
                        refine split (r282 == 0) (fun hb284 => ?_) (fun hb284 => ?_)
                        · have hd := hd.1 hb284
                          rw [hb284]
                          refine .gyes rfl rfl rfl (.move rfl rfl rfl ?_)
                          have hw285 := W_post_Box_Frames_i29 (I := I277)  hd
                          refine .gyes rfl rfl rfl (.callS (.f Try.call18 rfl) .n hw285 rfl rfl fun v289 I286 l290 hl287 hv288 => ?_)
                          obtain ⟨r291, p292, c293, rfl, R294, rfl, hd⟩ := hv288
                          have le295 := IH.le.trans le283 hl287
                          replace R3 := R3.mono hl287
                          refine .re (m' := []) rfl ?_
                          refine .gyes rfl rfl rfl (.len Try.underlying45 rfl rfl rfl rfl ?_)
                          refine .gyes rfl rfl rfl (.eq rfl rfl rfl rfl ?_)
                          refine .skips 2 rfl ?_
                          refine .nil' fun c w ho hs => Cod.at (E := [(4, _)]) (ho.sub ⟨rfl, trivial⟩) hs ?_
                          exact .ret (pret Try.results4 (.t rfl .n) le295 ⟨((r291.length : Int) == 0), rfl, hd⟩)
                        · have hd := hd.2 hb284
                          rw [hb284]
                          refine .skips 6 rfl ?_
                          refine .nil' fun c w ho hs => Cod.at (E := [(4, _)]) (ho.sub ⟨rfl, trivial⟩) hs ?_
                          exact .ret (pret Try.results4 (.t rfl .n) le283 ⟨false, rfl, hd⟩)
                      · have hd := hd.2 hb275
                        rw [hb275]
                        refine .skips 11 rfl ?_
                        refine .nil' fun c w ho hs => Cod.at (E := [(4, _)]) (ho.sub ⟨rfl, trivial⟩) hs ?_
                        exact .ret (pret Try.results4 (.t rfl .n) le274 ⟨false, rfl, hd⟩)
                    · have hd := hd.2 hb266
                      rw [hb266]
                      refine .skips 16 rfl ?_
                      refine .nil' fun c w ho hs => Cod.at (E := [(4, _)]) (ho.sub ⟨rfl, trivial⟩) hs ?_
                      exact .ret (pret Try.results4 (.t rfl .n) le265 ⟨false, rfl, hd⟩)
                  · have hd := hd.2 hb257
                    rw [hb257]
                    refine .skips 21 rfl ?_
                    refine .nil' fun c w ho hs => Cod.at (E := [(4, _)]) (ho.sub ⟨rfl, trivial⟩) hs ?_
                    exact .ret (pret Try.results4 (.t rfl .n) le256 ⟨false, rfl, hd⟩)
                · have hd := hd.2 hb248
                  rw [hb248]
                  refine .skips 26 rfl ?_
                  refine .nil' fun c w ho hs => Cod.at (E := [(4, _)]) (ho.sub ⟨rfl, trivial⟩) hs ?_
                  exact .ret (pret Try.results4 (.t rfl .n) le247 ⟨false, rfl, hd⟩)
              · have hd := hd.2 hb239
                rw [hb239]
                refine .skips 31 rfl ?_
                refine .nil' fun c w ho hs => Cod.at (E := [(4, _)]) (ho.sub ⟨rfl, trivial⟩) hs ?_
                exact .ret (pret Try.results4 (.t rfl .n) le238 ⟨false, rfl, hd⟩)
            · have hd := hd.2 hb230
              rw [hb230]
              refine .skips 36 rfl ?_
              refine .nil' fun c w ho hs => Cod.at (E := [(4, _)]) (ho.sub ⟨rfl, trivial⟩) hs ?_
              exact .ret (pret Try.results4 (.t rfl .n) le229 ⟨false, rfl, hd⟩)
          · have hd := hd.2 hb221
            rw [hb221]
            refine .skips 41 rfl ?_
            refine .nil' fun c w ho hs => Cod.at (E := [(4, _)]) (ho.sub ⟨rfl, trivial⟩) hs ?_
            exact .ret (pret Try.results4 (.t rfl .n) le220 ⟨false, rfl, hd⟩)
        · have hd := hd.2 hb212
          rw [hb212]
          refine .skips 47 rfl ?_
          refine .nil' fun c w ho hs => Cod.at (E := [(4, _)]) (ho.sub ⟨rfl, trivial⟩) hs ?_
          exact .ret (pret Try.results4 (.t rfl .n) le211 ⟨false, rfl, hd⟩)
    · obtain ⟨r102, b104, p105, c106, rfl, rfl, hd⟩ := hv98
      have le296 := IH.le.trans le62 hl97
      replace R3 := R3.mono hl97
      refine .re (m' := [pto b104 (.cells #[.int .i64 r102.2.Many, .int .i64 r102.2.Out, .int .i64 r102.2.In, .slice p105 r102.2.L.length c106] 68 (0, 0)), OwnSl eFrame 34 p105 c106 r102.2.L]) rfl ?_
      refine .skips 1 rfl ?_
      refine .extract rfl rfl rfl rfl ?_
      refine .extract rfl rfl rfl rfl ?_
      refine .skips 2 rfl ?_
      refine .nil' fun c w ho hs => Cod.at (E := [(0, _), (1, _), (5, _), (6, _), (7, _), (8, _)]) (ho.sub ⟨rfl, rfl, rfl, rfl, rfl, rfl, trivial⟩) hs ?_
      refine .seq ?_
      refine .seq ?_
      refine .region ?_
      refine .skips 2 rfl ?_
      refine .ne rfl rfl rfl rfl ?_
      refine .skips 1 rfl ?_
      refine split (r50 != r102.1) (fun hb298 => ?_) (fun hb298 => ?_)
      · have hd := hd.1 hb298
        rw [hb298]
        refine .skips 6 rfl ?_
        refine .nil' fun c w ho hs => Cod.at (E := [(0, _), (1, _), (5, _), (7, _), (30, _)]) (ho.sub ⟨rfl, rfl, rfl, rfl, rfl, trivial⟩) hs ?_
        refine .condKT rfl rfl ?_
        refine .seq ?_
        refine .region ?_
        refine .skips 1 rfl ?_
        refine .nil' fun c w ho hs => Cod.at (E := [(4, _)]) (ho.sub ⟨rfl, trivial⟩) hs ?_
        refine .drop .z ?_
        refine .drop .z ?_
        exact .ret (pret Try.results4 (.t rfl .n) le296 ⟨false, rfl, hd⟩)
      · have hd := hd.2 hb298
        rw [hb298]
        refine .gyes rfl rfl rfl (.move rfl rfl rfl ?_)
        refine .gyes rfl rfl rfl (.eqNilP Try.underlying22 rfl rfl rfl rfl ?_)
        refine .gyes rfl rfl rfl (.move rfl rfl rfl ?_)
        refine .gyes rfl rfl rfl (.eqNilP Try.underlying42 rfl rfl rfl rfl ?_)
        refine .gyes rfl rfl rfl (.neB Try.underlying4 rfl rfl rfl rfl ?_)
        refine .skips 1 rfl ?_
        refine .nil' fun c w ho hs => Cod.at (E := [(0, _), (1, _), (5, _), (7, _), (30, _)]) (ho.sub ⟨rfl, rfl, rfl, rfl, rfl, trivial⟩) hs ?_
        refine .condKT rfl rfl ?_
        refine .seq ?_
        refine .region ?_
        refine .skips 1 rfl ?_
        refine .nil' fun c w ho hs => Cod.at (E := [(4, _)]) (ho.sub ⟨rfl, trivial⟩) hs ?_
        refine .drop .z ?_
        refine .drop .z ?_
        exact .ret (pret Try.results4 (.t rfl .n) le296 ⟨false, rfl, hd⟩)
  · obtain ⟨r51, b53, p54, c55, b59, b61, rfl, rfl, hd⟩ := hv47
    have le299 := IH.le.trans (.refl _) hl46
    replace R3 := R3.mono hl46
    refine .re (m' := [pto b53 (.cells #[.int .i64 r51.2.room, .slice p54 r51.2.row.length c55, .map (some b59), .map (some b61), .int .i64 r51.2.sent, .int .i64 r51.2.taken] 60 (0, 0)), OwnSl eI64 3 p54 c55 r51.2.row, OwnMap (Value.int .i64) eFrame true b59 r51.2.by_, OwnMap (Value.int .i64) eI64 false b61 r51.2.often]) rfl ?_
    refine .skips 1 rfl ?_
    refine .extract rfl rfl rfl rfl ?_
    refine .extract rfl rfl rfl rfl ?_
    refine .skips 2 rfl ?_
    refine .nil' fun c w ho hs => Cod.at (E := [(0, _), (1, _), (5, _), (6, _)]) (ho.sub ⟨rfl, rfl, rfl, rfl, trivial⟩) hs ?_
    refine .seq ?_
    refine .region ?_
    refine .skips 1 rfl ?_
    have hw332 := W_ref20_New_i19 (I := I45) (a0 := a0) hd
    refine .callS (.f Try.call14 rfl) .n hw332 rfl rfl fun v336 I333 l337 hl334 hv335 => ?_
    rcases hv335 with hv335 | hv335
    · obtain ⟨r338, rfl, rfl, hd⟩ := hv335
      have le346 := IH.le.trans le299 hl334
      replace R3 := R3.mono hl334
      refine .re (m' := [pto b53 (.cells #[.int .i64 r51.2.room, .slice p54 r51.2.row.length c55, .map (some b59), .map (some b61), .int .i64 r51.2.sent, .int .i64 r51.2.taken] 60 (0, 0)), OwnSl eI64 3 p54 c55 r51.2.row, OwnMap (Value.int .i64) eFrame true b59 r51.2.by_, OwnMap (Value.int .i64) eI64 false b61 r51.2.often]) rfl ?_
      refine .skips 1 rfl ?_
      refine .extract rfl rfl rfl rfl ?_
      refine .extract rfl rfl rfl rfl ?_
      refine .skips 2 rfl ?_
      refine .nil' fun c w ho hs => Cod.at (E := [(0, _), (1, _), (5, _), (6, _), (7, _), (8, _)]) (ho.sub ⟨rfl, rfl, rfl, rfl, rfl, rfl, trivial⟩) hs ?_
      refine .seq ?_
      refine .seq ?_
      refine .region ?_
      refine .skips 2 rfl ?_
      refine .ne rfl rfl rfl rfl ?_
      refine .skips 1 rfl ?_
      refine split (r51.1 != r338) (fun hb348 => ?_) (fun hb348 => ?_)
      · have hd := hd.1 hb348
        rw [hb348]
        refine .skips 6 rfl ?_
        refine .nil' fun c w ho hs => Cod.at (E := [(0, _), (1, _), (5, _), (7, _), (30, _)]) (ho.sub ⟨rfl, rfl, rfl, rfl, rfl, trivial⟩) hs ?_
        refine .condKT rfl rfl ?_
        refine .seq ?_
        refine .region ?_
        refine .skips 1 rfl ?_
        refine .nil' fun c w ho hs => Cod.at (E := [(4, _)]) (ho.sub ⟨rfl, trivial⟩) hs ?_
        refine .drop .z ?_
        refine .drop .z ?_
        refine .drop .z ?_
        refine .drop .z ?_
        exact .ret (pret Try.results4 (.t rfl .n) le346 ⟨false, rfl, hd⟩)
      · have hd := hd.2 hb348
        rw [hb348]
        refine .gyes rfl rfl rfl (.move rfl rfl rfl ?_)
        refine .gyes rfl rfl rfl (.eqNilP Try.underlying22 rfl rfl rfl rfl ?_)
        refine .gyes rfl rfl rfl (.move rfl rfl rfl ?_)
        refine .gyes rfl rfl rfl (.eqNilP Try.underlying42 rfl rfl rfl rfl ?_)
        refine .gyes rfl rfl rfl (.neB Try.underlying4 rfl rfl rfl rfl ?_)
        refine .skips 1 rfl ?_
        refine .nil' fun c w ho hs => Cod.at (E := [(0, _), (1, _), (5, _), (7, _), (30, _)]) (ho.sub ⟨rfl, rfl, rfl, rfl, rfl, trivial⟩) hs ?_
        refine .condKT rfl rfl ?_
        refine .seq ?_
        refine .region ?_
        refine .skips 1 rfl ?_
        refine .nil' fun c w ho hs => Cod.at (E := [(4, _)]) (ho.sub ⟨rfl, trivial⟩) hs ?_
        refine .drop .z ?_
        refine .drop .z ?_
        refine .drop .z ?_
        refine .drop .z ?_
        exact .ret (pret Try.results4 (.t rfl .n) le346 ⟨false, rfl, hd⟩)
    · obtain ⟨r339, b341, p342, c343, rfl, rfl, hd⟩ := hv335
      have le349 := IH.le.trans le299 hl334
      replace R3 := R3.mono hl334
      refine .re (m' := [pto b341 (.cells #[.int .i64 r339.2.Many, .int .i64 r339.2.Out, .int .i64 r339.2.In, .slice p342 r339.2.L.length c343] 68 (0, 0)), OwnSl eFrame 34 p342 c343 r339.2.L, pto b53 (.cells #[.int .i64 r51.2.room, .slice p54 r51.2.row.length c55, .map (some b59), .map (some b61), .int .i64 r51.2.sent, .int .i64 r51.2.taken] 60 (0, 0)), OwnSl eI64 3 p54 c55 r51.2.row, OwnMap (Value.int .i64) eFrame true b59 r51.2.by_, OwnMap (Value.int .i64) eI64 false b61 r51.2.often]) rfl ?_
      refine .skips 1 rfl ?_
      refine .extract rfl rfl rfl rfl ?_
      refine .extract rfl rfl rfl rfl ?_
      refine .skips 2 rfl ?_
      refine .nil' fun c w ho hs => Cod.at (E := [(0, _), (1, _), (5, _), (6, _), (7, _), (8, _)]) (ho.sub ⟨rfl, rfl, rfl, rfl, rfl, rfl, trivial⟩) hs ?_
      refine .seq ?_
      refine .seq ?_
      refine .region ?_
      refine .skips 2 rfl ?_
      refine .ne rfl rfl rfl rfl ?_
      refine .skips 1 rfl ?_
      refine split (r51.1 != r339.1) (fun hb351 => ?_) (fun hb351 => ?_)
      · have hd := hd.1 hb351
        rw [hb351]
        refine .skips 6 rfl ?_
        refine .nil' fun c w ho hs => Cod.at (E := [(0, _), (1, _), (5, _), (7, _), (30, _)]) (ho.sub ⟨rfl, rfl, rfl, rfl, rfl, trivial⟩) hs ?_
        refine .condKT rfl rfl ?_
        refine .seq ?_
        refine .region ?_
        refine .skips 1 rfl ?_
        refine .nil' fun c w ho hs => Cod.at (E := [(4, _)]) (ho.sub ⟨rfl, trivial⟩) hs ?_
        refine .drop .z ?_
        refine .drop .z ?_
        refine .drop .z ?_
        refine .drop .z ?_
        refine .drop .z ?_
        refine .drop .z ?_
        exact .ret (pret Try.results4 (.t rfl .n) le349 ⟨false, rfl, hd⟩)
      · have hd := hd.2 hb351
        rw [hb351]
        refine .gyes rfl rfl rfl (.move rfl rfl rfl ?_)
        refine .gyes rfl rfl rfl (.eqNilP Try.underlying22 rfl rfl rfl rfl ?_)
        refine .gyes rfl rfl rfl (.move rfl rfl rfl ?_)
        refine .gyes rfl rfl rfl (.eqNilP Try.underlying42 rfl rfl rfl rfl ?_)
        refine .gyes rfl rfl rfl (.neB Try.underlying4 rfl rfl rfl rfl ?_)
        refine .skips 1 rfl ?_
        refine .nil' fun c w ho hs => Cod.at (E := [(0, _), (1, _), (5, _), (7, _), (30, _)]) (ho.sub ⟨rfl, rfl, rfl, rfl, rfl, trivial⟩) hs ?_
        refine .condKF rfl rfl ?_
        refine .skip' fun c w ho hs => Cod.at (E := [(0, _), (1, _), (5, _), (7, _)]) (ho.sub ⟨rfl, rfl, rfl, rfl, trivial⟩) hs ?_
        refine .seq ?_
        refine .seq ?_
        refine .region ?_
        refine .skips 1 rfl ?_
        refine .eqNilP Try.underlying22 rfl rfl rfl rfl ?_
        refine .nil' fun c w ho hs => Cod.at (E := [(0, _), (1, _), (5, _), (7, _), (32, _)]) (ho.sub ⟨rfl, rfl, rfl, rfl, rfl, trivial⟩) hs ?_
        refine .condKF rfl rfl ?_
        refine .skip' fun c w ho hs => Cod.at (E := [(0, _), (1, _), (5, _), (7, _)]) (ho.sub ⟨rfl, rfl, rfl, rfl, trivial⟩) hs ?_
        refine .seq ?_
        refine .region ?_
        refine .skips 2 rfl ?_
        refine .build Try.zeroValue48 Try.underlying48 BI48 (.c rfl rfl rfl (.t .nil) (.c rfl rfl rfl (.s (.t .nil)) .n)) (by exact ⟨⟨_, _, rfl, rfl, rfl⟩, ⟨⟨_, _, rfl, rfl, rfl⟩, trivial⟩⟩) rfl rfl ?_
        refine .allocA Try.zeroValue48 rfl rfl fun b354 => ?_
        refine .storeA Try.sizeOf48 rfl rfl .z (.t (.t .nil)) rfl rfl ?_
        refine .nil' fun c w ho hs => Cod.at (E := [(0, _), (1, _), (5, _), (9, _)]) (ho.sub ⟨rfl, rfl, rfl, rfl, trivial⟩) hs ?_
        refine .seq ?_
        refine .seq ?_
        refine .region ?_
        refine .skips 1 rfl ?_
        refine .nil' fun c w ho hs => Cod.at (E := [(0, _), (1, _), (5, _), (9, _), (10, _)]) (ho.sub ⟨rfl, rfl, rfl, rfl, rfl, trivial⟩) hs ?_
        refine .block ?_
        refine .loop hd (fun (s : Int × (List Int) × (List (Int × Frame)) × (List (Int × Int)) × Int × Int × Int × Int × Int × (List Frame) × Int) c w => match s with | (s507, s508, s512, s513, s514, s515, s516, s517, s518, s519, s523) => ∃ I_ p509 c510 p520 c521, IH.le I333 I_ ∧ Ok 113 [(0, .int .i64 a0), (1, .slice p1 a1.length c2), (5, .pointer (some ⟨b53, 0, none⟩)), (9, .pointer (some ⟨b354, 0, none⟩)), (10, .int .i64 s523)] c ∧ Sym w0 M I I_ [pto b53 (.cells #[.int .i64 s507, .slice p509 s508.length c510, .map (some b59), .map (some b61), .int .i64 s514, .int .i64 s515] 60 (0, 0)), OwnSl eI64 3 p509 c510 s508, OwnMap (Value.int .i64) eFrame true b59 s512, OwnMap (Value.int .i64) eI64 false b61 s513, pto b354 (.cells #[.pointer (some ⟨b53, 0, none⟩), .pointer (some ⟨b341, 0, none⟩)] 48 (0, 0)), pto b341 (.cells #[.int .i64 s516, .int .i64 s517, .int .i64 s518, .slice p520 s519.length c521] 68 (0, 0)), OwnSl eFrame 34 p520 c521 s519] w) (fun c w ho hs => ⟨I333, _, _, _, _, (.refl _), ho.sub ⟨rfl, rfl, rfl, rfl, rfl, trivial⟩, hs.pick (.c (.s (.s (.s .z))) (.c (.s (.s (.s .z))) (.c (.s (.s (.s .z))) (.c (.s (.s (.s .z))) (.c .z (.c .z (.c .z .n)))))))⟩) ?_
        rintro ⟨s507, s508, s512, s513, s514, s515, s516, s517, s518, s519, s523⟩ next524 hd c w hst
        obtain ⟨I525, p509, c510, p520, c521, hl526, hok, hsym⟩ := hst
        have le527 := IH.le.trans le349 hl526
        have le528 := IH.le.trans (.refl _) hl526
        replace R3 := R3.mono hl526
        refine Cod.at hok hsym ?_
        refine .seq ?_
        refine .seq ?_
        refine .region ?_
        refine .skips 2 rfl ?_
        refine .len Try.underlying41 rfl rfl rfl rfl ?_
        refine .lt rfl rfl rfl rfl ?_
        refine .skips 1 rfl ?_
        refine split (decide (s523 < (a1.length : Int))) (fun hb531 => ?_) (fun hb531 => ?_)
        · have hd := hd.1 hb531
          rw [hb531]
          refine .gyes rfl rfl rfl (.move rfl rfl rfl ?_)
          refine .gyes rfl rfl rfl (.lt rfl rfl rfl rfl ?_)
          refine .skips 1 rfl ?_
          refine .nil' fun c w ho hs => Cod.at (E := [(0, _), (1, _), (5, _), (9, _), (10, _), (91, _)]) (ho.sub ⟨rfl, rfl, rfl, rfl, rfl, rfl, trivial⟩) hs ?_
          refine .cond rfl (fun hb532 => ?_) (fun hb532 => ?_)
          · have hd := hd.1 hb532
            refine .skip' fun c w ho hs => Cod.at (E := [(0, _), (1, _), (5, _), (9, _), (10, _)]) (ho.sub ⟨rfl, rfl, rfl, rfl, rfl, trivial⟩) hs ?_
            refine .seq ?_
            refine .block ?_
            refine .seq ?_
            refine .ownF (.s .z) fun hne533 => ?_
            refine .ownF (.s (.s (.s (.s (.s (.s .z)))))) fun hne534 => ?_
            refine .draw [some 0, some 1, some 2, some 3, some 4, some 5, some 6, some 7, some 8, some 9, some 10, some 11] 12 MX (by kernel_rfl) (by kernel_rfl) (by kernel_rfl) (by kernel_rfl) (by kernel_rfl) (by kernel_rfl) (by kernel_rfl) (fun ex => (pto b53 (.cells #[.int .i64 s507, .slice p509 s508.length c510, .map (some b59), .map (some b61), .int .i64 s514, .int .i64 s515] 60 (0, 0))) :: (OwnSl eI64 3 p509 c510 s508) :: (OwnMap (Value.int .i64) eFrame true b59 s512) :: (OwnMap (Value.int .i64) eI64 false b61 s513) :: (pto b354 (.cells #[.pointer (some ⟨b53, 0, none⟩), .pointer (some ⟨b341, 0, none⟩)] 48 (0, 0))) :: (pto b341 (.cells #[.int .i64 s516, .int .i64 s517, .int .i64 s518, .slice p520 s519.length c521] 68 (0, 0))) :: (OwnSl eFrame 34 p520 c521 s519) :: ex) (fun _ _ => (.s (.s (.s (.s (.s (.s (.s .z)))))))) rfl ?_
            refine .f [] rfl (by kernel_rfl) rfl rfl (fun ex => .loadW Try.isAgg48 Try.sizeOf48 rfl (.s (.s (.s (.s .z)))) rfl rfl rfl .mk) ?_
            refine .f [] rfl (by kernel_rfl) rfl rfl (fun ex => .move rfl rfl rfl .mk) ?_
            refine .f [] rfl (by kernel_rfl) rfl rfl (fun ex => .move rfl rfl rfl .mk) ?_
            obtain ⟨h535, x536, hx537, hd⟩ := hd
            obtain ⟨b538, o539, cs540, e541, hC542, hr543⟩ := R3.2 _ _ hx537
            cases hr543
            refine .f [1, 2] rfl (by kernel_rfl) rfl rfl (fun ex => .ixa Try.underlying41 Try.sizeOf51 rfl e541 rfl h535 (idx_lt hx537 h535) rfl rfl .mk) ?_
            refine .f [3] rfl (by kernel_rfl) rfl rfl (fun ex => .ldW Try.isAgg51 Try.sizeOf51 hC542 rfl rfl rfl rfl .mk) ?_
            refine .w [] [[], [4], [3, 4], [3, 4], []] [0, 4] rfl (by kernel_rfl) (by kernel_rfl) (by kernel_rfl) ((dropE_kept rfl rfl)) (.inr (dropE_kept rfl rfl)) fun ex => ?_
            have hw544 := W_law20_both_do_i30 (I := I525) (o0 := ({ room := s507, row := s508, by_ := s512, often := s513, sent := s514, taken := s515 } : Post_Box)) (o1 := ({ Many := s516, Out := s517, In := s518, L := s519 } : Ref20_Box)) (a0 := x536) (b3 := b53) (p4 := p509) (c5 := c510) (b9 := b59) (b11 := b61) (b12 := b341) (p13 := p520) (c14 := c521) hd
            refine .callS (.f Try.call19 rfl) (.c .z (.c .z (.c .z (.c .z (.c (.s .z) (.c (.s .z) .n)))))) hw544 rfl rfl fun v548 I545 l549 hl546 hv547 => ?_
            obtain ⟨r550, p553, c554, p563, c564, rfl, rfl, hd⟩ := hv547
            have le567 := IH.le.trans le527 hl546
            have le568 := IH.le.trans le528 hl546
            replace R3 := R3.mono hl546
            replace hC542 := hC542.mono hl546
            refine .re (m' := (pto b53 (.cells #[.int .i64 r550.2.1.room, .slice p553 r550.2.1.row.length c554, .map (some b59), .map (some b61), .int .i64 r550.2.1.sent, .int .i64 r550.2.1.taken] 60 (0, 0))) :: (OwnSl eI64 3 p553 c554 r550.2.1.row) :: (OwnMap (Value.int .i64) eFrame true b59 r550.2.1.by_) :: (OwnMap (Value.int .i64) eI64 false b61 r550.2.1.often) :: (pto b341 (.cells #[.int .i64 r550.2.2.Many, .int .i64 r550.2.2.Out, .int .i64 r550.2.2.In, .slice p563 r550.2.2.L.length c564] 68 (0, 0))) :: (OwnSl eFrame 34 p563 c564 r550.2.2.L) :: (pto b354 (.cells #[.pointer (some ⟨b53, 0, none⟩), .pointer (some ⟨b341, 0, none⟩)] 48 (0, 0))) :: ex) rfl ?_
            refine .some (fun ex => (pto b53 (.cells #[.int .i64 r550.2.1.room, .slice p553 r550.2.1.row.length c554, .map (some b59), .map (some b61), .int .i64 r550.2.1.sent, .int .i64 r550.2.1.taken] 60 (0, 0))) :: (OwnSl eI64 3 p553 c554 r550.2.1.row) :: (OwnMap (Value.int .i64) eFrame true b59 r550.2.1.by_) :: (OwnMap (Value.int .i64) eI64 false b61 r550.2.1.often) :: (pto b341 (.cells #[.int .i64 r550.2.2.Many, .int .i64 r550.2.2.Out, .int .i64 r550.2.2.In, .slice p563 r550.2.2.L.length c564] 68 (0, 0))) :: (OwnSl eFrame 34 p563 c564 r550.2.2.L) :: (pto b354 (.cells #[.pointer (some ⟨b53, 0, none⟩), .pointer (some ⟨b341, 0, none⟩)] 48 (0, 0))) :: ex) rfl (fun _ _ => (.s (.s (.s (.s (.s (.s (.s .z)))))))) rfl trivial ?_
            refine .f [5] rfl (by kernel_rfl) rfl rfl (fun ex => .not rfl rfl rfl .mk) ?_
            refine .f [6, 5] rfl (by kernel_rfl) rfl rfl (fun ex => .move rfl rfl rfl .mk) ?_
            refine split (!r550.1) (fun hb569 => ?_) (fun hb569 => ?_)
            · have hd := hd.1 hb569
              refine .f [7] rfl (by kernel_rfl) rfl rfl (fun ex => .gno rfl rfl hb569 rfl rfl .mk) ?_
              refine .f [8, 7, 7] rfl (by kernel_rfl) rfl rfl (fun ex => .gno rfl rfl hb569 rfl rfl .mk) ?_
              refine .f [9, 7] rfl (by kernel_rfl) rfl rfl (fun ex => .gno rfl rfl hb569 rfl rfl .mk) ?_
              refine .f [7, 10] rfl (by kernel_rfl) rfl rfl (fun ex => .pickT rfl hb569 rfl rfl rfl .mk) ?_
              refine .e 12 (by kernel_rfl) (by kernel_rfl) (by kernel_rfl) ?_
              refine .nil' fun c w ho hs => Cod.at (E := [(0, _), (1, _), (5, _), (9, _), (10, _), (105, _)]) (ho.sub ⟨rfl, rfl, rfl, rfl, rfl, rfl, trivial⟩) hs ?_
              refine .condKT rfl rfl ?_
              refine .seq ?_
              refine .region ?_
              refine .skips 1 rfl ?_
              refine .nil' fun c w ho hs => Cod.at (E := [(4, _)]) (ho.sub ⟨rfl, trivial⟩) hs ?_
              refine .drop .z ?_
              refine .drop .z ?_
              refine .drop .z ?_
              refine .drop .z ?_
              refine .drop .z ?_
              refine .drop .z ?_
              refine .drop .z ?_
              exact .ret (pret Try.results4 (.t rfl .n) le567 ⟨false, rfl, hd⟩)
            · have hd := hd.2 hb569
              refine .f [7] rfl (by kernel_rfl) rfl rfl (fun ex => .gyes rfl rfl hb569 (.loadW Try.isAgg48 Try.sizeOf48 rfl (.s (.s (.s (.s (.s (.s .z)))))) rfl rfl rfl .mk)) ?_
              refine .w [] [[], [], [7]] [8, 7, 7] rfl (by kernel_rfl) (by kernel_rfl) (by kernel_rfl) ((dropE_kept rfl rfl)) (.inr (dropE_kept rfl rfl)) fun ex => ?_
              have hw570 := W_law20_both_same_i40 (I := I545) (o0 := r550.2.1) (o1 := r550.2.2) (b3 := b53) (p4 := p553) (c5 := c554) (b9 := b59) (b11 := b61) (b12 := b341) (p13 := p563) (c14 := c564) hd
              refine .gyes rfl rfl hb569 (.callS (.f Try.call20 rfl) (.c .z (.c .z (.c .z (.c .z (.c .z (.c .z .n)))))) hw570 rfl rfl fun v574 I571 l575 hl572 hv573 => ?_)
              obtain ⟨r576, rfl, rfl, hd⟩ := hv573
              have le577 := IH.le.trans le567 hl572
              have le578 := IH.le.trans le568 hl572
              replace R3 := R3.mono hl572
              replace hC542 := hC542.mono hl572
              refine .re (m' := (pto b53 (.cells #[.int .i64 r550.2.1.room, .slice p553 r550.2.1.row.length c554, .map (some b59), .map (some b61), .int .i64 r550.2.1.sent, .int .i64 r550.2.1.taken] 60 (0, 0))) :: (OwnSl eI64 3 p553 c554 r550.2.1.row) :: (OwnMap (Value.int .i64) eFrame true b59 r550.2.1.by_) :: (OwnMap (Value.int .i64) eI64 false b61 r550.2.1.often) :: (pto b341 (.cells #[.int .i64 r550.2.2.Many, .int .i64 r550.2.2.Out, .int .i64 r550.2.2.In, .slice p563 r550.2.2.L.length c564] 68 (0, 0))) :: (OwnSl eFrame 34 p563 c564 r550.2.2.L) :: (pto b354 (.cells #[.pointer (some ⟨b53, 0, none⟩), .pointer (some ⟨b341, 0, none⟩)] 48 (0, 0))) :: ex) rfl ?_
              refine .some (fun ex => (pto b53 (.cells #[.int .i64 r550.2.1.room, .slice p553 r550.2.1.row.length c554, .map (some b59), .map (some b61), .int .i64 r550.2.1.sent, .int .i64 r550.2.1.taken] 60 (0, 0))) :: (OwnSl eI64 3 p553 c554 r550.2.1.row) :: (OwnMap (Value.int .i64) eFrame true b59 r550.2.1.by_) :: (OwnMap (Value.int .i64) eI64 false b61 r550.2.1.often) :: (pto b341 (.cells #[.int .i64 r550.2.2.Many, .int .i64 r550.2.2.Out, .int .i64 r550.2.2.In, .slice p563 r550.2.2.L.length c564] 68 (0, 0))) :: (OwnSl eFrame 34 p563 c564 r550.2.2.L) :: (pto b354 (.cells #[.pointer (some ⟨b53, 0, none⟩), .pointer (some ⟨b341, 0, none⟩)] 48 (0, 0))) :: ex) rfl (fun _ _ => (.s (.s (.s (.s (.s (.s (.s .z)))))))) rfl trivial ?_
              refine .f [9, 7] rfl (by kernel_rfl) rfl rfl (fun ex => .gyes rfl rfl hb569 (.not rfl rfl rfl .mk)) ?_
              refine .f [7, 10] rfl (by kernel_rfl) rfl rfl (fun ex => .pickF rfl hb569 rfl rfl rfl .mk) ?_
              refine .e 12 (by kernel_rfl) (by kernel_rfl) (by kernel_rfl) ?_
              refine .nil' fun c w ho hs => Cod.at (E := [(0, _), (1, _), (5, _), (9, _), (10, _), (105, _)]) (ho.sub ⟨rfl, rfl, rfl, rfl, rfl, rfl, trivial⟩) hs ?_
              refine .cond rfl (fun hb579 => ?_) (fun hb579 => ?_)
              · have hd := hd.1 hb579
                refine .seq ?_
                refine .region ?_
                refine .skips 1 rfl ?_
                refine .nil' fun c w ho hs => Cod.at (E := [(4, _)]) (ho.sub ⟨rfl, trivial⟩) hs ?_
                refine .drop .z ?_
                refine .drop .z ?_
                refine .drop .z ?_
                refine .drop .z ?_
                refine .drop .z ?_
                refine .drop .z ?_
                refine .drop .z ?_
                exact .ret (pret Try.results4 (.t rfl .n) le577 ⟨false, rfl, hd⟩)
              · have hd := hd.2 hb579
                refine .skip' fun c w ho hs => Cod.at (E := [(0, _), (1, _), (5, _), (9, _), (10, _)]) (ho.sub ⟨rfl, rfl, rfl, rfl, rfl, trivial⟩) hs ?_
                refine .region ?_
                refine .skips 1 rfl ?_
                refine .add rfl rfl rfl rfl ?_
                refine .sub (E' := [(0, _), (1, _), (5, _), (9, _), (92, _), (93, _)]) ⟨rfl, rfl, rfl, rfl, rfl, rfl, trivial⟩ ?_
                refine .skips 1 rfl ?_
                exact .nil' fun c w ho hs => ⟨(r550.2.1.room, r550.2.1.row, r550.2.1.by_, r550.2.1.often, r550.2.1.sent, r550.2.1.taken, r550.2.2.Many, r550.2.2.Out, r550.2.2.In, r550.2.2.L, w64 (s523 + 1)), hd, I571, _, _, _, _, le578, ho.sub ⟨rfl, rfl, rfl, rfl, rfl, trivial⟩, hs.pick (.c .z (.c .z (.c .z (.c .z (.c (.s (.s .z)) (.c .z (.c .z .n)))))))⟩
          · have hd := hd.2 hb532
            refine .exit fun c w ho hs => Cod.at (E := [(0, _), (5, _)]) (ho.sub ⟨rfl, rfl, trivial⟩) hs ?_
            refine .drop (.s (.s (.s (.s .z)))) ?_
            refine .drop (.s (.s (.s (.s .z)))) ?_
            refine .drop (.s (.s (.s (.s .z)))) ?_
            refine .seq ?_
            refine .region ?_
            have hw586 := W_law20_live (I := I525) hd
            refine .call Try.call11 rfl hw586 rfl rfl fun v584 I581 hl582 hv583 => ?_
            obtain ⟨r580, rfl, hd⟩ := hv583
            have le587 := IH.le.trans le527 hl582
            have le588 := IH.le.trans le528 hl582
            refine .skips 1 rfl ?_
            refine split r580 (fun hb589 => ?_) (fun hb589 => ?_)
            · have hd := hd.1 hb589
              rw [hb589]
              refine .gyes rfl rfl rfl (.move rfl rfl rfl ?_)
              have hw590 := W_post_Box_Room_i13 (I := I581) (o0 := ({ room := s507, row := s508, by_ := s512, often := s513, sent := s514, taken := s515 } : Post_Box)) (b2 := b53) (p3 := p509) (c4 := c510) (b8 := b59) (b10 := b61) hd
              refine .gyes rfl rfl rfl (.callS (.f Try.call16 rfl) (.c .z (.c .z (.c .z (.c .z .n)))) hw590 rfl rfl fun v594 I591 l595 hl592 hv593 => ?_)
              obtain ⟨r596, rfl, rfl, hd⟩ := hv593
              have le597 := IH.le.trans le587 hl592
              have le598 := IH.le.trans le588 hl592
              refine .re (m' := [pto b53 (.cells #[.int .i64 s507, .slice p509 s508.length c510, .map (some b59), .map (some b61), .int .i64 s514, .int .i64 s515] 60 (0, 0)), OwnSl eI64 3 p509 c510 s508, OwnMap (Value.int .i64) eFrame true b59 s512, OwnMap (Value.int .i64) eI64 false b61 s513]) rfl ?_
              refine .gyes rfl rfl rfl (.move rfl rfl rfl ?_)
              refine .gyes rfl rfl rfl (.eq rfl rfl rfl rfl ?_)
              refine .skips 2 rfl ?_
              refine .nil' fun c w ho hs => Cod.at (E := [(4, _)]) (ho.sub ⟨rfl, trivial⟩) hs ?_
              refine .drop .z ?_
              refine .drop .z ?_
              refine .drop .z ?_
              refine .drop .z ?_
              exact .ret (pret Try.results4 (.t rfl .n) le597 ⟨(r596 == a0), rfl, hd⟩)
            · have hd := hd.2 hb589
              rw [hb589]
              refine .skips 6 rfl ?_
              refine .nil' fun c w ho hs => Cod.at (E := [(4, _)]) (ho.sub ⟨rfl, trivial⟩) hs ?_
              refine .drop .z ?_
              refine .drop .z ?_
              refine .drop .z ?_
              refine .drop .z ?_
              exact .ret (pret Try.results4 (.t rfl .n) le587 ⟨false, rfl, hd⟩)
        · have hd := hd.2 hb531
          rw [hb531]
          refine .skips 3 rfl ?_
          refine .nil' fun c w ho hs => Cod.at (E := [(0, _), (1, _), (5, _), (9, _), (10, _), (91, _)]) (ho.sub ⟨rfl, rfl, rfl, rfl, rfl, rfl, trivial⟩) hs ?_
          refine .condKF rfl rfl ?_
          refine .exit fun c w ho hs => Cod.at (E := [(0, _), (5, _)]) (ho.sub ⟨rfl, rfl, trivial⟩) hs ?_
          refine .drop (.s (.s (.s (.s .z)))) ?_
          refine .drop (.s (.s (.s (.s .z)))) ?_
          refine .drop (.s (.s (.s (.s .z)))) ?_
          refine .seq ?_
          refine .region ?_
          have hw605 := W_law20_live (I := I525) hd
          refine .call Try.call11 rfl hw605 rfl rfl fun v603 I600 hl601 hv602 => ?_
          obtain ⟨r599, rfl, hd⟩ := hv602
          have le606 := IH.le.trans le527 hl601
          have le607 := IH.le.trans le528 hl601
          refine .skips 1 rfl ?_
          refine split r599 (fun hb608 => ?_) (fun hb608 => ?_)
          · have hd := hd.1 hb608
            rw [hb608]
            refine .gyes rfl rfl rfl (.move rfl rfl rfl ?_)
            have hw609 := W_post_Box_Room_i13 (I := I600) (o0 := ({ room := s507, row := s508, by_ := s512, often := s513, sent := s514, taken := s515 } : Post_Box)) (b2 := b53) (p3 := p509) (c4 := c510) (b8 := b59) (b10 := b61) hd
            refine .gyes rfl rfl rfl (.callS (.f Try.call16 rfl) (.c .z (.c .z (.c .z (.c .z .n)))) hw609 rfl rfl fun v613 I610 l614 hl611 hv612 => ?_)
            obtain ⟨r615, rfl, rfl, hd⟩ := hv612
            have le616 := IH.le.trans le606 hl611
            have le617 := IH.le.trans le607 hl611
            refine .re (m' := [pto b53 (.cells #[.int .i64 s507, .slice p509 s508.length c510, .map (some b59), .map (some b61), .int .i64 s514, .int .i64 s515] 60 (0, 0)), OwnSl eI64 3 p509 c510 s508, OwnMap (Value.int .i64) eFrame true b59 s512, OwnMap (Value.int .i64) eI64 false b61 s513]) rfl ?_
            refine .gyes rfl rfl rfl (.move rfl rfl rfl ?_)
            refine .gyes rfl rfl rfl (.eq rfl rfl rfl rfl ?_)
            refine .skips 2 rfl ?_
            refine .nil' fun c w ho hs => Cod.at (E := [(4, _)]) (ho.sub ⟨rfl, trivial⟩) hs ?_
            refine .drop .z ?_
            refine .drop .z ?_
            refine .drop .z ?_
            refine .drop .z ?_
            exact .ret (pret Try.results4 (.t rfl .n) le616 ⟨(r615 == a0), rfl, hd⟩)
          · have hd := hd.2 hb608
            rw [hb608]
            refine .skips 6 rfl ?_
            refine .nil' fun c w ho hs => Cod.at (E := [(4, _)]) (ho.sub ⟨rfl, trivial⟩) hs ?_
            refine .drop .z ?_
            refine .drop .z ?_
            refine .drop .z ?_
            refine .drop .z ?_
            exact .ret (pret Try.results4 (.t rfl .n) le606 ⟨false, rfl, hd⟩)

theorem W_law20_PostOrder {I : IH} {a0 : Int} {a1 : List Law20_Act} {p1 : Option Addr} {c2 : Nat} {Q : Bool → Prop} (R3 : RepSl eLaw20_Act I p1 c2 a1) (hd : law20_PostOrder a0 a1 Q) :
    PFun Try.prog 5 [.int .u8 a0, .slice p1 a1.length c2] I (fun I_ v => ∃ r, v = .bool r ∧ Q r) := by
  refine Fun.enter Try.func5 rfl Try.ntmps5 rfl (.c (.c .n)) fun w0 M => ?_
  refine .seq ?_
  refine .region ?_
  refine .skips 1 rfl ?_
  refine .nil' fun c w ho hs => Cod.at (E := [(0, _), (1, _)]) (ho.sub ⟨rfl, rfl, trivial⟩) hs ?_
  refine .seq ?_
  refine .region ?_
  refine .skips 1 rfl ?_
  refine .conv Try.underlying5 Try.underlying3 rfl rfl rfl ?_
  refine .rem rfl rfl (by decide) rfl rfl ?_
  refine .add rfl rfl rfl rfl ?_
  refine .skips 1 rfl ?_
  refine .nil' fun c w ho hs => Cod.at (E := [(1, _), (5, _)]) (ho.sub ⟨rfl, rfl, trivial⟩) hs ?_
  refine .seq ?_
  refine .region ?_
  refine .skips 1 rfl ?_
  have hw44 := W_post_New_i17 (I := I) (a0 := (w64 (((w64 (a0)).tmod 64) + 1))) hd
  refine .callS (.f Try.call6 rfl) .n hw44 rfl rfl fun v48 I45 l49 hl46 hv47 => ?_
  rcases hv47 with hv47 | hv47
  · obtain ⟨r50, rfl, rfl, hd⟩ := hv47
    have le62 := IH.le.trans (.refl _) hl46
    replace R3 := R3.mono hl46
    refine .re (m' := []) rfl ?_
    refine .skips 1 rfl ?_
    refine .extract rfl rfl rfl rfl ?_
    refine .extract rfl rfl rfl rfl ?_
    refine .skips 2 rfl ?_
    refine .nil' fun c w ho hs => Cod.at (E := [(1, _), (5, _), (6, _), (7, _)]) (ho.sub ⟨rfl, rfl, rfl, rfl, trivial⟩) hs ?_
    refine .seq ?_
    refine .seq ?_
    refine .region ?_
    refine .skips 1 rfl ?_
    refine .eqNilP Try.underlying22 rfl rfl rfl rfl ?_
    refine .skips 4 rfl ?_
    refine .nil' fun c w ho hs => Cod.at (E := [(1, _), (5, _), (6, _), (36, _)]) (ho.sub ⟨rfl, rfl, rfl, rfl, trivial⟩) hs ?_
    refine .condKT rfl rfl ?_
    refine .seq ?_
    refine .region ?_
    refine .skips 1 rfl ?_
    refine .nil' fun c w ho hs => Cod.at (E := [(4, _)]) (ho.sub ⟨rfl, trivial⟩) hs ?_
    exact .ret (pret Try.results5 (.t rfl .n) le62 ⟨false, rfl, hd⟩)
  · obtain ⟨r51, b53, p54, c55, b59, b61, rfl, rfl, hd⟩ := hv47
    have le63 := IH.le.trans (.refl _) hl46
    replace R3 := R3.mono hl46
    refine .re (m' := [pto b53 (.cells #[.int .i64 r51.2.room, .slice p54 r51.2.row.length c55, .map (some b59), .map (some b61), .int .i64 r51.2.sent, .int .i64 r51.2.taken] 60 (0, 0)), OwnSl eI64 3 p54 c55 r51.2.row, OwnMap (Value.int .i64) eFrame true b59 r51.2.by_, OwnMap (Value.int .i64) eI64 false b61 r51.2.often]) rfl ?_
    refine .skips 1 rfl ?_
    refine .extract rfl rfl rfl rfl ?_
    refine .extract rfl rfl rfl rfl ?_
    refine .skips 2 rfl ?_
    refine .nil' fun c w ho hs => Cod.at (E := [(1, _), (5, _), (6, _), (7, _)]) (ho.sub ⟨rfl, rfl, rfl, rfl, trivial⟩) hs ?_
    refine .seq ?_
    refine .seq ?_
    refine .region ?_
    refine .skips 1 rfl ?_
    refine .eqNilP Try.underlying22 rfl rfl rfl rfl ?_
    refine .skips 1 rfl ?_
    refine .gyes rfl rfl rfl (.move rfl rfl rfl ?_)
    refine .gyes rfl rfl rfl (.ne rfl rfl rfl rfl ?_)
    refine .skips 1 rfl ?_
    refine .nil' fun c w ho hs => Cod.at (E := [(1, _), (5, _), (6, _), (36, _)]) (ho.sub ⟨rfl, rfl, rfl, rfl, trivial⟩) hs ?_
    refine .cond rfl (fun hb65 => ?_) (fun hb65 => ?_)
    · have hd := hd.1 hb65
      refine .seq ?_
      refine .region ?_
      refine .skips 1 rfl ?_
      refine .nil' fun c w ho hs => Cod.at (E := [(4, _)]) (ho.sub ⟨rfl, trivial⟩) hs ?_
      refine .drop .z ?_
      refine .drop .z ?_
      refine .drop .z ?_
      refine .drop .z ?_
      exact .ret (pret Try.results5 (.t rfl .n) le63 ⟨false, rfl, hd⟩)
    · have hd := hd.2 hb65
      refine .skip' fun c w ho hs => Cod.at (E := [(1, _), (5, _), (6, _)]) (ho.sub ⟨rfl, rfl, rfl, trivial⟩) hs ?_
      refine .seq ?_
      refine .region ?_
      refine .skips 1 rfl ?_
      refine .nil' fun c w ho hs => Cod.at (E := [(1, _), (5, _), (6, _), (8, _)]) (ho.sub ⟨rfl, rfl, rfl, rfl, trivial⟩) hs ?_
      refine .seq ?_
      refine .region ?_
      refine .skips 1 rfl ?_
      refine .nil' fun c w ho hs => Cod.at (E := [(1, _), (5, _), (6, _), (8, _), (9, _)]) (ho.sub ⟨rfl, rfl, rfl, rfl, rfl, trivial⟩) hs ?_
      refine .seq ?_
      refine Cod.joinQ (σ := Int × (List Int) × (List (Int × Frame)) × (List (Int × Int)) × Int × Int × (List Int) × Int) hd (fun (s : Int × (List Int) × (List (Int × Frame)) × (List (Int × Int)) × Int × Int × (List Int) × Int) c w => match s with | (s2718, s2719, s2723, s2724, s2725, s2726, s2727, s2731) => ∃ I_ p2720 c2721 p2728 c2729, IH.le I45 I_ ∧ Ok 179 [(6, .pointer (some ⟨b53, 0, none⟩)), (8, .slice p2728 s2727.length c2729), (9, .int .i64 s2731)] c ∧ Sym w0 M I I_ [pto b53 (.cells #[.int .i64 s2718, .slice p2720 s2719.length c2721, .map (some b59), .map (some b61), .int .i64 s2725, .int .i64 s2726] 60 (0, 0)), OwnSl eI64 3 p2720 c2721 s2719, OwnMap (Value.int .i64) eFrame true b59 s2723, OwnMap (Value.int .i64) eI64 false b61 s2724, OwnSl eI64 2 p2728 c2729 s2727] w) (fun k2732 hd => ?_) ?_
      · skip
        refine .seq ?_
        refine .region ?_
        refine .skips 1 rfl ?_
        refine .nil' fun c w ho hs => Cod.at (E := [(1, _), (5, _), (6, _), (8, _), (9, _), (10, _)]) (ho.sub ⟨rfl, rfl, rfl, rfl, rfl, rfl, trivial⟩) hs ?_
        refine .block ?_
        refine .own0 eI64 2 ?_
        refine .loop hd (fun (s : Int × (List Int) × (List (Int × Frame)) × (List (Int × Int)) × Int × Int × (List Int) × Int × Int) c w => match s with | (s3725, s3726, s3730, s3731, s3732, s3733, s3734, s3738, s3739) => ∃ I_ p3727 c3728 p3735 c3736, IH.le I45 I_ ∧ Ok 179 [(1, .slice p1 a1.length c2), (5, .int .i64 (w64 (((w64 (a0)).tmod 64) + 1))), (6, .pointer (some ⟨b53, 0, none⟩)), (8, .slice p3735 s3734.length c3736), (9, .int .i64 s3738), (10, .int .i64 s3739)] c ∧ Sym w0 M I I_ [pto b53 (.cells #[.int .i64 s3725, .slice p3727 s3726.length c3728, .map (some b59), .map (some b61), .int .i64 s3732, .int .i64 s3733] 60 (0, 0)), OwnSl eI64 3 p3727 c3728 s3726, OwnMap (Value.int .i64) eFrame true b59 s3730, OwnMap (Value.int .i64) eI64 false b61 s3731, OwnSl eI64 2 p3735 c3736 s3734] w) (fun c w ho hs => ⟨I45, _, _, _, _, (.refl _), ho.sub ⟨rfl, rfl, rfl, rfl, rfl, rfl, trivial⟩, hs.pick (.c (.s .z) (.c (.s .z) (.c (.s .z) (.c (.s .z) (.c .z .n)))))⟩) ?_
        rintro ⟨s3725, s3726, s3730, s3731, s3732, s3733, s3734, s3738, s3739⟩ next3741 hd c w hst
        obtain ⟨I3742, p3727, c3728, p3735, c3736, hl3743, hok, hsym⟩ := hst
        have le3744 := IH.le.trans le63 hl3743
        have le3745 := IH.le.trans (.refl _) hl3743
        replace R3 := R3.mono hl3743
        refine Cod.at hok hsym ?_
        refine .seq ?_
        refine .seq ?_
        refine .region ?_
        refine .skips 2 rfl ?_
        refine .len Try.underlying41 rfl rfl rfl rfl ?_
        refine .lt rfl rfl rfl rfl ?_
        refine .skips 1 rfl ?_
        refine split (decide (s3739 < (a1.length : Int))) (fun hb3748 => ?_) (fun hb3748 => ?_)
        · have hd := hd.1 hb3748
          rw [hb3748]
          refine .gyes rfl rfl rfl (.move rfl rfl rfl ?_)
          refine .gyes rfl rfl rfl (.lt rfl rfl rfl rfl ?_)
          refine .skips 1 rfl ?_
          refine .nil' fun c w ho hs => Cod.at (E := [(1, _), (5, _), (6, _), (8, _), (9, _), (10, _), (44, _)]) (ho.sub ⟨rfl, rfl, rfl, rfl, rfl, rfl, rfl, trivial⟩) hs ?_
          refine .cond rfl (fun hb3749 => ?_) (fun hb3749 => ?_)
          · have hd := hd.1 hb3749
            refine .skip' fun c w ho hs => Cod.at (E := [(1, _), (5, _), (6, _), (8, _), (9, _), (10, _)]) (ho.sub ⟨rfl, rfl, rfl, rfl, rfl, rfl, trivial⟩) hs ?_
            refine .seq ?_
            refine .block ?_
            refine .seq ?_
            refine .region ?_
            refine .skips 2 rfl ?_
            obtain ⟨h3761, x3762, hx3763, hd⟩ := hd
            obtain ⟨b3764, o3765, cs3766, e3767, hC3768, hr3769⟩ := R3.2 _ _ hx3763
            cases hr3769
            refine .ixa Try.underlying41 Try.sizeOf51 rfl e3767 rfl h3761 (idx_lt hx3763 h3761) rfl rfl ?_
            refine .ldW Try.isAgg51 Try.sizeOf51 hC3768 rfl rfl rfl rfl ?_
            refine .allocA Try.zeroValue51 rfl rfl fun b3770 => ?_
            refine .storeA Try.sizeOf51 rfl rfl .z (.t (.t (.t .nil))) rfl rfl ?_
            refine .nil' fun c w ho hs => Cod.at (E := [(1, _), (5, _), (6, _), (8, _), (9, _), (10, _), (11, _)]) (ho.sub ⟨rfl, rfl, rfl, rfl, rfl, rfl, rfl, trivial⟩) hs ?_
            refine .seq ?_
            refine .draw [some 0, some 1, some 2, some 3, some 4] 5 MX (by kernel_rfl) (by kernel_rfl) (by kernel_rfl) (by kernel_rfl) (by kernel_rfl) (by kernel_rfl) (by kernel_rfl) (fun ex => (pto b3770 (.cells #[.int .i64 x3762.Kind, .int .i64 x3762.K, .int .i64 x3762.N] 51 (0, 0))) :: (pto b53 (.cells #[.int .i64 s3725, .slice p3727 s3726.length c3728, .map (some b59), .map (some b61), .int .i64 s3732, .int .i64 s3733] 60 (0, 0))) :: (OwnSl eI64 3 p3727 c3728 s3726) :: (OwnMap (Value.int .i64) eFrame true b59 s3730) :: (OwnMap (Value.int .i64) eI64 false b61 s3731) :: (OwnSl eI64 2 p3735 c3736 s3734) :: ex) (fun _ _ => (.s (.s (.s (.s (.s (.s .z))))))) rfl ?_
            refine .f [] rfl (by kernel_rfl) rfl rfl (fun ex => .fieldAddr Try.underlying51 rfl Try.sizeOf3 rfl (o := 1) rfl rfl rfl .mk) ?_
            refine .f [0] rfl (by kernel_rfl) rfl rfl (fun ex => .load1 Try.isAgg3 rfl .z rfl rfl rfl .mk) ?_
            refine .f [] rfl (by kernel_rfl) rfl rfl (fun ex => .move rfl rfl rfl .mk) ?_
            refine .w [1, 0] [[]] [2] rfl (by kernel_rfl) (by kernel_rfl) (by kernel_rfl) ((dropE_kept rfl rfl)) (.inr (dropE_kept rfl rfl)) fun ex => ?_
            have hw3790 := W_post_Box_Len_i10 (I := I3742) (o0 := ({ room := s3725, row := s3726, by_ := s3730, often := s3731, sent := s3732, taken := s3733 } : Post_Box)) (b2 := b53) (p3 := p3727) (c4 := c3728) (b8 := b59) (b10 := b61) hd
            refine .callS (.f Try.call12 rfl) (.c (.s .z) (.c (.s .z) (.c (.s .z) (.c (.s .z) .n)))) hw3790 rfl rfl fun v3794 I3791 l3795 hl3792 hv3793 => ?_
            obtain ⟨r3796, rfl, rfl, hd⟩ := hv3793
            have le3797 := IH.le.trans le3744 hl3792
            have le3798 := IH.le.trans le3745 hl3792
            replace R3 := R3.mono hl3792
            refine .re (m' := (pto b53 (.cells #[.int .i64 s3725, .slice p3727 s3726.length c3728, .map (some b59), .map (some b61), .int .i64 s3732, .int .i64 s3733] 60 (0, 0))) :: (OwnSl eI64 3 p3727 c3728 s3726) :: (OwnMap (Value.int .i64) eFrame true b59 s3730) :: (OwnMap (Value.int .i64) eI64 false b61 s3731) :: (pto b3770 (.cells #[.int .i64 x3762.Kind, .int .i64 x3762.K, .int .i64 x3762.N] 51 (0, 0))) :: (OwnSl eI64 2 p3735 c3736 s3734) :: ex) rfl ?_
            refine .some (fun ex => (pto b53 (.cells #[.int .i64 s3725, .slice p3727 s3726.length c3728, .map (some b59), .map (some b61), .int .i64 s3732, .int .i64 s3733] 60 (0, 0))) :: (OwnSl eI64 3 p3727 c3728 s3726) :: (OwnMap (Value.int .i64) eFrame true b59 s3730) :: (OwnMap (Value.int .i64) eI64 false b61 s3731) :: (pto b3770 (.cells #[.int .i64 x3762.Kind, .int .i64 x3762.K, .int .i64 x3762.N] 51 (0, 0))) :: (OwnSl eI64 2 p3735 c3736 s3734) :: ex) rfl (fun _ _ => (.s (.s (.s (.s (.s (.s .z))))))) rfl (.cc [0] rfl (by kernel_rfl) rfl rfl rfl (fun ex => .load1 Try.isAgg3 rfl (.s (.s (.s (.s .z)))) rfl rfl rfl .mk) (.cc [] rfl (by kernel_rfl) rfl rfl rfl (fun ex => .fieldAddr Try.underlying51 rfl Try.sizeOf3 rfl (o := 1) rfl rfl rfl .mk) trivial)) ?_
            refine .w [] [[], [1]] [1, 3, 3] rfl (by kernel_rfl) (by kernel_rfl) (by kernel_rfl) ((dropE_kept rfl rfl)) (.inr (dropE_kept rfl rfl)) fun ex => ?_
            have hw3805 := W_law20_Near (I := I3791) hd
            refine .call Try.call21 rfl hw3805 rfl rfl fun v3803 I3800 hl3801 hv3802 => ?_
            obtain ⟨r3799, rfl, hd⟩ := hv3802
            have le3806 := IH.le.trans le3797 hl3801
            have le3807 := IH.le.trans le3798 hl3801
            replace R3 := R3.mono hl3801
            refine .some (fun ex => (pto b53 (.cells #[.int .i64 s3725, .slice p3727 s3726.length c3728, .map (some b59), .map (some b61), .int .i64 s3732, .int .i64 s3733] 60 (0, 0))) :: (OwnSl eI64 3 p3727 c3728 s3726) :: (OwnMap (Value.int .i64) eFrame true b59 s3730) :: (OwnMap (Value.int .i64) eI64 false b61 s3731) :: (pto b3770 (.cells #[.int .i64 x3762.Kind, .int .i64 x3762.K, .int .i64 x3762.N] 51 (0, 0))) :: (OwnSl eI64 2 p3735 c3736 s3734) :: ex) rfl (fun _ _ => (.s (.s (.s (.s (.s (.s .z))))))) rfl trivial ?_
            refine .e 5 (by kernel_rfl) (by kernel_rfl) (by kernel_rfl) ?_
            refine .skips 1 rfl ?_
            refine .nil' fun c w ho hs => Cod.at (E := [(1, _), (5, _), (6, _), (8, _), (9, _), (10, _), (11, _), (12, _)]) (ho.sub ⟨rfl, rfl, rfl, rfl, rfl, rfl, rfl, rfl, trivial⟩) hs ?_
            refine .seq ?_
            refine .seq ?_
            refine .region ?_
            refine .fieldAddr Try.underlying51 rfl Try.sizeOf3 rfl (o := 0) rfl rfl rfl ?_
            refine .load1 Try.isAgg3 rfl (.s (.s (.s (.s .z)))) rfl rfl rfl ?_
            refine .nil' fun c w ho hs => Cod.at (E := [(1, _), (5, _), (6, _), (8, _), (9, _), (10, _), (11, _), (12, _), (57, _)]) (ho.sub ⟨rfl, rfl, rfl, rfl, rfl, rfl, rfl, rfl, rfl, trivial⟩) hs ?_
            refine .block ?_
            refine .seq ?_
            refine .region ?_
            refine .eq rfl rfl rfl rfl ?_
            refine .skips 1 rfl ?_
            refine .nil' fun c w ho hs => Cod.at (E := [(1, _), (5, _), (6, _), (8, _), (9, _), (10, _), (11, _), (12, _), (57, _), (87, _)]) (ho.sub ⟨rfl, rfl, rfl, rfl, rfl, rfl, rfl, rfl, rfl, rfl, trivial⟩) hs ?_
            refine .cond rfl (fun hb3808 => ?_) (fun hb3808 => ?_)
            · have hd := hd.1 hb3808
              refine .seq ?_
              refine .region ?_
              refine .skips 1 rfl ?_
              have hw3818 := W_post_Box_Len_i10 (I := I3800) (o0 := ({ room := s3725, row := s3726, by_ := s3730, often := s3731, sent := s3732, taken := s3733 } : Post_Box)) (b2 := b53) (p3 := p3727) (c4 := c3728) (b8 := b59) (b10 := b61) hd
              refine .callS (.f Try.call12 rfl) (.c .z (.c .z (.c .z (.c .z .n)))) hw3818 rfl rfl fun v3822 I3819 l3823 hl3820 hv3821 => ?_
              obtain ⟨r3824, rfl, rfl, hd⟩ := hv3821
              have le3825 := IH.le.trans le3806 hl3820
              have le3826 := IH.le.trans le3807 hl3820
              replace R3 := R3.mono hl3820
              refine .re (m' := [pto b53 (.cells #[.int .i64 s3725, .slice p3727 s3726.length c3728, .map (some b59), .map (some b61), .int .i64 s3732, .int .i64 s3733] 60 (0, 0)), OwnSl eI64 3 p3727 c3728 s3726, OwnMap (Value.int .i64) eFrame true b59 s3730, OwnMap (Value.int .i64) eI64 false b61 s3731, pto b3770 (.cells #[.int .i64 x3762.Kind, .int .i64 x3762.K, .int .i64 x3762.N] 51 (0, 0)), OwnSl eI64 2 p3735 c3736 s3734]) rfl ?_
              refine .skips 1 rfl ?_
              refine .eq rfl rfl rfl rfl ?_
              refine .skips 1 rfl ?_
              refine .nil' fun c w ho hs => Cod.at (E := [(1, _), (5, _), (6, _), (8, _), (9, _), (10, _), (11, _), (13, _)]) (ho.sub ⟨rfl, rfl, rfl, rfl, rfl, rfl, rfl, rfl, trivial⟩) hs ?_
              refine .seq ?_
              refine .region ?_
              refine .skips 1 rfl ?_
              refine .fieldAddr Try.underlying51 rfl Try.sizeOf2 rfl (o := 2) rfl rfl rfl ?_
              refine .load1 Try.isAgg2 rfl (.s (.s (.s (.s .z)))) rfl rfl rfl ?_
              refine .build Try.zeroValue34 Try.underlying34 BI34 (.c rfl rfl rfl (.s (.s (.s (.s (.s (.s (.s (.s (.s (.t .nil)))))))))) .n) (by exact ⟨⟨_, _, rfl, rfl, rfl⟩, trivial⟩) rfl rfl ?_
              have hw3846 := W_post_Box_Send_i2 (I := I3819) (o0 := ({ room := s3725, row := s3726, by_ := s3730, often := s3731, sent := s3732, taken := s3733 } : Post_Box)) (a0 := ({ Kind := 0, From := 0, To := 0, Seq := 0, Round := 0, Vec := ({ N := 0, Items := ([] : List Item) } : Vec), Sums := ([] : List Sum), Triples := ([] : List Triple), N := x3762.N, Over := false } : Frame)) (b2 := b53) (p3 := p3727) (c4 := c3728) (b8 := b59) (b10 := b61) (.nil _ none 0) (.nil _ none 0) (.nil _ none 0) hd
              refine .callS (.f Try.call7 rfl) (.c .z (.c .z (.c .z (.c .z .n)))) hw3846 rfl rfl fun v3850 I3847 l3851 hl3848 hv3849 => ?_
              obtain ⟨r3852, p3855, c3856, rfl, rfl, hd⟩ := hv3849
              have le3863 := IH.le.trans le3825 hl3848
              have le3864 := IH.le.trans le3826 hl3848
              replace R3 := R3.mono hl3848
              refine .re (m' := [pto b53 (.cells #[.int .i64 r3852.2.room, .slice p3855 r3852.2.row.length c3856, .map (some b59), .map (some b61), .int .i64 r3852.2.sent, .int .i64 r3852.2.taken] 60 (0, 0)), OwnSl eI64 3 p3855 c3856 r3852.2.row, OwnMap (Value.int .i64) eFrame true b59 r3852.2.by_, OwnMap (Value.int .i64) eI64 false b61 r3852.2.often, pto b3770 (.cells #[.int .i64 x3762.Kind, .int .i64 x3762.K, .int .i64 x3762.N] 51 (0, 0)), OwnSl eI64 2 p3735 c3736 s3734]) rfl ?_
              refine .skips 1 rfl ?_
              refine .nil' fun c w ho hs => Cod.at (E := [(1, _), (5, _), (6, _), (8, _), (9, _), (10, _), (11, _), (13, _), (14, _)]) (ho.sub ⟨rfl, rfl, rfl, rfl, rfl, rfl, rfl, rfl, rfl, trivial⟩) hs ?_
              refine .seq ?_
              refine Cod.joinQ (σ := Bool) hd (fun (s3869 : Bool) c w => ∃ I_, IH.le I3847 I_ ∧ Ok 179 [(1, .slice p1 a1.length c2), (5, .int .i64 (w64 (((w64 (a0)).tmod 64) + 1))), (6, .pointer (some ⟨b53, 0, none⟩)), (8, .slice p3735 s3734.length c3736), (9, .int .i64 s3738), (10, .int .i64 s3739), (11, .pointer (some ⟨b3770, 0, none⟩)), (14, .int .i64 r3852.1), (108, .bool s3869)] c ∧ Sym w0 M I I_ [pto b53 (.cells #[.int .i64 r3852.2.room, .slice p3855 r3852.2.row.length c3856, .map (some b59), .map (some b61), .int .i64 r3852.2.sent, .int .i64 r3852.2.taken] 60 (0, 0)), OwnSl eI64 3 p3855 c3856 r3852.2.row, OwnMap (Value.int .i64) eFrame true b59 r3852.2.by_, OwnMap (Value.int .i64) eI64 false b61 r3852.2.often, OwnSl eI64 2 p3735 c3736 s3734, pto b3770 (.cells #[.int .i64 x3762.Kind, .int .i64 x3762.K, .int .i64 x3762.N] 51 (0, 0))] w) (fun k3870 hd => ?_) ?_
              · skip
                refine .region ?_
                refine .skips 1 rfl ?_
                refine .eq rfl rfl rfl rfl ?_
                refine .skips 1 rfl ?_
                refine .neB Try.underlying4 rfl rfl rfl rfl ?_
                refine .skips 1 rfl ?_
                refine split (!((r3852.1 == 9) == (r3824 == (w64 (((w64 (a0)).tmod 64) + 1))))) (fun hb3871 => ?_) (fun hb3871 => ?_)
                · have hd := hd.1 hb3871
                  rw [hb3871]
                  refine .skips 3 rfl ?_
                  refine .gnoU rfl rfl rfl rfl ?_
                  refine .skips 2 rfl ?_
                  exact .nil' fun c w ho hs => ⟨true, hd, I3847, (.refl _), ho.sub ⟨rfl, rfl, rfl, rfl, rfl, rfl, rfl, rfl, rfl, trivial⟩, hs.pick (.c .z (.c .z (.c .z (.c .z (.c (.s .z) (.c .z .n))))))⟩
                · have hd := hd.2 hb3871
                  rw [hb3871]
                  refine .gyes rfl rfl rfl (.move rfl rfl rfl ?_)
                  refine .gyes rfl rfl rfl (.eq rfl rfl rfl rfl ?_)
                  refine .gyes rfl rfl rfl (.move rfl rfl rfl ?_)
                  refine split (r3852.1 == 0) (fun hb3872 => ?_) (fun hb3872 => ?_)
                  · have hd := hd.1 hb3872
                    rw [hb3872]
                    refine .gyes rfl rfl rfl (.move rfl rfl rfl ?_)
                    refine .gyes rfl rfl rfl (.pickT rfl rfl rfl rfl rfl ?_)
                    refine .skips 1 rfl ?_
                    exact .nil' fun c w ho hs => ⟨(r3824 == (w64 (((w64 (a0)).tmod 64) + 1))), hd, I3847, (.refl _), ho.sub ⟨rfl, rfl, rfl, rfl, rfl, rfl, rfl, rfl, rfl, trivial⟩, hs.pick (.c .z (.c .z (.c .z (.c .z (.c (.s .z) (.c .z .n))))))⟩
                  · have hd := hd.2 hb3872
                    rw [hb3872]
                    refine .skips 1 rfl ?_
                    refine .gyes rfl rfl rfl (.pickF rfl rfl rfl rfl rfl ?_)
                    refine .skips 1 rfl ?_
                    exact .nil' fun c w ho hs => ⟨false, hd, I3847, (.refl _), ho.sub ⟨rfl, rfl, rfl, rfl, rfl, rfl, rfl, rfl, rfl, trivial⟩, hs.pick (.c .z (.c .z (.c .z (.c .z (.c (.s .z) (.c .z .n))))))⟩
              · rintro s3869 hd c w hst
                obtain ⟨I3873, hl3874, hok, hsym⟩ := hst
                have le3875 := IH.le.trans le3863 hl3874
                have le3876 := IH.le.trans le3864 hl3874
                have le3877 := IH.le.trans (.refl _) hl3874
                replace R3 := R3.mono hl3874
                refine Cod.at hok hsym ?_
                refine .cond rfl (fun hb3878 => ?_) (fun hb3878 => ?_)
                · have hd := hd.1 hb3878
                  refine .seq ?_
                  refine .region ?_
                  refine .skips 1 rfl ?_
                  refine .nil' fun c w ho hs => Cod.at (E := [(4, _)]) (ho.sub ⟨rfl, trivial⟩) hs ?_
                  refine .drop .z ?_
                  refine .drop .z ?_
                  refine .drop .z ?_
                  refine .drop .z ?_
                  refine .drop .z ?_
                  refine .drop .z ?_
                  exact .ret (pret Try.results5 (.t rfl .n) le3875 ⟨false, rfl, hd⟩)
                · have hd := hd.2 hb3878
                  refine .seq ?_
                  refine .region ?_
                  refine .skips 1 rfl ?_
                  refine .eq rfl rfl rfl rfl ?_
                  refine .nil' fun c w ho hs => Cod.at (E := [(1, _), (5, _), (6, _), (8, _), (9, _), (10, _), (11, _), (110, _)]) (ho.sub ⟨rfl, rfl, rfl, rfl, rfl, rfl, rfl, rfl, trivial⟩) hs ?_
                  refine .cond rfl (fun hb3879 => ?_) (fun hb3879 => ?_)
                  · have hd := hd.1 hb3879
                    refine .region ?_
                    refine .skips 1 rfl ?_
                    refine .fieldAddr Try.underlying51 rfl Try.sizeOf2 rfl (o := 2) rfl rfl rfl ?_
                    refine .load1 Try.isAgg2 rfl (.s (.s (.s (.s (.s .z))))) rfl rfl rfl ?_
                    refine .buildSlice 1 Try.underlying53 Try.sizeOf2 Try.zeroValue2 rfl rfl (.c rfl rfl rfl .n) rfl rfl fun b3880 => ?_
                    obtain ⟨hl3882, hd⟩ := hd
                    refine .append (ys := [x3762.N]) 8 (.s (.s (.s (.s (.s .z))))) Try.underlying53 Try.underlying53 IN2 rfl rfl rfl rfl rfl rfl rfl rfl rfl (.box .z (.one rfl) rfl) hl3882 rfl rfl fun p3883 c3884 => ?_
                    refine .sub (E' := [(1, _), (5, _), (6, _), (9, _), (10, _), (11, _), (110, _), (111, _), (112, _), (113, _), (114, _), (115, _)]) ⟨rfl, rfl, rfl, rfl, rfl, rfl, rfl, rfl, rfl, rfl, rfl, rfl, trivial⟩ ?_
                    refine .skips 1 rfl ?_
                    refine .nil' fun c w ho hs => Cod.at (E := [(1, _), (5, _), (6, _), (9, _), (10, _), (8, _)]) (ho.sub ⟨rfl, rfl, rfl, rfl, rfl, rfl, trivial⟩) hs ?_
                    refine .drop (.s .z) ?_
                    refine .drop (.s (.s (.s (.s (.s .z))))) ?_
                    refine .seq ?_
                    refine .region ?_
                    refine .skips 1 rfl ?_
                    have hw3886 := W_post_Box_Len_i10 (I := I3873) (o0 := r3852.2) (b2 := b53) (p3 := p3855) (c4 := c3856) (b8 := b59) (b10 := b61) hd
                    refine .callS (.f Try.call12 rfl) (.c (.s .z) (.c (.s .z) (.c (.s .z) (.c (.s .z) .n)))) hw3886 rfl rfl fun v3890 I3887 l3891 hl3888 hv3889 => ?_
                    obtain ⟨r3892, rfl, rfl, hd⟩ := hv3889
                    have le3893 := IH.le.trans le3875 hl3888
                    have le3894 := IH.le.trans le3876 hl3888
                    have le3895 := IH.le.trans le3877 hl3888
                    replace R3 := R3.mono hl3888
                    refine .re (m' := [pto b53 (.cells #[.int .i64 r3852.2.room, .slice p3855 r3852.2.row.length c3856, .map (some b59), .map (some b61), .int .i64 r3852.2.sent, .int .i64 r3852.2.taken] 60 (0, 0)), OwnSl eI64 3 p3855 c3856 r3852.2.row, OwnMap (Value.int .i64) eFrame true b59 r3852.2.by_, OwnMap (Value.int .i64) eI64 false b61 r3852.2.often, OwnSl eI64 2 p3883 c3884 (s3734 ++ ([x3762.N]))]) rfl ?_
                    refine .skips 1 rfl ?_
                    refine .gt rfl rfl rfl rfl ?_
                    refine .nil' fun c w ho hs => Cod.at (E := [(1, _), (5, _), (6, _), (9, _), (10, _), (8, _), (129, _)]) (ho.sub ⟨rfl, rfl, rfl, rfl, rfl, rfl, rfl, trivial⟩) hs ?_
                    refine .cond rfl (fun hb3896 => ?_) (fun hb3896 => ?_)
                    · have hd := hd.1 hb3896
                      refine .seq ?_
                      refine .region ?_
                      refine .skips 1 rfl ?_
                      refine .nil' fun c w ho hs => Cod.at (E := [(4, _)]) (ho.sub ⟨rfl, trivial⟩) hs ?_
                      refine .drop .z ?_
                      refine .drop .z ?_
                      refine .drop .z ?_
                      refine .drop .z ?_
                      refine .drop .z ?_
                      exact .ret (pret Try.results5 (.t rfl .n) le3893 ⟨false, rfl, hd⟩)
                    · have hd := hd.2 hb3896
                      refine .skip' fun c w ho hs => Cod.at (E := [(1, _), (5, _), (6, _), (9, _), (10, _), (8, _)]) (ho.sub ⟨rfl, rfl, rfl, rfl, rfl, rfl, trivial⟩) hs ?_
                      refine .region ?_
                      refine .skips 1 rfl ?_
                      refine .add rfl rfl rfl rfl ?_
                      refine .sub (E' := [(1, _), (5, _), (6, _), (9, _), (8, _), (45, _), (46, _)]) ⟨rfl, rfl, rfl, rfl, rfl, rfl, rfl, trivial⟩ ?_
                      refine .skips 1 rfl ?_
                      exact .nil' fun c w ho hs => ⟨(r3852.2.room, r3852.2.row, r3852.2.by_, r3852.2.often, r3852.2.sent, r3852.2.taken, (s3734 ++ ([x3762.N])), s3738, w64 (s3739 + 1)), hd, I3887, _, _, _, _, le3894, ho.sub ⟨rfl, rfl, rfl, rfl, rfl, rfl, trivial⟩, hs.pick (.c .z (.c .z (.c .z (.c .z (.c .z .n)))))⟩
                  · have hd := hd.2 hb3879
                    refine .skip' fun c w ho hs => Cod.at (E := [(1, _), (5, _), (6, _), (8, _), (9, _), (10, _)]) (ho.sub ⟨rfl, rfl, rfl, rfl, rfl, rfl, trivial⟩) hs ?_
                    refine .drop (.s (.s (.s (.s (.s .z))))) ?_
                    refine .seq ?_
                    refine .region ?_
                    refine .skips 1 rfl ?_
                    have hw3897 := W_post_Box_Len_i10 (I := I3873) (o0 := r3852.2) (b2 := b53) (p3 := p3855) (c4 := c3856) (b8 := b59) (b10 := b61) hd
                    refine .callS (.f Try.call12 rfl) (.c .z (.c .z (.c .z (.c .z .n)))) hw3897 rfl rfl fun v3901 I3898 l3902 hl3899 hv3900 => ?_
                    obtain ⟨r3903, rfl, rfl, hd⟩ := hv3900
                    have le3904 := IH.le.trans le3875 hl3899
                    have le3905 := IH.le.trans le3876 hl3899
                    have le3906 := IH.le.trans le3877 hl3899
                    replace R3 := R3.mono hl3899
                    refine .re (m' := [pto b53 (.cells #[.int .i64 r3852.2.room, .slice p3855 r3852.2.row.length c3856, .map (some b59), .map (some b61), .int .i64 r3852.2.sent, .int .i64 r3852.2.taken] 60 (0, 0)), OwnSl eI64 3 p3855 c3856 r3852.2.row, OwnMap (Value.int .i64) eFrame true b59 r3852.2.by_, OwnMap (Value.int .i64) eI64 false b61 r3852.2.often, OwnSl eI64 2 p3735 c3736 s3734]) rfl ?_
                    refine .skips 1 rfl ?_
                    refine .gt rfl rfl rfl rfl ?_
                    refine .nil' fun c w ho hs => Cod.at (E := [(1, _), (5, _), (6, _), (8, _), (9, _), (10, _), (129, _)]) (ho.sub ⟨rfl, rfl, rfl, rfl, rfl, rfl, rfl, trivial⟩) hs ?_
                    refine .cond rfl (fun hb3907 => ?_) (fun hb3907 => ?_)
                    · have hd := hd.1 hb3907
                      refine .seq ?_
                      refine .region ?_
                      refine .skips 1 rfl ?_
                      refine .nil' fun c w ho hs => Cod.at (E := [(4, _)]) (ho.sub ⟨rfl, trivial⟩) hs ?_
                      refine .drop .z ?_
                      refine .drop .z ?_
                      refine .drop .z ?_
                      refine .drop .z ?_
                      refine .drop .z ?_
                      exact .ret (pret Try.results5 (.t rfl .n) le3904 ⟨false, rfl, hd⟩)
                    · have hd := hd.2 hb3907
                      refine .skip' fun c w ho hs => Cod.at (E := [(1, _), (5, _), (6, _), (8, _), (9, _), (10, _)]) (ho.sub ⟨rfl, rfl, rfl, rfl, rfl, rfl, trivial⟩) hs ?_
                      refine .region ?_
                      refine .skips 1 rfl ?_
                      refine .add rfl rfl rfl rfl ?_
                      refine .sub (E' := [(1, _), (5, _), (6, _), (8, _), (9, _), (45, _), (46, _)]) ⟨rfl, rfl, rfl, rfl, rfl, rfl, rfl, trivial⟩ ?_
                      refine .skips 1 rfl ?_
                      exact .nil' fun c w ho hs => ⟨(r3852.2.room, r3852.2.row, r3852.2.by_, r3852.2.often, r3852.2.sent, r3852.2.taken, s3734, s3738, w64 (s3739 + 1)), hd, I3898, _, _, _, _, le3905, ho.sub ⟨rfl, rfl, rfl, rfl, rfl, rfl, trivial⟩, hs.pick (.c .z (.c .z (.c .z (.c .z (.c .z .n)))))⟩
            · have hd := hd.2 hb3808
              refine .seq ?_
              refine .region ?_
              refine .eq rfl rfl rfl rfl ?_
              refine .skips 1 rfl ?_
              refine .nil' fun c w ho hs => Cod.at (E := [(1, _), (5, _), (6, _), (8, _), (9, _), (10, _), (12, _), (57, _), (116, _)]) (ho.sub ⟨rfl, rfl, rfl, rfl, rfl, rfl, rfl, rfl, rfl, trivial⟩) hs ?_
              refine .drop (.s (.s (.s (.s .z)))) ?_
              refine .cond rfl (fun hb3908 => ?_) (fun hb3908 => ?_)
              · have hd := hd.1 hb3908
                refine .region ?_
                refine .skips 2 rfl ?_
                have hw3909 := W_post_Box_Double_i18 (I := I3800) (o0 := ({ room := s3725, row := s3726, by_ := s3730, often := s3731, sent := s3732, taken := s3733 } : Post_Box)) (a0 := r3799) (b2 := b53) (p3 := p3727) (c4 := c3728) (b8 := b59) (b10 := b61) hd
                refine .callS (.f Try.call8 rfl) (.c .z (.c .z (.c .z (.c .z .n)))) hw3909 rfl rfl fun v3913 I3910 l3914 hl3911 hv3912 => ?_
                obtain ⟨r3915, p3918, c3919, rfl, rfl, hd⟩ := hv3912
                have le3926 := IH.le.trans le3806 hl3911
                have le3927 := IH.le.trans le3807 hl3911
                replace R3 := R3.mono hl3911
                refine .re (m' := [pto b53 (.cells #[.int .i64 r3915.2.room, .slice p3918 r3915.2.row.length c3919, .map (some b59), .map (some b61), .int .i64 r3915.2.sent, .int .i64 r3915.2.taken] 60 (0, 0)), OwnSl eI64 3 p3918 c3919 r3915.2.row, OwnMap (Value.int .i64) eFrame true b59 r3915.2.by_, OwnMap (Value.int .i64) eI64 false b61 r3915.2.often, OwnSl eI64 2 p3735 c3736 s3734]) rfl ?_
                refine .nil' fun c w ho hs => Cod.at (E := [(1, _), (5, _), (6, _), (8, _), (9, _), (10, _)]) (ho.sub ⟨rfl, rfl, rfl, rfl, rfl, rfl, trivial⟩) hs ?_
                refine .seq ?_
                refine .region ?_
                refine .skips 1 rfl ?_
                have hw3928 := W_post_Box_Len_i10 (I := I3910) (o0 := r3915.2) (b2 := b53) (p3 := p3918) (c4 := c3919) (b8 := b59) (b10 := b61) hd
                refine .callS (.f Try.call12 rfl) (.c .z (.c .z (.c .z (.c .z .n)))) hw3928 rfl rfl fun v3932 I3929 l3933 hl3930 hv3931 => ?_
                obtain ⟨r3934, rfl, rfl, hd⟩ := hv3931
                have le3935 := IH.le.trans le3926 hl3930
                have le3936 := IH.le.trans le3927 hl3930
                replace R3 := R3.mono hl3930
                refine .re (m' := [pto b53 (.cells #[.int .i64 r3915.2.room, .slice p3918 r3915.2.row.length c3919, .map (some b59), .map (some b61), .int .i64 r3915.2.sent, .int .i64 r3915.2.taken] 60 (0, 0)), OwnSl eI64 3 p3918 c3919 r3915.2.row, OwnMap (Value.int .i64) eFrame true b59 r3915.2.by_, OwnMap (Value.int .i64) eI64 false b61 r3915.2.often, OwnSl eI64 2 p3735 c3736 s3734]) rfl ?_
                refine .skips 1 rfl ?_
                refine .gt rfl rfl rfl rfl ?_
                refine .nil' fun c w ho hs => Cod.at (E := [(1, _), (5, _), (6, _), (8, _), (9, _), (10, _), (129, _)]) (ho.sub ⟨rfl, rfl, rfl, rfl, rfl, rfl, rfl, trivial⟩) hs ?_
                refine .cond rfl (fun hb3937 => ?_) (fun hb3937 => ?_)
                · have hd := hd.1 hb3937
                  refine .seq ?_
                  refine .region ?_
                  refine .skips 1 rfl ?_
                  refine .nil' fun c w ho hs => Cod.at (E := [(4, _)]) (ho.sub ⟨rfl, trivial⟩) hs ?_
                  refine .drop .z ?_
                  refine .drop .z ?_
                  refine .drop .z ?_
                  refine .drop .z ?_
                  refine .drop .z ?_
                  exact .ret (pret Try.results5 (.t rfl .n) le3935 ⟨false, rfl, hd⟩)
                · have hd := hd.2 hb3937
                  refine .skip' fun c w ho hs => Cod.at (E := [(1, _), (5, _), (6, _), (8, _), (9, _), (10, _)]) (ho.sub ⟨rfl, rfl, rfl, rfl, rfl, rfl, trivial⟩) hs ?_
                  refine .region ?_
                  refine .skips 1 rfl ?_
                  refine .add rfl rfl rfl rfl ?_
                  refine .sub (E' := [(1, _), (5, _), (6, _), (8, _), (9, _), (45, _), (46, _)]) ⟨rfl, rfl, rfl, rfl, rfl, rfl, rfl, trivial⟩ ?_
                  refine .skips 1 rfl ?_
                  exact .nil' fun c w ho hs => ⟨(r3915.2.room, r3915.2.row, r3915.2.by_, r3915.2.often, r3915.2.sent, r3915.2.taken, s3734, s3738, w64 (s3739 + 1)), hd, I3929, _, _, _, _, le3936, ho.sub ⟨rfl, rfl, rfl, rfl, rfl, rfl, trivial⟩, hs.pick (.c .z (.c .z (.c .z (.c .z (.c .z .n)))))⟩
              · have hd := hd.2 hb3908
                refine .seq ?_
                refine .region ?_
                refine .eq rfl rfl rfl rfl ?_
                refine .skips 1 rfl ?_
                refine .nil' fun c w ho hs => Cod.at (E := [(1, _), (5, _), (6, _), (8, _), (9, _), (10, _), (12, _), (121, _)]) (ho.sub ⟨rfl, rfl, rfl, rfl, rfl, rfl, rfl, rfl, trivial⟩) hs ?_
                refine .cond rfl (fun hb3938 => ?_) (fun hb3938 => ?_)
                · have hd := hd.1 hb3938
                  refine .region ?_
                  refine .skips 2 rfl ?_
                  have hw3939 := W_post_Box_Move_i35 (I := I3800) (o0 := ({ room := s3725, row := s3726, by_ := s3730, often := s3731, sent := s3732, taken := s3733 } : Post_Box)) (a0 := r3799) (b2 := b53) (p3 := p3727) (c4 := c3728) (b8 := b59) (b10 := b61) hd
                  refine .callS (.f Try.call15 rfl) (.c .z (.c .z (.c .z (.c .z .n)))) hw3939 rfl rfl fun v3943 I3940 l3944 hl3941 hv3942 => ?_
                  obtain ⟨r3945, p3948, c3949, rfl, rfl, hd⟩ := hv3942
                  have le3956 := IH.le.trans le3806 hl3941
                  have le3957 := IH.le.trans le3807 hl3941
                  replace R3 := R3.mono hl3941
                  refine .re (m' := [pto b53 (.cells #[.int .i64 r3945.2.room, .slice p3948 r3945.2.row.length c3949, .map (some b59), .map (some b61), .int .i64 r3945.2.sent, .int .i64 r3945.2.taken] 60 (0, 0)), OwnSl eI64 3 p3948 c3949 r3945.2.row, OwnMap (Value.int .i64) eFrame true b59 r3945.2.by_, OwnMap (Value.int .i64) eI64 false b61 r3945.2.often, OwnSl eI64 2 p3735 c3736 s3734]) rfl ?_
                  refine .nil' fun c w ho hs => Cod.at (E := [(1, _), (5, _), (6, _), (8, _), (9, _), (10, _)]) (ho.sub ⟨rfl, rfl, rfl, rfl, rfl, rfl, trivial⟩) hs ?_
                  refine .seq ?_
                  refine .region ?_
                  refine .skips 1 rfl ?_
                  have hw3958 := W_post_Box_Len_i10 (I := I3940) (o0 := r3945.2) (b2 := b53) (p3 := p3948) (c4 := c3949) (b8 := b59) (b10 := b61) hd
                  refine .callS (.f Try.call12 rfl) (.c .z (.c .z (.c .z (.c .z .n)))) hw3958 rfl rfl fun v3962 I3959 l3963 hl3960 hv3961 => ?_
                  obtain ⟨r3964, rfl, rfl, hd⟩ := hv3961
                  have le3965 := IH.le.trans le3956 hl3960
                  have le3966 := IH.le.trans le3957 hl3960
                  replace R3 := R3.mono hl3960
                  refine .re (m' := [pto b53 (.cells #[.int .i64 r3945.2.room, .slice p3948 r3945.2.row.length c3949, .map (some b59), .map (some b61), .int .i64 r3945.2.sent, .int .i64 r3945.2.taken] 60 (0, 0)), OwnSl eI64 3 p3948 c3949 r3945.2.row, OwnMap (Value.int .i64) eFrame true b59 r3945.2.by_, OwnMap (Value.int .i64) eI64 false b61 r3945.2.often, OwnSl eI64 2 p3735 c3736 s3734]) rfl ?_
                  refine .skips 1 rfl ?_
                  refine .gt rfl rfl rfl rfl ?_
                  refine .nil' fun c w ho hs => Cod.at (E := [(1, _), (5, _), (6, _), (8, _), (9, _), (10, _), (129, _)]) (ho.sub ⟨rfl, rfl, rfl, rfl, rfl, rfl, rfl, trivial⟩) hs ?_
                  refine .cond rfl (fun hb3967 => ?_) (fun hb3967 => ?_)
                  · have hd := hd.1 hb3967
                    refine .seq ?_
                    refine .region ?_
                    refine .skips 1 rfl ?_
                    refine .nil' fun c w ho hs => Cod.at (E := [(4, _)]) (ho.sub ⟨rfl, trivial⟩) hs ?_
                    refine .drop .z ?_
                    refine .drop .z ?_
                    refine .drop .z ?_
                    refine .drop .z ?_
                    refine .drop .z ?_
                    exact .ret (pret Try.results5 (.t rfl .n) le3965 ⟨false, rfl, hd⟩)
                  · have hd := hd.2 hb3967
                    refine .skip' fun c w ho hs => Cod.at (E := [(1, _), (5, _), (6, _), (8, _), (9, _), (10, _)]) (ho.sub ⟨rfl, rfl, rfl, rfl, rfl, rfl, trivial⟩) hs ?_
                    refine .region ?_
                    refine .skips 1 rfl ?_
                    refine .add rfl rfl rfl rfl ?_
                    refine .sub (E' := [(1, _), (5, _), (6, _), (8, _), (9, _), (45, _), (46, _)]) ⟨rfl, rfl, rfl, rfl, rfl, rfl, rfl, trivial⟩ ?_
                    refine .skips 1 rfl ?_
                    exact .nil' fun c w ho hs => ⟨(r3945.2.room, r3945.2.row, r3945.2.by_, r3945.2.often, r3945.2.sent, r3945.2.taken, s3734, s3738, w64 (s3739 + 1)), hd, I3959, _, _, _, _, le3966, ho.sub ⟨rfl, rfl, rfl, rfl, rfl, rfl, trivial⟩, hs.pick (.c .z (.c .z (.c .z (.c .z (.c .z .n)))))⟩
                · have hd := hd.2 hb3938
                  refine .seq ?_
                  refine .region ?_
                  refine .skips 2 rfl ?_
                  have hw3998 := W_post_Box_Take_i5 (I := I3800) (o0 := ({ room := s3725, row := s3726, by_ := s3730, often := s3731, sent := s3732, taken := s3733 } : Post_Box)) (a0 := r3799) (b2 := b53) (p3 := p3727) (c4 := c3728) (b8 := b59) (b10 := b61) hd
                  refine .callS (.f Try.call9 rfl) (.c .z (.c .z (.c .z (.c .z .n)))) hw3998 rfl rfl fun v4002 I3999 l4003 hl4000 hv4001 => ?_
                  obtain ⟨r4004, p4005, c4006, p4008, c4009, p4011, c4012, p4016, c4017, rfl, R4007, R4010, R4013, rfl, hd⟩ := hv4001
                  have le4024 := IH.le.trans le3806 hl4000
                  have le4025 := IH.le.trans le3807 hl4000
                  replace R3 := R3.mono hl4000
                  refine .re (m' := [pto b53 (.cells #[.int .i64 r4004.2.2.2.room, .slice p4016 r4004.2.2.2.row.length c4017, .map (some b59), .map (some b61), .int .i64 r4004.2.2.2.sent, .int .i64 r4004.2.2.2.taken] 60 (0, 0)), OwnSl eI64 3 p4016 c4017 r4004.2.2.2.row, OwnMap (Value.int .i64) eFrame true b59 r4004.2.2.2.by_, OwnMap (Value.int .i64) eI64 false b61 r4004.2.2.2.often, OwnSl eI64 2 p3735 c3736 s3734]) rfl ?_
                  refine .skips 1 rfl ?_
                  refine .extract rfl rfl rfl rfl ?_
                  refine .extract rfl rfl rfl rfl ?_
                  refine .extract rfl rfl rfl rfl ?_
                  refine .allocA Try.zeroValue34 rfl rfl fun b4026 => ?_
                  refine .storeA Try.sizeOf34 rfl rfl .z (.t (.t (.t (.t (.t (.t (.t (.t (.t (.t (.t .nil))))))))))) rfl rfl ?_
                  refine .skips 2 rfl ?_
                  refine .nil' fun c w ho hs => Cod.at (E := [(1, _), (5, _), (6, _), (8, _), (9, _), (10, _), (15, _), (16, _)]) (ho.sub ⟨rfl, rfl, rfl, rfl, rfl, rfl, rfl, rfl, trivial⟩) hs ?_
                  refine .seq ?_
                  refine .region ?_
                  refine .skips 1 rfl ?_
                  refine .nil' fun c w ho hs => Cod.at (E := [(1, _), (5, _), (6, _), (8, _), (9, _), (10, _), (15, _), (65, _)]) (ho.sub ⟨rfl, rfl, rfl, rfl, rfl, rfl, rfl, rfl, trivial⟩) hs ?_
                  refine .cond rfl (fun hb4028 => ?_) (fun hb4028 => ?_)
                  · have hd := hd.1 hb4028
                    refine .seq ?_
                    refine .seq ?_
                    refine .ownF (.s (.s .z)) fun hne4029 => ?_
                    refine .ownF (.s (.s (.s (.s (.s .z))))) fun hne4030 => ?_
                    refine .draw [some 0, some 1, some 2, some 3, some 4, some 5, some 6, some 7, some 8, some 9, some 10, some 11, some 12, some 13, some 14, some 15, some 16, some 17, some 18] 19 MX (by kernel_rfl) (by kernel_rfl) (by kernel_rfl) (by kernel_rfl) (by kernel_rfl) (by kernel_rfl) (by kernel_rfl) (fun ex => (pto b4026 (.cells #[.int .i64 r4004.1.Kind, .int .i64 r4004.1.From, .int .i64 r4004.1.To, .int .i64 r4004.1.Seq, .int .i64 r4004.1.Round, .int .i64 r4004.1.Vec.N, .slice p4005 r4004.1.Vec.Items.length c4006, .slice p4008 r4004.1.Sums.length c4009, .slice p4011 r4004.1.Triples.length c4012, .int .i64 r4004.1.N, .bool r4004.1.Over] 34 (0, 0))) :: (pto b53 (.cells #[.int .i64 r4004.2.2.2.room, .slice p4016 r4004.2.2.2.row.length c4017, .map (some b59), .map (some b61), .int .i64 r4004.2.2.2.sent, .int .i64 r4004.2.2.2.taken] 60 (0, 0))) :: (OwnSl eI64 3 p4016 c4017 r4004.2.2.2.row) :: (OwnMap (Value.int .i64) eFrame true b59 r4004.2.2.2.by_) :: (OwnMap (Value.int .i64) eI64 false b61 r4004.2.2.2.often) :: (OwnSl eI64 2 p3735 c3736 s3734) :: ex) (fun _ _ => (.s (.s (.s (.s (.s (.s .z))))))) rfl ?_
                    refine .f [] rfl (by kernel_rfl) rfl rfl (fun ex => .move rfl rfl rfl .mk) ?_
                    refine .f [] rfl (by kernel_rfl) rfl rfl (fun ex => .move rfl rfl rfl .mk) ?_
                    refine .f [1] rfl (by kernel_rfl) rfl rfl (fun ex => .len Try.underlying53 rfl rfl rfl rfl .mk) ?_
                    refine .f [0, 2] rfl (by kernel_rfl) rfl rfl (fun ex => .ge rfl rfl rfl rfl .mk) ?_
                    refine .f [3] rfl (by kernel_rfl) rfl rfl (fun ex => .move rfl rfl rfl .mk) ?_
                    refine split (decide ((s3734.length : Int) ≤ s3738)) (fun hb4031 => ?_) (fun hb4031 => ?_)
                    · have hd := hd.1 hb4031
                      refine .f [4] rfl (by kernel_rfl) rfl rfl (fun ex => .gno rfl rfl hb4031 rfl rfl .mk) ?_
                      refine .f [5, 4] rfl (by kernel_rfl) rfl rfl (fun ex => .gno rfl rfl hb4031 rfl rfl .mk) ?_
                      refine .f [4] rfl (by kernel_rfl) rfl rfl (fun ex => .gno rfl rfl hb4031 rfl rfl .mk) ?_
                      refine .f [4] rfl (by kernel_rfl) rfl rfl (fun ex => .gno rfl rfl hb4031 rfl rfl .mk) ?_
                      refine .f [7, 8, 4] rfl (by kernel_rfl) rfl rfl (fun ex => .gno rfl rfl hb4031 rfl rfl .mk) ?_
                      refine .f [9, 4] rfl (by kernel_rfl) rfl rfl (fun ex => .gno rfl rfl hb4031 rfl rfl .mk) ?_
                      refine .f [6, 10, 4] rfl (by kernel_rfl) rfl rfl (fun ex => .gno rfl rfl hb4031 rfl rfl .mk) ?_
                      refine .f [4, 11] rfl (by kernel_rfl) rfl rfl (fun ex => .pickT rfl hb4031 rfl rfl rfl .mk) ?_
                      refine .f [12, 4] rfl (by kernel_rfl) rfl rfl (fun ex => .move rfl rfl rfl .mk) ?_
                      refine .f [13] rfl (by kernel_rfl) rfl rfl (fun ex => .gno rfl rfl rfl rfl rfl .mk) ?_
                      refine .f [14, 13] rfl (by kernel_rfl) rfl rfl (fun ex => .gno rfl rfl rfl rfl rfl .mk) ?_
                      refine .f [13] rfl (by kernel_rfl) rfl rfl (fun ex => .gno rfl rfl rfl rfl rfl .mk) ?_
                      refine .f [15, 16, 13] rfl (by kernel_rfl) rfl rfl (fun ex => .gno rfl rfl rfl rfl rfl .mk) ?_
                      refine .f [13, 17] rfl (by kernel_rfl) rfl rfl (fun ex => .pickT rfl rfl rfl rfl rfl .mk) ?_
                      refine .e 19 (by kernel_rfl) (by kernel_rfl) (by kernel_rfl) ?_
                      refine .nil' fun c w ho hs => Cod.at (E := [(1, _), (5, _), (6, _), (8, _), (9, _), (10, _), (84, _)]) (ho.sub ⟨rfl, rfl, rfl, rfl, rfl, rfl, rfl, trivial⟩) hs ?_
                      refine .drop .z ?_
                      refine .condKT rfl rfl ?_
                      refine .seq ?_
                      refine .region ?_
                      refine .skips 1 rfl ?_
                      refine .nil' fun c w ho hs => Cod.at (E := [(4, _)]) (ho.sub ⟨rfl, trivial⟩) hs ?_
                      refine .drop .z ?_
                      refine .drop .z ?_
                      refine .drop .z ?_
                      refine .drop .z ?_
                      refine .drop .z ?_
                      exact .ret (pret Try.results5 (.t rfl .n) le4024 ⟨false, rfl, hd⟩)
                    · have hd := hd.2 hb4031
                      refine .f [4] rfl (by kernel_rfl) rfl rfl (fun ex => .gyes rfl rfl hb4031 (.fieldAddr Try.underlying34 rfl Try.sizeOf2 rfl (o := 9) rfl rfl rfl .mk)) ?_
                      refine .f [5, 4] rfl (by kernel_rfl) rfl rfl (fun ex => .gyes rfl rfl hb4031 (.load1 Try.isAgg2 rfl .z rfl rfl rfl .mk)) ?_
                      refine .f [4] rfl (by kernel_rfl) rfl rfl (fun ex => .gyes rfl rfl hb4031 (.move rfl rfl rfl .mk)) ?_
                      refine .f [4] rfl (by kernel_rfl) rfl rfl (fun ex => .gyes rfl rfl hb4031 (.move rfl rfl rfl .mk)) ?_
                      obtain ⟨h4032, x4033, hx4034, hd⟩ := hd
                      obtain ⟨b4035, e4036⟩ := hne4030 (idx_ne hx4034)
                      cases e4036
                      refine .f [7, 8, 4] rfl (by kernel_rfl) rfl rfl (fun ex => .gyes rfl rfl hb4031 (.ixa0 Try.underlying53 Try.sizeOf2 rfl rfl h4032 (idx_lt hx4034 h4032) rfl rfl .mk)) ?_
                      refine .f [9, 4] rfl (by kernel_rfl) rfl rfl (fun ex => .gyes rfl rfl hb4031 (.lo1 (j := 0) Try.isAgg2 (.s (.s (.s (.s (.s .z))))) hx4034 rfl rfl rfl rfl rfl .mk)) ?_
                      refine .f [6, 10, 4] rfl (by kernel_rfl) rfl rfl (fun ex => .gyes rfl rfl hb4031 (.ne rfl rfl rfl rfl .mk)) ?_
                      refine .f [4, 11] rfl (by kernel_rfl) rfl rfl (fun ex => .pickF rfl hb4031 rfl rfl rfl .mk) ?_
                      refine .f [12, 4] rfl (by kernel_rfl) rfl rfl (fun ex => .move rfl rfl rfl .mk) ?_
                      refine split (r4004.1.N != x4033) (fun hb4037 => ?_) (fun hb4037 => ?_)
                      · have hd := hd.1 hb4037
                        refine .f [13] rfl (by kernel_rfl) rfl rfl (fun ex => .gno rfl rfl hb4037 rfl rfl .mk) ?_
                        refine .f [14, 13] rfl (by kernel_rfl) rfl rfl (fun ex => .gno rfl rfl hb4037 rfl rfl .mk) ?_
                        refine .f [13] rfl (by kernel_rfl) rfl rfl (fun ex => .gno rfl rfl hb4037 rfl rfl .mk) ?_
                        refine .f [15, 16, 13] rfl (by kernel_rfl) rfl rfl (fun ex => .gno rfl rfl hb4037 rfl rfl .mk) ?_
                        refine .f [13, 17] rfl (by kernel_rfl) rfl rfl (fun ex => .pickT rfl hb4037 rfl rfl rfl .mk) ?_
                        refine .e 19 (by kernel_rfl) (by kernel_rfl) (by kernel_rfl) ?_
                        refine .nil' fun c w ho hs => Cod.at (E := [(1, _), (5, _), (6, _), (8, _), (9, _), (10, _), (84, _)]) (ho.sub ⟨rfl, rfl, rfl, rfl, rfl, rfl, rfl, trivial⟩) hs ?_
                        refine .drop .z ?_
                        refine .condKT rfl rfl ?_
                        refine .seq ?_
                        refine .region ?_
                        refine .skips 1 rfl ?_
                        refine .nil' fun c w ho hs => Cod.at (E := [(4, _)]) (ho.sub ⟨rfl, trivial⟩) hs ?_
                        refine .drop .z ?_
                        refine .drop .z ?_
                        refine .drop .z ?_
                        refine .drop .z ?_
                        refine .drop .z ?_
                        exact .ret (pret Try.results5 (.t rfl .n) le4024 ⟨false, rfl, hd⟩)
                      · have hd := hd.2 hb4037
                        refine .f [13] rfl (by kernel_rfl) rfl rfl (fun ex => .gyes rfl rfl hb4037 (.fieldAddr Try.underlying34 rfl Try.sizeOf3 rfl (o := 3) rfl rfl rfl .mk)) ?_
                        refine .f [14, 13] rfl (by kernel_rfl) rfl rfl (fun ex => .gyes rfl rfl hb4037 (.load1 Try.isAgg3 rfl .z rfl rfl rfl .mk)) ?_
                        refine .f [13] rfl (by kernel_rfl) rfl rfl (fun ex => .gyes rfl rfl hb4037 (.move rfl rfl rfl .mk)) ?_
                        refine .f [15, 16, 13] rfl (by kernel_rfl) rfl rfl (fun ex => .gyes rfl rfl hb4037 (.ne rfl rfl rfl rfl .mk)) ?_
                        refine .f [13, 17] rfl (by kernel_rfl) rfl rfl (fun ex => .pickF rfl hb4037 rfl rfl rfl .mk) ?_
                        refine .e 19 (by kernel_rfl) (by kernel_rfl) (by kernel_rfl) ?_
                        refine .nil' fun c w ho hs => Cod.at (E := [(1, _), (5, _), (6, _), (8, _), (9, _), (10, _), (84, _)]) (ho.sub ⟨rfl, rfl, rfl, rfl, rfl, rfl, rfl, trivial⟩) hs ?_
                        refine .drop .z ?_
                        refine .cond rfl (fun hb4038 => ?_) (fun hb4038 => ?_)
                        · have hd := hd.1 hb4038
                          refine .seq ?_
                          refine .region ?_
                          refine .skips 1 rfl ?_
                          refine .nil' fun c w ho hs => Cod.at (E := [(4, _)]) (ho.sub ⟨rfl, trivial⟩) hs ?_
                          refine .drop .z ?_
                          refine .drop .z ?_
                          refine .drop .z ?_
                          refine .drop .z ?_
                          refine .drop .z ?_
                          exact .ret (pret Try.results5 (.t rfl .n) le4024 ⟨false, rfl, hd⟩)
                        · have hd := hd.2 hb4038
                          refine .skip' fun c w ho hs => Cod.at (E := [(1, _), (5, _), (6, _), (8, _), (9, _), (10, _)]) (ho.sub ⟨rfl, rfl, rfl, rfl, rfl, rfl, trivial⟩) hs ?_
                          refine .region ?_
                          refine .skips 1 rfl ?_
                          refine .add rfl rfl rfl rfl ?_
                          refine .sub (E' := [(1, _), (5, _), (6, _), (8, _), (10, _), (85, _), (86, _)]) ⟨rfl, rfl, rfl, rfl, rfl, rfl, rfl, trivial⟩ ?_
                          refine .skips 1 rfl ?_
                          refine .nil' fun c w ho hs => Cod.at (E := [(1, _), (5, _), (6, _), (8, _), (10, _), (9, _)]) (ho.sub ⟨rfl, rfl, rfl, rfl, rfl, rfl, trivial⟩) hs ?_
                          refine .seq ?_
                          refine .region ?_
                          refine .skips 1 rfl ?_
                          have hw4039 := W_post_Box_Len_i10 (I := I3999) (o0 := r4004.2.2.2) (b2 := b53) (p3 := p4016) (c4 := c4017) (b8 := b59) (b10 := b61) hd
                          refine .callS (.f Try.call12 rfl) (.c .z (.c .z (.c .z (.c .z .n)))) hw4039 rfl rfl fun v4043 I4040 l4044 hl4041 hv4042 => ?_
                          obtain ⟨r4045, rfl, rfl, hd⟩ := hv4042
                          have le4046 := IH.le.trans le4024 hl4041
                          have le4047 := IH.le.trans le4025 hl4041
                          replace R3 := R3.mono hl4041
                          refine .re (m' := [pto b53 (.cells #[.int .i64 r4004.2.2.2.room, .slice p4016 r4004.2.2.2.row.length c4017, .map (some b59), .map (some b61), .int .i64 r4004.2.2.2.sent, .int .i64 r4004.2.2.2.taken] 60 (0, 0)), OwnSl eI64 3 p4016 c4017 r4004.2.2.2.row, OwnMap (Value.int .i64) eFrame true b59 r4004.2.2.2.by_, OwnMap (Value.int .i64) eI64 false b61 r4004.2.2.2.often, OwnSl eI64 2 (some ⟨b4035, 0, none⟩) c3736 s3734]) rfl ?_
                          refine .skips 1 rfl ?_
                          refine .gt rfl rfl rfl rfl ?_
                          refine .nil' fun c w ho hs => Cod.at (E := [(1, _), (5, _), (6, _), (8, _), (10, _), (9, _), (129, _)]) (ho.sub ⟨rfl, rfl, rfl, rfl, rfl, rfl, rfl, trivial⟩) hs ?_
                          refine .cond rfl (fun hb4048 => ?_) (fun hb4048 => ?_)
                          · have hd := hd.1 hb4048
                            refine .seq ?_
                            refine .region ?_
                            refine .skips 1 rfl ?_
                            refine .nil' fun c w ho hs => Cod.at (E := [(4, _)]) (ho.sub ⟨rfl, trivial⟩) hs ?_
                            refine .drop .z ?_
                            refine .drop .z ?_
                            refine .drop .z ?_
                            refine .drop .z ?_
                            refine .drop .z ?_
                            exact .ret (pret Try.results5 (.t rfl .n) le4046 ⟨false, rfl, hd⟩)
                          · have hd := hd.2 hb4048
                            refine .skip' fun c w ho hs => Cod.at (E := [(1, _), (5, _), (6, _), (8, _), (10, _), (9, _)]) (ho.sub ⟨rfl, rfl, rfl, rfl, rfl, rfl, trivial⟩) hs ?_
                            refine .region ?_
                            refine .skips 1 rfl ?_
                            refine .add rfl rfl rfl rfl ?_
                            refine .sub (E' := [(1, _), (5, _), (6, _), (8, _), (9, _), (45, _), (46, _)]) ⟨rfl, rfl, rfl, rfl, rfl, rfl, rfl, trivial⟩ ?_
                            refine .skips 1 rfl ?_
                            exact .nil' fun c w ho hs => ⟨(r4004.2.2.2.room, r4004.2.2.2.row, r4004.2.2.2.by_, r4004.2.2.2.often, r4004.2.2.2.sent, r4004.2.2.2.taken, s3734, w64 (s3738 + 1), w64 (s3739 + 1)), hd, I4040, _, _, _, _, le4047, ho.sub ⟨rfl, rfl, rfl, rfl, rfl, rfl, trivial⟩, hs.pick (.c .z (.c .z (.c .z (.c .z (.c .z .n)))))⟩
                  · have hd := hd.2 hb4028
                    refine .skip' fun c w ho hs => Cod.at (E := [(1, _), (5, _), (6, _), (8, _), (9, _), (10, _)]) (ho.sub ⟨rfl, rfl, rfl, rfl, rfl, rfl, trivial⟩) hs ?_
                    refine .drop .z ?_
                    refine .seq ?_
                    refine .region ?_
                    refine .skips 1 rfl ?_
                    have hw4049 := W_post_Box_Len_i10 (I := I3999) (o0 := r4004.2.2.2) (b2 := b53) (p3 := p4016) (c4 := c4017) (b8 := b59) (b10 := b61) hd
                    refine .callS (.f Try.call12 rfl) (.c .z (.c .z (.c .z (.c .z .n)))) hw4049 rfl rfl fun v4053 I4050 l4054 hl4051 hv4052 => ?_
                    obtain ⟨r4055, rfl, rfl, hd⟩ := hv4052
                    have le4056 := IH.le.trans le4024 hl4051
                    have le4057 := IH.le.trans le4025 hl4051
                    replace R3 := R3.mono hl4051
                    refine .re (m' := [pto b53 (.cells #[.int .i64 r4004.2.2.2.room, .slice p4016 r4004.2.2.2.row.length c4017, .map (some b59), .map (some b61), .int .i64 r4004.2.2.2.sent, .int .i64 r4004.2.2.2.taken] 60 (0, 0)), OwnSl eI64 3 p4016 c4017 r4004.2.2.2.row, OwnMap (Value.int .i64) eFrame true b59 r4004.2.2.2.by_, OwnMap (Value.int .i64) eI64 false b61 r4004.2.2.2.often, OwnSl eI64 2 p3735 c3736 s3734]) rfl ?_
                    refine .skips 1 rfl ?_
                    refine .gt rfl rfl rfl rfl ?_
                    refine .nil' fun c w ho hs => Cod.at (E := [(1, _), (5, _), (6, _), (8, _), (9, _), (10, _), (129, _)]) (ho.sub ⟨rfl, rfl, rfl, rfl, rfl, rfl, rfl, trivial⟩) hs ?_
                    refine .cond rfl (fun hb4058 => ?_) (fun hb4058 => ?_)
                    · have hd := hd.1 hb4058
                      refine .seq ?_
                      refine .region ?_
                      refine .skips 1 rfl ?_
                      refine .nil' fun c w ho hs => Cod.at (E := [(4, _)]) (ho.sub ⟨rfl, trivial⟩) hs ?_
                      refine .drop .z ?_
                      refine .drop .z ?_
                      refine .drop .z ?_
                      refine .drop .z ?_
                      refine .drop .z ?_
                      exact .ret (pret Try.results5 (.t rfl .n) le4056 ⟨false, rfl, hd⟩)
                    · have hd := hd.2 hb4058
                      refine .skip' fun c w ho hs => Cod.at (E := [(1, _), (5, _), (6, _), (8, _), (9, _), (10, _)]) (ho.sub ⟨rfl, rfl, rfl, rfl, rfl, rfl, trivial⟩) hs ?_
                      refine .region ?_
                      refine .skips 1 rfl ?_
                      refine .add rfl rfl rfl rfl ?_
                      refine .sub (E' := [(1, _), (5, _), (6, _), (8, _), (9, _), (45, _), (46, _)]) ⟨rfl, rfl, rfl, rfl, rfl, rfl, rfl, trivial⟩ ?_
                      refine .skips 1 rfl ?_
                      exact .nil' fun c w ho hs => ⟨(r4004.2.2.2.room, r4004.2.2.2.row, r4004.2.2.2.by_, r4004.2.2.2.often, r4004.2.2.2.sent, r4004.2.2.2.taken, s3734, s3738, w64 (s3739 + 1)), hd, I4050, _, _, _, _, le4057, ho.sub ⟨rfl, rfl, rfl, rfl, rfl, rfl, trivial⟩, hs.pick (.c .z (.c .z (.c .z (.c .z (.c .z .n)))))⟩
          · have hd := hd.2 hb3749
            exact .exit fun c w ho hs => ⟨(s3725, s3726, s3730, s3731, s3732, s3733, s3734, s3738), hd, I3742, _, _, _, _, le3745, ho.sub ⟨rfl, rfl, rfl, trivial⟩, hs.pick (.c .z (.c .z (.c .z (.c .z (.c .z .n)))))⟩
        · have hd := hd.2 hb3748
          rw [hb3748]
          refine .skips 3 rfl ?_
          refine .nil' fun c w ho hs => Cod.at (E := [(1, _), (5, _), (6, _), (8, _), (9, _), (10, _), (44, _)]) (ho.sub ⟨rfl, rfl, rfl, rfl, rfl, rfl, rfl, trivial⟩) hs ?_
          refine .condKF rfl rfl ?_
          exact .exit fun c w ho hs => ⟨(s3725, s3726, s3730, s3731, s3732, s3733, s3734, s3738), hd, I3742, _, _, _, _, le3745, ho.sub ⟨rfl, rfl, rfl, trivial⟩, hs.pick (.c .z (.c .z (.c .z (.c .z (.c .z .n)))))⟩
      · rintro ⟨s2718, s2719, s2723, s2724, s2725, s2726, s2727, s2731⟩ hd c w hst
        obtain ⟨I4059, p2720, c2721, p2728, c2729, hl4060, hok, hsym⟩ := hst
        have le4061 := IH.le.trans le63 hl4060
        have le4062 := IH.le.trans (.refl _) hl4060
        refine Cod.at hok hsym ?_
        refine .seq ?_
        refine .block ?_
        refine .loop hd (fun (s : Int × (List Int) × (List (Int × Frame)) × (List (Int × Int)) × Int × Int × Int) c w => match s with | (s4409, s4410, s4414, s4415, s4416, s4417, s4418) => ∃ I_ p4411 c4412, IH.le I4059 I_ ∧ Ok 179 [(6, .pointer (some ⟨b53, 0, none⟩)), (8, .slice p2728 s2727.length c2729), (9, .int .i64 s4418)] c ∧ Sym w0 M I I_ [pto b53 (.cells #[.int .i64 s4409, .slice p4411 s4410.length c4412, .map (some b59), .map (some b61), .int .i64 s4416, .int .i64 s4417] 60 (0, 0)), OwnSl eI64 3 p4411 c4412 s4410, OwnMap (Value.int .i64) eFrame true b59 s4414, OwnMap (Value.int .i64) eI64 false b61 s4415, OwnSl eI64 2 p2728 c2729 s2727] w) (fun c w ho hs => ⟨I4059, _, _, (.refl _), ho.sub ⟨rfl, rfl, rfl, trivial⟩, hs.pick (.c .z (.c .z (.c .z (.c .z (.c .z .n)))))⟩) ?_
        rintro ⟨s4409, s4410, s4414, s4415, s4416, s4417, s4418⟩ next4419 hd c w hst
        obtain ⟨I4420, p4411, c4412, hl4421, hok, hsym⟩ := hst
        have le4422 := IH.le.trans le4061 hl4421
        have le4423 := IH.le.trans le4062 hl4421
        have le4424 := IH.le.trans (.refl _) hl4421
        refine Cod.at hok hsym ?_
        refine .seq ?_
        refine .seq ?_
        refine .region ?_
        refine .skips 1 rfl ?_
        have hw4436 := W_post_Box_Len_i10 (I := I4420) (o0 := ({ room := s4409, row := s4410, by_ := s4414, often := s4415, sent := s4416, taken := s4417 } : Post_Box)) (b2 := b53) (p3 := p4411) (c4 := c4412) (b8 := b59) (b10 := b61) hd
        refine .callS (.f Try.call12 rfl) (.c .z (.c .z (.c .z (.c .z .n)))) hw4436 rfl rfl fun v4440 I4437 l4441 hl4438 hv4439 => ?_
        obtain ⟨r4442, rfl, rfl, hd⟩ := hv4439
        have le4443 := IH.le.trans le4422 hl4438
        have le4444 := IH.le.trans le4423 hl4438
        have le4445 := IH.le.trans le4424 hl4438
        refine .re (m' := [pto b53 (.cells #[.int .i64 s4409, .slice p4411 s4410.length c4412, .map (some b59), .map (some b61), .int .i64 s4416, .int .i64 s4417] 60 (0, 0)), OwnSl eI64 3 p4411 c4412 s4410, OwnMap (Value.int .i64) eFrame true b59 s4414, OwnMap (Value.int .i64) eI64 false b61 s4415, OwnSl eI64 2 p2728 c2729 s2727]) rfl ?_
        refine .gt rfl rfl rfl rfl ?_
        refine .nil' fun c w ho hs => Cod.at (E := [(6, _), (8, _), (9, _), (132, _)]) (ho.sub ⟨rfl, rfl, rfl, rfl, trivial⟩) hs ?_
        refine .cond rfl (fun hb4446 => ?_) (fun hb4446 => ?_)
        · have hd := hd.1 hb4446
          refine .skip' fun c w ho hs => Cod.at (E := [(6, _), (8, _), (9, _)]) (ho.sub ⟨rfl, rfl, rfl, trivial⟩) hs ?_
          refine .block ?_
          refine .seq ?_
          refine .region ?_
          refine .skips 1 rfl ?_
          have hw4457 := W_post_Box_Len_i10 (I := I4437) (o0 := ({ room := s4409, row := s4410, by_ := s4414, often := s4415, sent := s4416, taken := s4417 } : Post_Box)) (b2 := b53) (p3 := p4411) (c4 := c4412) (b8 := b59) (b10 := b61) hd
          refine .callS (.f Try.call12 rfl) (.c .z (.c .z (.c .z (.c .z .n)))) hw4457 rfl rfl fun v4461 I4458 l4462 hl4459 hv4460 => ?_
          obtain ⟨r4463, rfl, rfl, hd⟩ := hv4460
          have le4464 := IH.le.trans le4443 hl4459
          have le4465 := IH.le.trans le4444 hl4459
          have le4466 := IH.le.trans le4445 hl4459
          refine .re (m' := [pto b53 (.cells #[.int .i64 s4409, .slice p4411 s4410.length c4412, .map (some b59), .map (some b61), .int .i64 s4416, .int .i64 s4417] 60 (0, 0)), OwnSl eI64 3 p4411 c4412 s4410, OwnMap (Value.int .i64) eFrame true b59 s4414, OwnMap (Value.int .i64) eI64 false b61 s4415, OwnSl eI64 2 p2728 c2729 s2727]) rfl ?_
          refine .skips 1 rfl ?_
          refine .nil' fun c w ho hs => Cod.at (E := [(6, _), (8, _), (9, _), (18, _)]) (ho.sub ⟨rfl, rfl, rfl, rfl, trivial⟩) hs ?_
          refine .seq ?_
          refine .region ?_
          refine .skips 2 rfl ?_
          have hw4508 := W_post_Box_Oldest_i9 (I := I4458) (o0 := ({ room := s4409, row := s4410, by_ := s4414, often := s4415, sent := s4416, taken := s4417 } : Post_Box)) (b2 := b53) (p3 := p4411) (c4 := c4412) (b8 := b59) (b10 := b61) hd
          refine .callS (.f Try.call10 rfl) (.c .z (.c .z (.c .z (.c .z .n)))) hw4508 rfl rfl fun v4512 I4509 l4513 hl4510 hv4511 => ?_
          obtain ⟨r4514, rfl, rfl, hd⟩ := hv4511
          have le4515 := IH.le.trans le4464 hl4510
          have le4516 := IH.le.trans le4465 hl4510
          have le4517 := IH.le.trans le4466 hl4510
          refine .re (m' := [pto b53 (.cells #[.int .i64 s4409, .slice p4411 s4410.length c4412, .map (some b59), .map (some b61), .int .i64 s4416, .int .i64 s4417] 60 (0, 0)), OwnSl eI64 3 p4411 c4412 s4410, OwnMap (Value.int .i64) eFrame true b59 s4414, OwnMap (Value.int .i64) eI64 false b61 s4415, OwnSl eI64 2 p2728 c2729 s2727]) rfl ?_
          have hw4518 := W_post_Box_Take_i5 (I := I4509) (o0 := ({ room := s4409, row := s4410, by_ := s4414, often := s4415, sent := s4416, taken := s4417 } : Post_Box)) (a0 := r4514) (b2 := b53) (p3 := p4411) (c4 := c4412) (b8 := b59) (b10 := b61) hd
          refine .callS (.f Try.call9 rfl) (.c .z (.c .z (.c .z (.c .z .n)))) hw4518 rfl rfl fun v4522 I4519 l4523 hl4520 hv4521 => ?_
          obtain ⟨r4524, p4525, c4526, p4528, c4529, p4531, c4532, p4536, c4537, rfl, R4527, R4530, R4533, rfl, hd⟩ := hv4521
          have le4544 := IH.le.trans le4515 hl4520
          have le4545 := IH.le.trans le4516 hl4520
          have le4546 := IH.le.trans le4517 hl4520
          refine .re (m' := [pto b53 (.cells #[.int .i64 r4524.2.2.2.room, .slice p4536 r4524.2.2.2.row.length c4537, .map (some b59), .map (some b61), .int .i64 r4524.2.2.2.sent, .int .i64 r4524.2.2.2.taken] 60 (0, 0)), OwnSl eI64 3 p4536 c4537 r4524.2.2.2.row, OwnMap (Value.int .i64) eFrame true b59 r4524.2.2.2.by_, OwnMap (Value.int .i64) eI64 false b61 r4524.2.2.2.often, OwnSl eI64 2 p2728 c2729 s2727]) rfl ?_
          refine .skips 1 rfl ?_
          refine .extract rfl rfl rfl rfl ?_
          refine .extract rfl rfl rfl rfl ?_
          refine .extract rfl rfl rfl rfl ?_
          refine .allocA Try.zeroValue34 rfl rfl fun b4547 => ?_
          refine .storeA Try.sizeOf34 rfl rfl .z (.t (.t (.t (.t (.t (.t (.t (.t (.t (.t (.t .nil))))))))))) rfl rfl ?_
          refine .skips 2 rfl ?_
          refine .nil' fun c w ho hs => Cod.at (E := [(6, _), (8, _), (9, _), (18, _), (19, _), (20, _), (21, _)]) (ho.sub ⟨rfl, rfl, rfl, rfl, rfl, rfl, rfl, trivial⟩) hs ?_
          refine .seq ?_
          refine .seq ?_
          refine .ownF (.s (.s .z)) fun hne4549 => ?_
          refine .ownF (.s (.s (.s (.s (.s .z))))) fun hne4550 => ?_
          refine .draw [some 0, some 1, some 2, some 3, some 4, some 5, some 6, some 7, some 8, some 9, some 10, some 11, some 12, some 13, some 14, some 15, some 16, some 17, some 18, some 19, some 20, some 21, some 23, some 22, some 24, some 25] 26 MX (by kernel_rfl) (by kernel_rfl) (by kernel_rfl) (by kernel_rfl) (by kernel_rfl) (by kernel_rfl) (by kernel_rfl) (fun ex => (pto b4547 (.cells #[.int .i64 r4524.1.Kind, .int .i64 r4524.1.From, .int .i64 r4524.1.To, .int .i64 r4524.1.Seq, .int .i64 r4524.1.Round, .int .i64 r4524.1.Vec.N, .slice p4525 r4524.1.Vec.Items.length c4526, .slice p4528 r4524.1.Sums.length c4529, .slice p4531 r4524.1.Triples.length c4532, .int .i64 r4524.1.N, .bool r4524.1.Over] 34 (0, 0))) :: (pto b53 (.cells #[.int .i64 r4524.2.2.2.room, .slice p4536 r4524.2.2.2.row.length c4537, .map (some b59), .map (some b61), .int .i64 r4524.2.2.2.sent, .int .i64 r4524.2.2.2.taken] 60 (0, 0))) :: (OwnSl eI64 3 p4536 c4537 r4524.2.2.2.row) :: (OwnMap (Value.int .i64) eFrame true b59 r4524.2.2.2.by_) :: (OwnMap (Value.int .i64) eI64 false b61 r4524.2.2.2.often) :: (OwnSl eI64 2 p2728 c2729 s2727) :: ex) (fun _ _ => (.s (.s (.s (.s (.s (.s .z))))))) rfl ?_
          refine .f [] rfl (by kernel_rfl) rfl rfl (fun ex => .move rfl rfl rfl .mk) ?_
          refine .f [0] rfl (by kernel_rfl) rfl rfl (fun ex => .move rfl rfl rfl .mk) ?_
          refine split r4524.2.1 (fun hb4551 => ?_) (fun hb4551 => ?_)
          · have hd := hd.1 hb4551
            refine .f [1] rfl (by kernel_rfl) rfl rfl (fun ex => .gyes rfl rfl hb4551 (.move rfl rfl rfl .mk)) ?_
            refine .f [1] rfl (by kernel_rfl) rfl rfl (fun ex => .gyes rfl rfl hb4551 (.move rfl rfl rfl .mk)) ?_
            refine .f [3, 1] rfl (by kernel_rfl) rfl rfl (fun ex => .gyes rfl rfl hb4551 (.len Try.underlying53 rfl rfl rfl rfl .mk)) ?_
            refine .f [2, 4, 1] rfl (by kernel_rfl) rfl rfl (fun ex => .gyes rfl rfl hb4551 (.ge rfl rfl rfl rfl .mk)) ?_
            refine .f [5, 1, 1] rfl (by kernel_rfl) rfl rfl (fun ex => .gyes rfl rfl hb4551 (.move rfl rfl rfl .mk)) ?_
            refine split (decide ((s2727.length : Int) ≤ s4418)) (fun hb4552 => ?_) (fun hb4552 => ?_)
            · have hd := hd.1 hb4552
              refine .f [6] rfl (by kernel_rfl) rfl rfl (fun ex => .gno rfl rfl hb4552 rfl rfl .mk) ?_
              refine .f [7, 6] rfl (by kernel_rfl) rfl rfl (fun ex => .gno rfl rfl hb4552 rfl rfl .mk) ?_
              refine .f [6] rfl (by kernel_rfl) rfl rfl (fun ex => .gno rfl rfl hb4552 rfl rfl .mk) ?_
              refine .f [6] rfl (by kernel_rfl) rfl rfl (fun ex => .gno rfl rfl hb4552 rfl rfl .mk) ?_
              refine .f [9, 10, 6] rfl (by kernel_rfl) rfl rfl (fun ex => .gno rfl rfl hb4552 rfl rfl .mk) ?_
              refine .f [11, 6] rfl (by kernel_rfl) rfl rfl (fun ex => .gno rfl rfl hb4552 rfl rfl .mk) ?_
              refine .f [8, 12, 6] rfl (by kernel_rfl) rfl rfl (fun ex => .gno rfl rfl hb4552 rfl rfl .mk) ?_
              refine .f [6, 13, 1] rfl (by kernel_rfl) rfl rfl (fun ex => .gyes rfl rfl hb4551 (.pickT rfl hb4552 rfl rfl rfl .mk)) ?_
              refine .f [1, 14] rfl (by kernel_rfl) rfl rfl (fun ex => .pickT rfl hb4551 rfl rfl rfl .mk) ?_
              refine .f [15, 6] rfl (by kernel_rfl) rfl rfl (fun ex => .move rfl rfl rfl .mk) ?_
              refine .f [16] rfl (by kernel_rfl) rfl rfl (fun ex => .gno rfl rfl rfl rfl rfl .mk) ?_
              refine .f [17, 16] rfl (by kernel_rfl) rfl rfl (fun ex => .gno rfl rfl rfl rfl rfl .mk) ?_
              refine .f [16, 18] rfl (by kernel_rfl) rfl rfl (fun ex => .pickT rfl rfl rfl rfl rfl .mk) ?_
              refine .f [19, 16] rfl (by kernel_rfl) rfl rfl (fun ex => .move rfl rfl rfl .mk) ?_
              refine .f [20] rfl (by kernel_rfl) rfl rfl (fun ex => .gno rfl rfl rfl rfl rfl .mk) ?_
              refine .f [20] rfl (by kernel_rfl) rfl rfl (fun ex => .gno rfl rfl rfl rfl rfl .mk) ?_
              refine .f [21, 20, 20] rfl (by kernel_rfl) rfl rfl (fun ex => .gno rfl rfl rfl rfl rfl .mk) ?_
              refine .f [22, 23, 20] rfl (by kernel_rfl) rfl rfl (fun ex => .gno rfl rfl rfl rfl rfl .mk) ?_
              refine .f [20, 24] rfl (by kernel_rfl) rfl rfl (fun ex => .pickT rfl rfl rfl rfl rfl .mk) ?_
              refine .e 26 (by kernel_rfl) (by kernel_rfl) (by kernel_rfl) ?_
              refine .nil' fun c w ho hs => Cod.at (E := [(6, _), (8, _), (9, _), (20, _), (168, _)]) (ho.sub ⟨rfl, rfl, rfl, rfl, rfl, trivial⟩) hs ?_
              refine .drop .z ?_
              refine .condKT rfl rfl ?_
              refine .seq ?_
              refine .region ?_
              refine .skips 1 rfl ?_
              refine .nil' fun c w ho hs => Cod.at (E := [(4, _)]) (ho.sub ⟨rfl, trivial⟩) hs ?_
              refine .drop .z ?_
              refine .drop .z ?_
              refine .drop .z ?_
              refine .drop .z ?_
              refine .drop .z ?_
              exact .ret (pret Try.results5 (.t rfl .n) le4544 ⟨false, rfl, hd⟩)
            · have hd := hd.2 hb4552
              refine .f [6] rfl (by kernel_rfl) rfl rfl (fun ex => .gyes rfl rfl hb4552 (.fieldAddr Try.underlying34 rfl Try.sizeOf2 rfl (o := 9) rfl rfl rfl .mk)) ?_
              refine .f [7, 6] rfl (by kernel_rfl) rfl rfl (fun ex => .gyes rfl rfl hb4552 (.load1 Try.isAgg2 rfl .z rfl rfl rfl .mk)) ?_
              refine .f [6] rfl (by kernel_rfl) rfl rfl (fun ex => .gyes rfl rfl hb4552 (.move rfl rfl rfl .mk)) ?_
              refine .f [6] rfl (by kernel_rfl) rfl rfl (fun ex => .gyes rfl rfl hb4552 (.move rfl rfl rfl .mk)) ?_
              obtain ⟨h4553, x4554, hx4555, hd⟩ := hd
              obtain ⟨b4556, e4557⟩ := hne4550 (idx_ne hx4555)
              cases e4557
              refine .f [9, 10, 6] rfl (by kernel_rfl) rfl rfl (fun ex => .gyes rfl rfl hb4552 (.ixa0 Try.underlying53 Try.sizeOf2 rfl rfl h4553 (idx_lt hx4555 h4553) rfl rfl .mk)) ?_
              refine .f [11, 6] rfl (by kernel_rfl) rfl rfl (fun ex => .gyes rfl rfl hb4552 (.lo1 (j := 0) Try.isAgg2 (.s (.s (.s (.s (.s .z))))) hx4555 rfl rfl rfl rfl rfl .mk)) ?_
              refine .f [8, 12, 6] rfl (by kernel_rfl) rfl rfl (fun ex => .gyes rfl rfl hb4552 (.ne rfl rfl rfl rfl .mk)) ?_
              refine .f [6, 13, 1] rfl (by kernel_rfl) rfl rfl (fun ex => .gyes rfl rfl hb4551 (.pickF rfl hb4552 rfl rfl rfl .mk)) ?_
              refine .f [1, 14] rfl (by kernel_rfl) rfl rfl (fun ex => .pickT rfl hb4551 rfl rfl rfl .mk) ?_
              refine .f [15, 6] rfl (by kernel_rfl) rfl rfl (fun ex => .move rfl rfl rfl .mk) ?_
              refine split (r4524.1.N != x4554) (fun hb4558 => ?_) (fun hb4558 => ?_)
              · have hd := hd.1 hb4558
                refine .f [16] rfl (by kernel_rfl) rfl rfl (fun ex => .gno rfl rfl hb4558 rfl rfl .mk) ?_
                refine .f [17, 16] rfl (by kernel_rfl) rfl rfl (fun ex => .gno rfl rfl hb4558 rfl rfl .mk) ?_
                refine .f [16, 18] rfl (by kernel_rfl) rfl rfl (fun ex => .pickT rfl hb4558 rfl rfl rfl .mk) ?_
                refine .f [19, 16] rfl (by kernel_rfl) rfl rfl (fun ex => .move rfl rfl rfl .mk) ?_
                refine .f [20] rfl (by kernel_rfl) rfl rfl (fun ex => .gno rfl rfl rfl rfl rfl .mk) ?_
                refine .f [20] rfl (by kernel_rfl) rfl rfl (fun ex => .gno rfl rfl rfl rfl rfl .mk) ?_
                refine .f [21, 20, 20] rfl (by kernel_rfl) rfl rfl (fun ex => .gno rfl rfl rfl rfl rfl .mk) ?_
                refine .f [22, 23, 20] rfl (by kernel_rfl) rfl rfl (fun ex => .gno rfl rfl rfl rfl rfl .mk) ?_
                refine .f [20, 24] rfl (by kernel_rfl) rfl rfl (fun ex => .pickT rfl rfl rfl rfl rfl .mk) ?_
                refine .e 26 (by kernel_rfl) (by kernel_rfl) (by kernel_rfl) ?_
                refine .nil' fun c w ho hs => Cod.at (E := [(6, _), (8, _), (9, _), (20, _), (168, _)]) (ho.sub ⟨rfl, rfl, rfl, rfl, rfl, trivial⟩) hs ?_
                refine .drop .z ?_
                refine .condKT rfl rfl ?_
                refine .seq ?_
                refine .region ?_
                refine .skips 1 rfl ?_
                refine .nil' fun c w ho hs => Cod.at (E := [(4, _)]) (ho.sub ⟨rfl, trivial⟩) hs ?_
                refine .drop .z ?_
                refine .drop .z ?_
                refine .drop .z ?_
                refine .drop .z ?_
                refine .drop .z ?_
                exact .ret (pret Try.results5 (.t rfl .n) le4544 ⟨false, rfl, hd⟩)
              · have hd := hd.2 hb4558
                refine .f [16] rfl (by kernel_rfl) rfl rfl (fun ex => .gyes rfl rfl hb4558 (.move rfl rfl rfl .mk)) ?_
                refine .f [17, 16] rfl (by kernel_rfl) rfl rfl (fun ex => .gyes rfl rfl hb4558 (.ne rfl rfl rfl rfl .mk)) ?_
                refine .f [16, 18] rfl (by kernel_rfl) rfl rfl (fun ex => .pickF rfl hb4558 rfl rfl rfl .mk) ?_
                refine .f [19, 16] rfl (by kernel_rfl) rfl rfl (fun ex => .move rfl rfl rfl .mk) ?_
                refine split (r4524.2.2.1 != 0) (fun hb4559 => ?_) (fun hb4559 => ?_)
                · have hd := hd.1 hb4559
                  refine .f [20] rfl (by kernel_rfl) rfl rfl (fun ex => .gno rfl rfl hb4559 rfl rfl .mk) ?_
                  refine .f [20] rfl (by kernel_rfl) rfl rfl (fun ex => .gno rfl rfl hb4559 rfl rfl .mk) ?_
                  refine .f [21, 20, 20] rfl (by kernel_rfl) rfl rfl (fun ex => .gno rfl rfl hb4559 rfl rfl .mk) ?_
                  refine .f [22, 23, 20] rfl (by kernel_rfl) rfl rfl (fun ex => .gno rfl rfl hb4559 rfl rfl .mk) ?_
                  refine .f [20, 24] rfl (by kernel_rfl) rfl rfl (fun ex => .pickT rfl hb4559 rfl rfl rfl .mk) ?_
                  refine .e 26 (by kernel_rfl) (by kernel_rfl) (by kernel_rfl) ?_
                  refine .nil' fun c w ho hs => Cod.at (E := [(6, _), (8, _), (9, _), (20, _), (168, _)]) (ho.sub ⟨rfl, rfl, rfl, rfl, rfl, trivial⟩) hs ?_
                  refine .drop .z ?_
                  refine .condKT rfl rfl ?_
                  refine .seq ?_
                  refine .region ?_
                  refine .skips 1 rfl ?_
                  refine .nil' fun c w ho hs => Cod.at (E := [(4, _)]) (ho.sub ⟨rfl, trivial⟩) hs ?_
                  refine .drop .z ?_
                  refine .drop .z ?_
                  refine .drop .z ?_
                  refine .drop .z ?_
                  refine .drop .z ?_
                  exact .ret (pret Try.results5 (.t rfl .n) le4544 ⟨false, rfl, hd⟩)
                · have hd := hd.2 hb4559
                  refine .f [20] rfl (by kernel_rfl) rfl rfl (fun ex => .gyes rfl rfl hb4559 (.move rfl rfl rfl .mk)) ?_
                  refine .f [20] rfl (by kernel_rfl) rfl rfl (fun ex => .gyes rfl rfl hb4559 (.move rfl rfl rfl .mk)) ?_
                  refine .w [23] [[], [], [20], [19, 20], [18, 19, 20], [20], [16, 20], [15, 16, 20], [14, 15, 16, 20], [13, 14, 15, 16, 20], [12, 13, 14, 15, 16, 20], [11, 12, 13, 14, 15, 16, 20], [11, 12, 13, 14, 15, 16, 20], [13, 14, 15, 16, 20], [8, 13, 14, 15, 16, 20], [16, 20], [6, 16, 20], [5, 6, 16, 20], [4, 5, 6, 16, 20], [5, 6, 16, 20], [15, 16, 20], [1, 15, 16, 20]] [21, 20, 20] rfl (by kernel_rfl) (by kernel_rfl) (by kernel_rfl) ((dropE_kept rfl rfl)) (.inr (dropE_kept rfl rfl)) fun ex => ?_
                  have hw4560 := W_post_Box_Len_i10 (I := I4519) (o0 := r4524.2.2.2) (b2 := b53) (p3 := p4536) (c4 := c4537) (b8 := b59) (b10 := b61) hd
                  refine .gyes rfl rfl hb4559 (.callS (.f Try.call12 rfl) (.c (.s .z) (.c (.s .z) (.c (.s .z) (.c (.s .z) .n)))) hw4560 rfl rfl fun v4564 I4561 l4565 hl4562 hv4563 => ?_)
                  obtain ⟨r4566, rfl, rfl, hd⟩ := hv4563
                  have le4567 := IH.le.trans le4544 hl4562
                  have le4568 := IH.le.trans le4545 hl4562
                  have le4569 := IH.le.trans le4546 hl4562
                  replace R4527 := R4527.mono hl4562
                  replace R4530 := R4530.mono hl4562
                  replace R4533 := R4533.mono hl4562
                  refine .re (m' := (pto b53 (.cells #[.int .i64 r4524.2.2.2.room, .slice p4536 r4524.2.2.2.row.length c4537, .map (some b59), .map (some b61), .int .i64 r4524.2.2.2.sent, .int .i64 r4524.2.2.2.taken] 60 (0, 0))) :: (OwnSl eI64 3 p4536 c4537 r4524.2.2.2.row) :: (OwnMap (Value.int .i64) eFrame true b59 r4524.2.2.2.by_) :: (OwnMap (Value.int .i64) eI64 false b61 r4524.2.2.2.often) :: (pto b4547 (.cells #[.int .i64 r4524.1.Kind, .int .i64 r4524.1.From, .int .i64 r4524.1.To, .int .i64 r4524.1.Seq, .int .i64 r4524.1.Round, .int .i64 r4524.1.Vec.N, .slice p4525 r4524.1.Vec.Items.length c4526, .slice p4528 r4524.1.Sums.length c4529, .slice p4531 r4524.1.Triples.length c4532, .int .i64 r4524.1.N, .bool r4524.1.Over] 34 (0, 0))) :: (OwnSl eI64 2 (some ⟨b4556, 0, none⟩) c2729 s2727) :: ex) rfl ?_
                  refine .some (fun ex => (pto b53 (.cells #[.int .i64 r4524.2.2.2.room, .slice p4536 r4524.2.2.2.row.length c4537, .map (some b59), .map (some b61), .int .i64 r4524.2.2.2.sent, .int .i64 r4524.2.2.2.taken] 60 (0, 0))) :: (OwnSl eI64 3 p4536 c4537 r4524.2.2.2.row) :: (OwnMap (Value.int .i64) eFrame true b59 r4524.2.2.2.by_) :: (OwnMap (Value.int .i64) eI64 false b61 r4524.2.2.2.often) :: (pto b4547 (.cells #[.int .i64 r4524.1.Kind, .int .i64 r4524.1.From, .int .i64 r4524.1.To, .int .i64 r4524.1.Seq, .int .i64 r4524.1.Round, .int .i64 r4524.1.Vec.N, .slice p4525 r4524.1.Vec.Items.length c4526, .slice p4528 r4524.1.Sums.length c4529, .slice p4531 r4524.1.Triples.length c4532, .int .i64 r4524.1.N, .bool r4524.1.Over] 34 (0, 0))) :: (OwnSl eI64 2 (some ⟨b4556, 0, none⟩) c2729 s2727) :: ex) rfl (fun _ _ => (.s (.s (.s (.s (.s (.s .z))))))) rfl (.cc [20] rfl (by kernel_rfl) rfl rfl rfl (fun ex => .gyes rfl rfl hb4559 (.move rfl rfl rfl .mk)) trivial) ?_
                  refine .f [22, 23, 20] rfl (by kernel_rfl) rfl rfl (fun ex => .gyes rfl rfl hb4559 (.ge rfl rfl rfl rfl .mk)) ?_
                  refine .f [20, 24] rfl (by kernel_rfl) rfl rfl (fun ex => .pickF rfl hb4559 rfl rfl rfl .mk) ?_
                  refine .e 26 (by kernel_rfl) (by kernel_rfl) (by kernel_rfl) ?_
                  refine .nil' fun c w ho hs => Cod.at (E := [(6, _), (8, _), (9, _), (20, _), (168, _)]) (ho.sub ⟨rfl, rfl, rfl, rfl, rfl, trivial⟩) hs ?_
                  refine .drop (.s (.s (.s (.s .z)))) ?_
                  refine .cond rfl (fun hb4570 => ?_) (fun hb4570 => ?_)
                  · have hd := hd.1 hb4570
                    refine .seq ?_
                    refine .region ?_
                    refine .skips 1 rfl ?_
                    refine .nil' fun c w ho hs => Cod.at (E := [(4, _)]) (ho.sub ⟨rfl, trivial⟩) hs ?_
                    refine .drop .z ?_
                    refine .drop .z ?_
                    refine .drop .z ?_
                    refine .drop .z ?_
                    refine .drop .z ?_
                    exact .ret (pret Try.results5 (.t rfl .n) le4567 ⟨false, rfl, hd⟩)
                  · have hd := hd.2 hb4570
                    refine .skip' fun c w ho hs => Cod.at (E := [(6, _), (8, _), (9, _), (20, _)]) (ho.sub ⟨rfl, rfl, rfl, rfl, trivial⟩) hs ?_
                    refine .seq ?_
                    refine .region ?_
                    refine .skips 1 rfl ?_
                    refine .nil' fun c w ho hs => Cod.at (E := [(6, _), (8, _), (9, _), (169, _)]) (ho.sub ⟨rfl, rfl, rfl, rfl, trivial⟩) hs ?_
                    refine .condKT rfl hb4551 ?_
                    refine .region ?_
                    refine .skips 1 rfl ?_
                    refine .add rfl rfl rfl rfl ?_
                    refine .sub (E' := [(6, _), (8, _), (169, _), (170, _), (171, _)]) ⟨rfl, rfl, rfl, rfl, rfl, trivial⟩ ?_
                    refine .skips 1 rfl ?_
                    exact .nil' fun c w ho hs => ⟨(r4524.2.2.2.room, r4524.2.2.2.row, r4524.2.2.2.by_, r4524.2.2.2.often, r4524.2.2.2.sent, r4524.2.2.2.taken, w64 (s4418 + 1)), hd, I4561, _, _, le4569, ho.sub ⟨rfl, rfl, rfl, trivial⟩, hs.pick (.c .z (.c .z (.c .z (.c .z (.c .z .n)))))⟩
          · have hd := hd.2 hb4551
            refine .f [1] rfl (by kernel_rfl) rfl rfl (fun ex => .gno rfl rfl hb4551 rfl rfl .mk) ?_
            refine .f [1] rfl (by kernel_rfl) rfl rfl (fun ex => .gno rfl rfl hb4551 rfl rfl .mk) ?_
            refine .f [3, 1] rfl (by kernel_rfl) rfl rfl (fun ex => .gno rfl rfl hb4551 rfl rfl .mk) ?_
            refine .f [2, 4, 1] rfl (by kernel_rfl) rfl rfl (fun ex => .gno rfl rfl hb4551 rfl rfl .mk) ?_
            refine .f [5, 1, 1] rfl (by kernel_rfl) rfl rfl (fun ex => .gno rfl rfl hb4551 rfl rfl .mk) ?_
            refine .f [6] rfl (by kernel_rfl) rfl rfl (fun ex => .gnoU rfl rfl rfl rfl .mk) ?_
            refine .f [7, 6] rfl (by kernel_rfl) rfl rfl (fun ex => .gnoU rfl rfl rfl rfl .mk) ?_
            refine .f [6] rfl (by kernel_rfl) rfl rfl (fun ex => .gnoU rfl rfl rfl rfl .mk) ?_
            refine .f [6] rfl (by kernel_rfl) rfl rfl (fun ex => .gnoU rfl rfl rfl rfl .mk) ?_
            refine .f [9, 10, 6] rfl (by kernel_rfl) rfl rfl (fun ex => .gnoU rfl rfl rfl rfl .mk) ?_
            refine .f [11, 6] rfl (by kernel_rfl) rfl rfl (fun ex => .gnoU rfl rfl rfl rfl .mk) ?_
            refine .f [8, 12, 6] rfl (by kernel_rfl) rfl rfl (fun ex => .gnoU rfl rfl rfl rfl .mk) ?_
            refine .f [6, 13, 1] rfl (by kernel_rfl) rfl rfl (fun ex => .gno rfl rfl hb4551 rfl rfl .mk) ?_
            refine .f [1, 14] rfl (by kernel_rfl) rfl rfl (fun ex => .pickF rfl hb4551 rfl rfl rfl .mk) ?_
            refine .f [15, 6] rfl (by kernel_rfl) rfl rfl (fun ex => .move rfl rfl rfl .mk) ?_
            refine .f [16] rfl (by kernel_rfl) rfl rfl (fun ex => .gyes rfl rfl rfl (.move rfl rfl rfl .mk)) ?_
            refine .f [17, 16] rfl (by kernel_rfl) rfl rfl (fun ex => .gyes rfl rfl rfl (.ne rfl rfl rfl rfl .mk)) ?_
            refine .f [16, 18] rfl (by kernel_rfl) rfl rfl (fun ex => .pickF rfl rfl rfl rfl rfl .mk) ?_
            refine .f [19, 16] rfl (by kernel_rfl) rfl rfl (fun ex => .move rfl rfl rfl .mk) ?_
            refine split (r4524.2.2.1 != 0) (fun hb4571 => ?_) (fun hb4571 => ?_)
            · have hd := hd.1 hb4571
              refine .f [20] rfl (by kernel_rfl) rfl rfl (fun ex => .gno rfl rfl hb4571 rfl rfl .mk) ?_
              refine .f [20] rfl (by kernel_rfl) rfl rfl (fun ex => .gno rfl rfl hb4571 rfl rfl .mk) ?_
              refine .f [21, 20, 20] rfl (by kernel_rfl) rfl rfl (fun ex => .gno rfl rfl hb4571 rfl rfl .mk) ?_
              refine .f [22, 23, 20] rfl (by kernel_rfl) rfl rfl (fun ex => .gno rfl rfl hb4571 rfl rfl .mk) ?_
              refine .f [20, 24] rfl (by kernel_rfl) rfl rfl (fun ex => .pickT rfl hb4571 rfl rfl rfl .mk) ?_
              refine .e 26 (by kernel_rfl) (by kernel_rfl) (by kernel_rfl) ?_
              refine .nil' fun c w ho hs => Cod.at (E := [(6, _), (8, _), (9, _), (20, _), (168, _)]) (ho.sub ⟨rfl, rfl, rfl, rfl, rfl, trivial⟩) hs ?_
              refine .drop .z ?_
              refine .condKT rfl rfl ?_
              refine .seq ?_
              refine .region ?_
              refine .skips 1 rfl ?_
              refine .nil' fun c w ho hs => Cod.at (E := [(4, _)]) (ho.sub ⟨rfl, trivial⟩) hs ?_
              refine .drop .z ?_
              refine .drop .z ?_
              refine .drop .z ?_
              refine .drop .z ?_
              refine .drop .z ?_
              exact .ret (pret Try.results5 (.t rfl .n) le4544 ⟨false, rfl, hd⟩)
            · have hd := hd.2 hb4571
              refine .f [20] rfl (by kernel_rfl) rfl rfl (fun ex => .gyes rfl rfl hb4571 (.move rfl rfl rfl .mk)) ?_
              refine .f [20] rfl (by kernel_rfl) rfl rfl (fun ex => .gyes rfl rfl hb4571 (.move rfl rfl rfl .mk)) ?_
              refine .w [23] [[], [], [20], [19, 20], [18, 19, 20], [20], [16, 20], [15, 16, 20], [14, 15, 16, 20], [13, 14, 15, 16, 20], [12, 13, 14, 15, 16, 20], [11, 12, 13, 14, 15, 16, 20], [11, 12, 13, 14, 15, 16, 20], [13, 14, 15, 16, 20], [8, 13, 14, 15, 16, 20], [16, 20], [6, 16, 20], [5, 6, 16, 20], [4, 5, 6, 16, 20], [5, 6, 16, 20], [15, 16, 20], [1, 15, 16, 20]] [21, 20, 20] rfl (by kernel_rfl) (by kernel_rfl) (by kernel_rfl) ((dropE_kept rfl rfl)) (.inr (dropE_kept rfl rfl)) fun ex => ?_
              have hw4572 := W_post_Box_Len_i10 (I := I4519) (o0 := r4524.2.2.2) (b2 := b53) (p3 := p4536) (c4 := c4537) (b8 := b59) (b10 := b61) hd
              refine .gyes rfl rfl hb4571 (.callS (.f Try.call12 rfl) (.c (.s .z) (.c (.s .z) (.c (.s .z) (.c (.s .z) .n)))) hw4572 rfl rfl fun v4576 I4573 l4577 hl4574 hv4575 => ?_)
              obtain ⟨r4578, rfl, rfl, hd⟩ := hv4575
              have le4579 := IH.le.trans le4544 hl4574
              have le4580 := IH.le.trans le4545 hl4574
              have le4581 := IH.le.trans le4546 hl4574
              replace R4527 := R4527.mono hl4574
              replace R4530 := R4530.mono hl4574
              replace R4533 := R4533.mono hl4574
              refine .re (m' := (pto b53 (.cells #[.int .i64 r4524.2.2.2.room, .slice p4536 r4524.2.2.2.row.length c4537, .map (some b59), .map (some b61), .int .i64 r4524.2.2.2.sent, .int .i64 r4524.2.2.2.taken] 60 (0, 0))) :: (OwnSl eI64 3 p4536 c4537 r4524.2.2.2.row) :: (OwnMap (Value.int .i64) eFrame true b59 r4524.2.2.2.by_) :: (OwnMap (Value.int .i64) eI64 false b61 r4524.2.2.2.often) :: (pto b4547 (.cells #[.int .i64 r4524.1.Kind, .int .i64 r4524.1.From, .int .i64 r4524.1.To, .int .i64 r4524.1.Seq, .int .i64 r4524.1.Round, .int .i64 r4524.1.Vec.N, .slice p4525 r4524.1.Vec.Items.length c4526, .slice p4528 r4524.1.Sums.length c4529, .slice p4531 r4524.1.Triples.length c4532, .int .i64 r4524.1.N, .bool r4524.1.Over] 34 (0, 0))) :: (OwnSl eI64 2 p2728 c2729 s2727) :: ex) rfl ?_
              refine .some (fun ex => (pto b53 (.cells #[.int .i64 r4524.2.2.2.room, .slice p4536 r4524.2.2.2.row.length c4537, .map (some b59), .map (some b61), .int .i64 r4524.2.2.2.sent, .int .i64 r4524.2.2.2.taken] 60 (0, 0))) :: (OwnSl eI64 3 p4536 c4537 r4524.2.2.2.row) :: (OwnMap (Value.int .i64) eFrame true b59 r4524.2.2.2.by_) :: (OwnMap (Value.int .i64) eI64 false b61 r4524.2.2.2.often) :: (pto b4547 (.cells #[.int .i64 r4524.1.Kind, .int .i64 r4524.1.From, .int .i64 r4524.1.To, .int .i64 r4524.1.Seq, .int .i64 r4524.1.Round, .int .i64 r4524.1.Vec.N, .slice p4525 r4524.1.Vec.Items.length c4526, .slice p4528 r4524.1.Sums.length c4529, .slice p4531 r4524.1.Triples.length c4532, .int .i64 r4524.1.N, .bool r4524.1.Over] 34 (0, 0))) :: (OwnSl eI64 2 p2728 c2729 s2727) :: ex) rfl (fun _ _ => (.s (.s (.s (.s (.s (.s .z))))))) rfl (.cc [20] rfl (by kernel_rfl) rfl rfl rfl (fun ex => .gyes rfl rfl hb4571 (.move rfl rfl rfl .mk)) trivial) ?_
              refine .f [22, 23, 20] rfl (by kernel_rfl) rfl rfl (fun ex => .gyes rfl rfl hb4571 (.ge rfl rfl rfl rfl .mk)) ?_
              refine .f [20, 24] rfl (by kernel_rfl) rfl rfl (fun ex => .pickF rfl hb4571 rfl rfl rfl .mk) ?_
              refine .e 26 (by kernel_rfl) (by kernel_rfl) (by kernel_rfl) ?_
              refine .nil' fun c w ho hs => Cod.at (E := [(6, _), (8, _), (9, _), (20, _), (168, _)]) (ho.sub ⟨rfl, rfl, rfl, rfl, rfl, trivial⟩) hs ?_
              refine .drop (.s (.s (.s (.s .z)))) ?_
              refine .cond rfl (fun hb4582 => ?_) (fun hb4582 => ?_)
              · have hd := hd.1 hb4582
                refine .seq ?_
                refine .region ?_
                refine .skips 1 rfl ?_
                refine .nil' fun c w ho hs => Cod.at (E := [(4, _)]) (ho.sub ⟨rfl, trivial⟩) hs ?_
                refine .drop .z ?_
                refine .drop .z ?_
                refine .drop .z ?_
                refine .drop .z ?_
                refine .drop .z ?_
                exact .ret (pret Try.results5 (.t rfl .n) le4579 ⟨false, rfl, hd⟩)
              · have hd := hd.2 hb4582
                refine .skip' fun c w ho hs => Cod.at (E := [(6, _), (8, _), (9, _), (20, _)]) (ho.sub ⟨rfl, rfl, rfl, rfl, trivial⟩) hs ?_
                refine .seq ?_
                refine .region ?_
                refine .skips 1 rfl ?_
                refine .nil' fun c w ho hs => Cod.at (E := [(6, _), (8, _), (9, _), (169, _)]) (ho.sub ⟨rfl, rfl, rfl, rfl, trivial⟩) hs ?_
                refine .condKF rfl hb4551 ?_
                exact .skip' fun c w ho hs => ⟨(r4524.2.2.2.room, r4524.2.2.2.row, r4524.2.2.2.by_, r4524.2.2.2.often, r4524.2.2.2.sent, r4524.2.2.2.taken, s4418), hd, I4573, _, _, le4581, ho.sub ⟨rfl, rfl, rfl, trivial⟩, hs.pick (.c .z (.c .z (.c .z (.c .z (.c .z .n)))))⟩
        · have hd := hd.2 hb4446
          refine .exit fun c w ho hs => Cod.at (E := [(8, _), (9, _)]) (ho.sub ⟨rfl, rfl, trivial⟩) hs ?_
          refine .drop .z ?_
          refine .drop .z ?_
          refine .drop .z ?_
          refine .drop .z ?_
          refine .seq ?_
          refine .region ?_
          have hw4589 := W_law20_live (I := I4437) hd
          refine .call Try.call11 rfl hw4589 rfl rfl fun v4587 I4584 hl4585 hv4586 => ?_
          obtain ⟨r4583, rfl, hd⟩ := hv4586
          have le4590 := IH.le.trans le4443 hl4585
          have le4591 := IH.le.trans le4444 hl4585
          have le4592 := IH.le.trans le4445 hl4585
          refine .skips 1 rfl ?_
          refine split r4583 (fun hb4593 => ?_) (fun hb4593 => ?_)
          · have hd := hd.1 hb4593
            rw [hb4593]
            refine .gyes rfl rfl rfl (.move rfl rfl rfl ?_)
            refine .gyes rfl rfl rfl (.move rfl rfl rfl ?_)
            refine .gyes rfl rfl rfl (.len Try.underlying53 rfl rfl rfl rfl ?_)
            refine .gyes rfl rfl rfl (.eq rfl rfl rfl rfl ?_)
            refine .skips 2 rfl ?_
            refine .nil' fun c w ho hs => Cod.at (E := [(4, _)]) (ho.sub ⟨rfl, trivial⟩) hs ?_
            refine .drop .z ?_
            exact .ret (pret Try.results5 (.t rfl .n) le4590 ⟨(s4418 == (s2727.length : Int)), rfl, hd⟩)
          · have hd := hd.2 hb4593
            rw [hb4593]
            refine .skips 6 rfl ?_
            refine .nil' fun c w ho hs => Cod.at (E := [(4, _)]) (ho.sub ⟨rfl, trivial⟩) hs ?_
            refine .drop .z ?_
            exact .ret (pret Try.results5 (.t rfl .n) le4590 ⟨false, rfl, hd⟩)

end Go.Proofs.Ytjpmbedipdkakaa
