/- The engine, part N: views of own slices: shortened, moved together, cleared behind the end. -/
import Derived.Test.YtbohadngdkjljaaGreatFwM
namespace Go.Fw
set_option linter.unusedSimpArgs false
set_option linter.unusedVariables false
open Go Go.RowKit
variable {w0 w:World} {M:Nat→Prop} {I0 I:IH} {m m':List HA}
variable {P:Program} {n:FrK} {E:DY} {Q:Exit→Act→World→Prop} {ops:Array Oper} {l:List Oper}
variable {d ty:Nat} {pos:String} {af:Array Edge} {T e:TypeId} {x y z:Operand}
variable {α:Type} {El:FH α} {xs ys:List α} {a:Option Addr} {cap:Nat}
/-! ### Elements of own slices that lead on -/
def Y2 (a:Option Addr) (cap L s:Nat):Option Addr:=if cap=L then a else a.map (·.add (L*s))
theorem OwnSl.take {k:IH} (h:(OwnSl El T a cap xs).holds I k) (H:Nat):(OwnSl El T a cap (xs.take H)).holds I k:=by
  rcases h with ⟨G,J,O⟩ | ⟨b,c,G,J,O,V,U⟩
  · exact .inl ⟨G,by rw [J]; simp,O⟩
  · refine .inr ⟨b,c,G,J,by simp; omega,V,fun i x D=>U i x ?_⟩
    rw [List.getElem?_take] at D
    split at D
    · exact D
    · cases D
theorem AbQ (a:Option Addr) (cap s:Nat):Y2 a cap 0 s=a:=by
  unfold Y2
  split
  · rfl
  · cases a with
    | none=>rfl
    | some p=>simp only [Option.map_some,Nat.zero_mul,Addr.add]; split <;> simp_all
theorem Cod.ownCap {c:Code} (G:Del m (OwnSl El T a cap xs) m') (k:xs.length≤cap→Cod P c n E (Sym w0 M I0 I m) Q):Cod P c n E (Sym w0 M I0 I m) Q:=by
  intro c w J D
  refine k ?_ c w J D
  obtain ⟨k1,O,_⟩:=(D.del G).get
  rcases O with ⟨_,U,h⟩ | ⟨b,_,_,_,h,_⟩
  · rw [U,h]; exact Nat.le_refl _
  · exact h
theorem Ops.sliceOm {S:World→Prop} {lo hi O:Option Operand} {q J h:IntKind} {i j t:Int} {k s:Nat} (hT:P.underlying T=some (.slice e)) (hs:∀ w,(sizeOf e).run P w=.ok s w) (hx:ev E x=some (.slice a k cap))
    (hl:xS E lo=some (some (.int q i))) (U:xS E hi=some (some (.int J j))) (hm:xS E O=some (some (.int h t))) (h0:0≤i) (h1:i≤j) (h2:j≤t) (h3:t≤cap) (V:Nat.blt d n.sz=true) (hf:fresh E d=true)
    (k':∀ v,Ops P ops l n ((d,v) :: E) S Q):Ops P ops (⟨some d,.slice T x lo hi O,ty,pos,af,none⟩ :: l) n E S Q:=by
  have G:∀ w,(Instr.sliceBounds true k cap (some (.int q i)) (some (.int J j)) (some (.int h t))).run P w=.ok (i.toNat,j.toNat,t.toNat) w:=by
    intro w
    have W:0≤t:=by omega
    have Z:(0:Int)≤j:=by omega
    have g2:j≤max t 0:=by omega
    have g3:i≤max j 0:=by omega
    simp [Instr.sliceBounds,Instr.sliceBound,asIntOf,h0,W,h3,Z,g2,g3]
  refine Ops.valx (fun _ w'=>S w') rfl rfl (fun c w D Y=>⟨.slice (if t.toNat=i.toNat then a else a.map (·.add (i.toNat*s))) (j.toNat - i.toNat) (t.toNat - i.toNat),w,?_,Y⟩) V hf (fun v=>k' v)
  · simp only [execOp,D.eval hx,PT D hl,PT D U,PT D hm,Instr.sliceAt,Sem.run_bind,run_underlying hT,Result.andThen_ok,Instr.slice,G,hs,Sem.run_pure]
theorem Ops.sliceO {lo hi:Option Operand} {U O:Option Value} {L H k s:Nat} (hT:P.underlying T=some (.slice e)) (hs:∀ w,(sizeOf e).run P w=.ok s w) (hx:ev E x=some (.slice a k cap)) (hk:k=xs.length)
    {T':TypeId} (hA:Del m (OwnSl El T' a cap xs) m') (hl:xS E lo=some U) (Y:xS E hi=some O) (D:U=none∧L=0∨∃ q i,U=some (.int q i)∧0≤i∧i.toNat=L)
    (G:O=none∧H=k∨∃ q i,O=some (.int q i)∧0≤i∧i.toNat=H) (h1:L≤H) (W:H≤xs.length) (Z:Nat.blt d n.sz=true) (hf:fresh E d=true)
    (k':Ops P ops l n ((d,.slice (Y2 a cap L s) (H - L) (cap - L)) :: E) (Sym w0 M I0 I m) Q) :
    Ops P ops (⟨some d,.slice T x lo hi none,ty,pos,af,none⟩ :: l) n E (Sym w0 M I0 I m) Q:=by
  subst hk
  refine Ops.val rfl rfl (fun c w J h=>?_) Z hf k'
  obtain ⟨k1,ha,_⟩:=(h.del hA).get
  have hc:xs.length≤cap:=by
    rcases ha with ⟨_,W,V⟩ | ⟨b,_,_,_,V,_⟩
    · rw [W,V]; exact Nat.le_refl _
    · exact V
  have hr:=jU (P:=P) (a:=a) hT hs h1 W hc D G w
  simp only [execOp,J.eval hx,PT J hl,PT J Y,Option.map_none,hr,Sem.run_bind,Sem.run_pure,Result.andThen_ok]
  rfl
theorem Ops.sliceTail {lo hi:Option Operand} {L N k s:Nat} {q W:IntKind} {i j:Int} (hT:P.underlying T=some (.slice e)) (hs:∀ w,(sizeOf e).run P w=.ok s w) (hx:ev E x=some (.slice a k cap))
    (hl:xS E lo=some (some (.int q i))) (Y:xS E hi=some (some (.int W j))) (J:0≤i) (G:i.toNat=L) (U:0≤j) (O:j.toNat=N) (h1:L≤N) (h2:N≤cap) (hb:Nat.blt d n.sz=true) (hf:fresh E d=true) {S:World→Prop}
    (k':Ops P ops l n ((d,.slice (Y2 a cap L s) (N - L) (cap - L)) :: E) S Q) :
    Ops P ops (⟨some d,.slice T x lo hi none,ty,pos,af,none⟩ :: l) n E S Q:=by
  refine Ops.val rfl rfl (fun c w D V=>?_) hb hf k'
  have h:(Instr.sliceBounds true k cap (some (.int q i)) (some (.int W j)) none).run P w=.ok (L,N,cap) w:=by
    have g1:j≤(cap:Int):=by omega
    have Z:i≤(N:Int):=by omega
    simp [Instr.sliceBounds,Instr.sliceBound,asIntOf,J,U,g1,O,Z,G]
  simp only [execOp,D.eval hx,PT D hl,PT D Y,Option.map_none,Instr.sliceAt,Sem.run_bind,run_underlying hT,Result.andThen_ok,Instr.slice,h,hs,Sem.run_pure]
  rfl
section
variable {enc:α→List Value} {s:Nat} {he:∀ x,(enc x).length=s∧NL (enc x)=true}
theorem Sym.appendDel {ty' sT:TypeId} {r:List HA} {B:Nat} {i:TypeInfo} {zc:Value} (h:Sym w0 M I0 I (OwnSl (KI s enc he) e a cap xs :: r) w)
    (hT:P.underlying sT=some (.slice e)) (hi:P.info? e=some i) (hsz:i.size=s) (hB:i.bytes=B) (hz:i.zero=some zc) (hzc:zc.cells.size=s) {L H:Nat} (h1:L≤H) (h2:H≤xs.length) :
    ∃ w',(Builtin.append_ #[sT,sT] ty' #[.slice a L cap,.slice (Y2 a cap H s) (xs.length - H) (cap - H)]).run P w=.ok (.slice a (xs.take L++xs.drop H).length cap) w'∧Sym w0 M I0 I (OwnSl (KI s enc he) e a cap (xs.take L++xs.drop H) :: r) w':=by
  obtain ⟨k1,ha,hk1⟩:=h.get
  have hc:xs.length≤cap:=by
    rcases ha with ⟨_,h2,h3⟩ | ⟨b,_,_,_,h3,_⟩
    · rw [h2,h3]; exact Nat.le_refl _
    · exact h3
  have hR:RepSl (KI s enc he) (hp w) a cap xs:=Ad7 ⟨k1,(OwnSl (KI s enc he) e a cap xs).mono h.imm (IH.le.refl _) ha,hk1⟩
  have hR2:=hR.slice h2 (Nat.le_refl _)
  rw [List.take_length] at hR2
  have hst:Sym w (fun b=>(fun _=>none:IH) b≠none) (hp w) (hp w) [] w:=Fun.start (IH.le.refl _) trivial (fun _ _ x=>nomatch x) (fun _=>.inr rfl)
  obtain ⟨hv,src,U,hs2⟩:=Src.imm (P:=P) (m:=[]) (w0:=w) (M:=fun b=>(fun _=>none:IH) b≠none) (I0:=hp w) (k:=xs.length - H) hR2 (by simp)
  have G:(xs.drop H).length=xs.length - H:=by simp
  have hs1':RepCs (KI s enc he) I src (xs.drop H):=⟨U.1,U.2.1,U.2.2⟩
  have V:(xs.take L).length=L:=by rw [List.length_take]; omega
  have D:(xs.take L).length+(xs.drop H).length≤cap:=by rw [V,G]; omega
  have hsm:Sym w0 M I0 I (OwnSl (KI s enc he) e a cap (xs.take L) :: r) w:=h.weaken fun _ hk=>OwnSl.take hk L
  obtain ⟨kk,ha',_⟩:=hsm.get
  have hrun:=hs2 w hst
  -- in place
  rcases ha with ⟨g1,g2,g3⟩ | ⟨b,c,g1,g2,g3,g4,g5⟩
  · subst g1 g2 g3
    have hL:L=0:=by simp at h2; omega
    have hH:H=0:=by simpa using h2
    subst hL hH
    refine ⟨w,?_,?_⟩
    · have:=MG (P:=P) (w:=w) (w':=w) (ty':=ty') (a:=none) (cap:=0) (k:=0) (kv:=0) (cv:=0) (bv:=none) (src:=#[]) (s:=s) hT hT (fun w=>by simp [sizeOf,typeInfo,hi,hsz]) (by omega) (by simp [Builtin.firstCells]) (fun p hp=>by cases hp) (fun _=>rfl)
      simpa [Y2] using this
    · simpa using h
  · subst g1
    have hso:∀ w,(sizeOf e).run P w=.ok s w:=fun w=>by simp [sizeOf,typeInfo,hi,hsz]
    obtain ⟨hb,himm,hn,q,⟨q1,q2,hd',hl1,hl2,hq,hs'⟩,hkk,hdj,hm⟩:=hsm
    rcases hq with ⟨h1',_⟩ | ⟨b',O,h1',h2',h3',h4',h5'⟩
    · cases h1'
    cases h1'
    have hpt:Sym w0 M I0 I (Fw.pto b (.cells O e (0,0)) :: r) w:=⟨hb,himm,hn,q,⟨q1,q2,hd',hl1,hl2,h2',hs'⟩,hkk,hdj,hm⟩
    have hmul:L*s+(xs.drop H).length*s≤cap*s:=by rw [←Nat.add_mul]; exact Nat.mul_le_mul_right _ (by rw [V] at D; exact D)
    have hsl:src.length=(xs.drop H).length*s:=hs1'.1
    have hr:=run_storeCells_at (P:=P) b (L*s) e src 0 O w hpt.pto (by rw [hsl]; show _≤O.size; rw [h4']; exact hmul) (W6 U.2.2)
    have e1:(⟨b,0,none⟩:Addr).add (L*s)=⟨b,L*s,none⟩:=by unfold Addr.add; split <;> simp_all
    have W:=hrun w rfl
    rw [G] at W
    refine ⟨w.setRow b (O.toList.take (L*s+0)++src++O.toList.drop (L*s+0+src.length)).toArray,?_,?_⟩
    · have:=MG (P:=P) (w:=w) (ty':=ty') (a:=some ⟨b,0,none⟩) (cap:=cap) (k:=L) (kv:=xs.length - H) (cv:=cap - H) (bv:=Y2 (some ⟨b,0,none⟩) cap H s) (src:=src.toArray) (s:=s) hT hT hso (by rw [V,G] at D; exact D) W (fun p hp=>by cases hp; rw [e1]; exact hr) (fun h=>by cases h)
      rw [this]; simp only [List.length_append,V,G]
    · have hup:=hpt.upd (o':=.cells (O.toList.take (L*s+0)++src++O.toList.drop (L*s+0+src.length)).toArray e (0,0)) (w':=w.setRow b _) rfl rfl rfl rfl (by simp [World.setRow]) (fun q hq=>Fw.setRow_other hq) (setRow_heap w b _ _ e _ hpt.pto)
      refine hup.weaken fun q hq=>.inr ⟨b,_,rfl,hq,by rw [List.length_append]; exact D,?_,?_⟩
      · have J:O.size=cap*s:=h4'
        simp only [List.size_toArray,List.length_append,List.length_take,List.length_drop,Array.length_toList,hsl,J]
        show _=cap*s
        rw [G] at hmul
        rw [Nat.min_eq_left (by omega)]
        omega
      · intro Y x2 Z
        simp only [Nat.add_zero,List.getElem?_toArray]
        have J:O.size=cap*s:=h4'
        rcases Nat.lt_or_ge Y L with h6 | h6
        · rw [List.getElem?_append_left (by omega)] at Z
          obtain ⟨cs,g3,g4⟩:=h5' Y x2 Z
          refine ⟨cs,g3,fun j u hj=>?_⟩
          have hjl:j<s:=by
            have h0:cs.length=s:=(KI s enc he).len g3
            have h1:=(List.getElem?_eq_some_iff.1 hj).1
            omega
          have hm2:(Y+1)*s≤L*s:=Nat.mul_le_mul_right _ h6
          rw [Nat.add_mul,Nat.one_mul] at hm2
          have:=g4 j u hj
          rw [←Array.getElem?_toList] at this
          have this':O.toList[Y*s+j]? = some u:=this
          have hle:L*s≤O.toList.length:=by simp [J]; omega
          show (_++_++_)[Y*s+j]? = _
          rw [List.append_assoc,List.getElem?_append_left (by rw [List.length_take]; omega),List.getElem?_take,if_pos (by omega),this']
        · rw [List.getElem?_append_right (by omega)] at Z
          obtain ⟨cs,g3,g4⟩:=U.2.1 _ x2 Z
          refine ⟨cs,g3,fun j u hj=>?_⟩
          have h7:=g4 j u hj
          have h8:=(List.getElem?_eq_some_iff.1 h7).1
          rw [V] at h7 h8
          have e3:Y*s=L*s+(Y - L)*s:=by rw [←Nat.add_mul]; congr 1; omega
          have h7':src[(Y - L)*s+j]? = some u:=h7
          have h8':(Y - L)*s+j<src.length:=h8
          have hle:L*s≤O.toList.length:=by simp [J]; omega
          show (_++_++_)[Y*s+j]? = _
          rw [List.append_assoc,List.getElem?_append_right (by rw [List.length_take]; omega),List.getElem?_append_left (by rw [List.length_take]; omega),←h7']
          rw [List.length_take]
          congr 1; omega
theorem Ops.appendDel {V:TypeId} {i:TypeInfo} {zc:Value} {G:Array TypeId} {L H:Nat} (B:Nat) (hA:At m (OwnSl (KI s enc he) e a cap xs) m' (OwnSl (KI s enc he) e a cap (xs.take L++xs.drop H))) (hT:P.underlying V=some (.slice e)) (hi:P.info? e=some i)
    (hsz:i.size=s) (hB:i.bytes=B) (hz:i.zero=some zc) (Y:zc.cells.size=s) (h:G = #[V,V]) {a1:Option Addr} {k1 D H2:Nat} (hx:ev E x=some (.slice a1 k1 D)) (hy:ev E y=some (.slice (Y2 a cap H s) (H2 - H) (cap - H)))
    (hx1:a1=a) (W:k1=L) (O:D=cap) (U:H2=xs.length) (h1:L≤H) (h2:H≤xs.length) (hb:Nat.blt d n.sz=true) (hf:fresh E d=true)
    (k':Ops P ops l n ((d,.slice a (xs.take L++xs.drop H).length cap) :: E) (Sym w0 M I0 I m') Q) :
    Ops P ops (⟨some d,.call ⟨.builtin .append,#[x,y],G⟩,ty,pos,af,none⟩ :: l) n E (Sym w0 M I0 I m) Q:=
  Ops.valx (fun v w'=>v=.slice a (xs.take L++xs.drop H).length cap∧Sym w0 M I0 I m' w') rfl rfl
    (fun c w J hs=>by
      subst hx1 W O U
      obtain ⟨r,g2,g3⟩:=hA.del
      obtain ⟨w',hr,Z⟩:=Sym.appendDel (P:=P) (ty':=ty) (hs.del g2) hT hi hsz hB hz Y h1 h2
      subst h
      refine ⟨_,w',?_,rfl,Z.undel g3⟩
      have e:(#[x,y].map c.eval) = #[.slice a1 k1 D,.slice (Y2 a1 D H s) (xs.length - H) (D - H)]:=by simp [J.eval hx,J.eval hy]
      simp only [execOp,resolve,e,Sem.run_bind,Sem.run_pure,Result.andThen_ok,invoke,builtin,hr]) hb hf
    (fun v c w J ⟨hv,hs⟩=>by subst hv; exact k' c w J hs)
end
theorem Ops.clearTail {sT:TypeId} {i:TypeInfo} {zc:Value} {tys:Array TypeId} {L N:Nat} (hA:Del m (OwnSl El e a cap xs) m') (hT:P.underlying sT=some (.slice e)) (hi:P.info? e=some i)
    (hsz:i.size=El.sz) (hz:i.zero=some zc) (hzc:zc.cells.size=El.sz) (hz1:NL zc.cells.toList=true) (htys:tys[0]? = some sT) (hx:ev E x=some (.slice (Y2 a cap L El.sz) (N - L) (cap - L)))
    (h1:L=xs.length) (h2:N≤cap) (k':Ops P ops l n E (Sym w0 M I0 I m) Q) :
    Ops P ops (⟨none,.call ⟨.builtin .clear,#[x],tys⟩,ty,pos,af,none⟩ :: l) n E (Sym w0 M I0 I m) Q:=
  Ops.val0 rfl rfl (fun c w ho hs=>by
    have e0:(#[x].map c.eval) = #[.slice (Y2 a cap L El.sz) (N - L) (cap - L)]:=by simp [ho.eval hx]
    have hzv:∀ w,(zeroValue e).run P w=.ok zc w:=fun w=>by simp [zeroValue,typeInfo,hi,hz]
    have hst:=hs.del hA
    obtain ⟨hb,himm,hn,q,⟨q1,q2,hd',hl1,hl2,hq,hs'⟩,hkk,hdj,hm⟩:=hst
    rcases hq with ⟨g1,g2,g3⟩ | ⟨b,c',g1,g2,g3,g4,g5⟩
    · subst g1 g2 g3
      refine ⟨.tuple #[],w,?_,hs⟩
      have hN:N - L=0:=by omega
      have hv:Y2 none 0 L El.sz=none:=by unfold Y2; split <;> rfl
      simp [execOp,resolve,e0,invoke,builtin,Builtin.clear_,htys,run_underlying hT,hv]
    · subst g1
      by_cases hN:N - L=0
      · refine ⟨.tuple #[],w,?_,hs⟩
        rw [hN] at e0
        have hv:∃ ad,Y2 (some ⟨b,0,none⟩) cap L El.sz=some ad:=by unfold Y2; split <;> exact ⟨_,rfl⟩
        obtain ⟨ad,hv⟩:=hv
        rw [hv] at e0
        simp [execOp,resolve,e0,invoke,builtin,Builtin.clear_,htys,run_underlying hT]
      · have hv:Y2 (some ⟨b,0,none⟩) cap L El.sz=some ⟨b,L*El.sz,none⟩:=by
          unfold Y2
          rw [if_neg (by omega)]
          simp only [Option.map_some,Addr.add]; split <;> simp_all
        rw [hv] at e0
        have hpt:Sym w0 M I0 I (Fw.pto b (.cells c' e (0,0)) :: m') w:=⟨hb,himm,hn,q,⟨q1,q2,hd',hl1,hl2,g2,hs'⟩,hkk,hdj,hm⟩
        have hmul:L*El.sz+(N - L)*El.sz≤cap*El.sz:=by rw [←Nat.add_mul]; exact Nat.mul_le_mul_right _ (by omega)
        have hzl:(Builtin.zeroCells zc.cells (N - L)).toList.length=(N - L)*El.sz:=by simp [qF _ hzc]
        have h1z:∀ v∈(Builtin.zeroCells zc.cells (N - L)).toList,one v=true:=by
          intro v hv
          simp only [Builtin.zeroCells,Array.toList_map,List.mem_map,Array.toList_range,List.mem_range] at hv
          obtain ⟨i',hi',rfl⟩:=hv
          have hpos : 0 < zc.cells.size := by rcases Nat.eq_zero_or_pos zc.cells.size with h | h; · simp [h] at hi'
                                              · exact h
          have hlt:i' % zc.cells.size<zc.cells.size:=Nat.mod_lt _ hpos
          rw [getElem!_pos zc.cells _ hlt]
          exact W6 hz1 _ (by simp)
        have hr:=run_storeCells_at (P:=P) b (L*El.sz) e (Builtin.zeroCells zc.cells (N - L)).toList 0 c' w hpt.pto (by rw [hzl,g4]; omega) h1z
        refine ⟨.tuple #[],w.setRow b (c'.toList.take (L*El.sz+0)++(Builtin.zeroCells zc.cells (N - L)).toList++c'.toList.drop (L*El.sz+0+(Builtin.zeroCells zc.cells (N - L)).toList.length)).toArray,?_,?_⟩
        · have hr':(storeCells ⟨b,L*El.sz,none⟩ (Builtin.zeroCells zc.cells (N - L)).toList).run P w=.ok () (w.setRow b (c'.toList.take (L*El.sz+0)++(Builtin.zeroCells zc.cells (N - L)).toList++c'.toList.drop (L*El.sz+0+(Builtin.zeroCells zc.cells (N - L)).toList.length)).toArray):=hr
          cases hk:N - L with
          | zero=>exact absurd hk hN
          | succ k=>
            rw [hk] at hr' e0
            simp only [execOp,resolve,e0,invoke,builtin,Builtin.clear_,Sem.run_bind,Sem.run_pure,Result.andThen_ok,htys,List.getElem?_toArray,List.getElem?_cons_zero,run_underlying hT,hzv,hr']
        · have hup:=hpt.upd (o':=.cells (c'.toList.take (L*El.sz+0)++(Builtin.zeroCells zc.cells (N - L)).toList++c'.toList.drop (L*El.sz+0+(Builtin.zeroCells zc.cells (N - L)).toList.length)).toArray e (0,0)) (w':=w.setRow b _) rfl rfl rfl rfl (by simp [World.setRow]) (fun q hq=>Fw.setRow_other hq) (setRow_heap w b _ _ e _ hpt.pto)
          refine (Sym.weaken hup (B:=OwnSl El e (some ⟨b,0,none⟩) cap xs) fun q hq=>.inr ⟨b,_,rfl,hq,g3,?_,?_⟩).undel hA
          · simp only [List.size_toArray,List.length_append,List.length_take,List.length_drop,Array.length_toList,hzl,g4]; omega
          · intro i2 x2 hx2
            obtain ⟨cs,u1,u2⟩:=g5 i2 x2 hx2
            refine ⟨cs,u1,fun j u hj=>?_⟩
            have hil:=(List.getElem?_eq_some_iff.1 hx2).1
            have hjl:j<El.sz:=by rw [←El.len u1]; exact (List.getElem?_eq_some_iff.1 hj).1
            have hm2:(i2+1)*El.sz≤L*El.sz:=Nat.mul_le_mul_right _ (by omega)
            rw [Nat.add_mul,Nat.one_mul] at hm2
            have:=u2 j u hj
            rw [←Array.getElem?_toList] at this
            simp only [Nat.add_zero,List.getElem?_toArray]
            rw [List.append_assoc,List.getElem?_append_left (by rw [List.length_take]; simp only [Array.length_toList,g4]; omega),List.getElem?_take,if_pos (by omega),this]) k'
@[reducible] def AhP (h:Nat):Type:={cs:List Value // cs.length=h∧NL cs=true}
structure Aj1 (El:FH α) (I:IH) (css:List (AhP El.sz)) (xs:List α):Prop where
  len:css.length=xs.length
  all:∀ (i:Nat) (x:α),xs[i]? = some x→∃ c:AhP El.sz,css[i]? = some c∧El.rep I c.1 x
end Go.Fw
