/- The engine. -/
import Derived.Test.YtbohadngdkjljaaGreatFwM
namespace Go.Fw
set_option linter.unusedSimpArgs false
set_option linter.unusedVariables false
open Go Go.RowKit
variable {w0 w:World} {M:Nat→Prop} {I0 I:IH} {m m':List HA}
variable {P:Program} {n:FrK} {E:D7} {Q:Exit→Act→World→Prop} {ops:Array Oper} {l:List Oper}
variable {d ty:Nat} {pos:String} {af:Array Edge} {T e:TypeId} {x y z:Operand}
variable {α:Type} {El:ET α} {xs ys:List α} {a:Option Addr} {cap:Nat}
/-! ### Elements of own slices that lead on -/
variable {T' sT:TypeId} {zc:Value} {m2:List HA}
theorem OwnSl.els {b:Nat} (h:Sym w0 M I0 I m w) (W:Del m (OwnSl El T' (some ⟨b,0,none⟩) cap xs) m') {i:Nat} {v:α} (hi:xs[i]? = some v) :
   ∃ cs,El.rep I cs v∧∀ j u,cs[j]? = some u→w.cell? ⟨b,i*El.sz+j,none⟩=some u:=by
 obtain ⟨k1,V,hk⟩:=(h.del W).get
 rcases V with ⟨D,_⟩ | ⟨b',c,D,Y,h3,h4,G⟩
 · cases D
 · cases D
   obtain ⟨cs,O,U⟩:=G i v hi
   exact ⟨cs,O,fun j u J=>by rw [L9 (hk _ _ Y)]; exact U j u J⟩
theorem Ops.loEs {b o i j:Nat} {v:α} {u:Value} (O:∀ w,(isAgg T).run P w=.ok false w) (Z:Del m (OwnSl El T' (some ⟨b,0,none⟩) cap xs) m') (hi:xs[i]? = some v) (hx:ev E x=some (.pointer (some ⟨b,o,none⟩))) (V:o=i*El.sz+j)
  (D:∀ cs,El.rep I cs v→cs[j]? = some u) (h:Nat.blt d n.sz=true) (Y:fresh E d=true) (k:Ops P ops l n ((d,u) :: E) (Sym w0 M I0 I m) Q):Ops P ops (⟨some d,.load T x,ty,pos,af,none⟩ :: l) n E (Sym w0 M I0 I m) Q:=
 Ops.val rfl rfl (fun c w W U=>by
  subst V
  obtain ⟨cs,G,J⟩:=OwnSl.els U Z hi
  simp [execOp,W.eval hx,O7 (P:=P) O (J j u (D cs G))]) h Y k
theorem Ops.loEW {b o i O:Nat} {v:α} (Z:∀ w,(isAgg T).run P w=.ok true w) (V:∀ w,(sizeOf T).run P w=.ok O w) (hA:Del m (OwnSl El T' (some ⟨b,0,none⟩) cap xs) m') (hi:xs[i]? = some v)
  (hx:ev E x=some (.pointer (some ⟨b,o,none⟩))) (J:o=i*El.sz) (Y:El.sz=O) (U:Nat.blt d n.sz=true) (hf:fresh E d=true) (k:∀ cs,El.rep I cs v→Ops P ops l n ((d,.agg cs.toArray) :: E) (Sym w0 M I0 I m) Q) :
  Ops P ops (⟨some d,.load T x,ty,pos,af,none⟩ :: l) n E (Sym w0 M I0 I m) Q:=
 Ops.valx (fun u w'=>(∃ cs,u=.agg cs.toArray∧El.rep I cs v)∧Sym w0 M I0 I m w') rfl rfl (fun c w hc D=>by
  subst J
  obtain ⟨cs,h,W⟩:=OwnSl.els D hA hi
  refine ⟨.agg cs.toArray,w,?_,⟨cs,rfl,h⟩,D⟩
  simp [execOp,hc.eval hx,JH (P:=P) Z V (El.len h |>.trans Y) (fun i' v' G=>W i' v' G)]) U hf (fun u c w J ⟨⟨cs,hu,h⟩,D⟩=>by subst hu; exact k cs h c w J D)
def V5 (a:Option Addr) (cap L s:Nat):Option Addr:=if cap=L then a else a.map (·.add (L*s))
theorem OwnSl.take {k:IH} (h:(OwnSl El T a cap xs).holds I k) (H:Nat):(OwnSl El T a cap (xs.take H)).holds I k:=by
 rcases h with ⟨J,G,O⟩ | ⟨b,c,J,G,O,U,V⟩
 · exact .inl ⟨J,by rw [G]; simp,O⟩
 · refine .inr ⟨b,c,J,G,by simp; omega,U,fun i x D=>V i x ?_⟩
   rw [List.getElem?_take] at D
   split at D
   · exact D
   · cases D
theorem uP (a:Option Addr) (cap s:Nat):V5 a cap 0 s=a:=by
 unfold V5
 split
 · rfl
 · cases a with
   | none=>rfl
   | some p=>simp only [Option.map_some,Nat.zero_mul,Addr.add]; split <;> simp_all
theorem Cod.ownCap {c:Code} (O:Del m (OwnSl El T a cap xs) m') (k:xs.length≤cap→Cod P c n E (Sym w0 M I0 I m) Q):Cod P c n E (Sym w0 M I0 I m) Q:=by
 intro c w G D
 refine k ?_ c w G D
 obtain ⟨k1,J,_⟩:=(D.del O).get
 rcases J with ⟨_,U,h⟩ | ⟨b,_,_,_,h,_⟩
 · rw [U,h]; exact Nat.le_refl _
 · exact h
theorem Ops.sliceOm {S:World→Prop} {lo hi O:Option Operand} {q J h:IntKind} {i j t:Int} {k s:Nat} (hT:P.underlying T=some (.slice e)) (hs:∀ w,(sizeOf e).run P w=.ok s w) (hx:ev E x=some (.slice a k cap))
   (hl:qD E lo=some (some (.int q i))) (V:qD E hi=some (some (.int J j))) (hm:qD E O=some (some (.int h t))) (h0:0≤i) (h1:i≤j) (h2:j≤t) (Z:t≤cap) (hb:Nat.blt d n.sz=true) (Y:fresh E d=true)
   (k':∀ v,Ops P ops l n ((d,v) :: E) S Q):Ops P ops (⟨some d,.slice T x lo hi O,ty,pos,af,none⟩ :: l) n E S Q:=by
 have G:∀ w,(Instr.sliceBounds true k cap (some (.int q i)) (some (.int J j)) (some (.int h t))).run P w=.ok (i.toNat,j.toNat,t.toNat) w:=by
   intro w
   have g0:0≤t:=by omega
   have g1:(0:Int)≤j:=by omega
   have W:j≤max t 0:=by omega
   have U:i≤max j 0:=by omega
   simp [Instr.sliceBounds,Instr.sliceBound,asIntOf,h0,g0,Z,g1,W,U]
 refine Ops.valx (fun _ w'=>S w') rfl rfl (fun c w D hw=>⟨.slice (if t.toNat=i.toNat then a else a.map (·.add (i.toNat*s))) (j.toNat - i.toNat) (t.toNat - i.toNat),w,?_,hw⟩) hb Y (fun v=>k' v)
 · simp only [execOp,D.eval hx,NV D hl,NV D V,NV D hm,Instr.sliceAt,Sem.run_bind,run_underlying hT,Result.andThen_ok,Instr.slice,G,hs,Sem.run_pure]
theorem Ops.sliceO {lo hi:Option Operand} {U G:Option Value} {L H k s:Nat} (hT:P.underlying T=some (.slice e)) (hs:∀ w,(sizeOf e).run P w=.ok s w) (hx:ev E x=some (.slice a k cap)) (hk:k=xs.length)
  (hA:Del m (OwnSl El T' a cap xs) m') (hl:qD E lo=some U) (Y:qD E hi=some G) (V:U=none∧L=0∨∃ q i,U=some (.int q i)∧0≤i∧i.toNat=L)
  (D:G=none∧H=k∨∃ q i,G=some (.int q i)∧0≤i∧i.toNat=H) (Z:L≤H) (J:H≤xs.length) (hb:Nat.blt d n.sz=true) (hf:fresh E d=true)
  (k':Ops P ops l n ((d,.slice (V5 a cap L s) (H - L) (cap - L)) :: E) (Sym w0 M I0 I m) Q) :
  Ops P ops (⟨some d,.slice T x lo hi none,ty,pos,af,none⟩ :: l) n E (Sym w0 M I0 I m) Q:=by
 subst hk
 refine Ops.val rfl rfl (fun c w W h=>?_) hb hf k'
 obtain ⟨k1,ha,_⟩:=(h.del hA).get
 have hc:xs.length≤cap:=by
  rcases ha with ⟨_,J,O⟩ | ⟨b,_,_,_,O,_⟩
  · rw [J,O]; exact Nat.le_refl _
  · exact O
 have hr:=eR (P:=P) (a:=a) hT hs Z J hc V D w
 simp only [execOp,W.eval hx,NV W hl,NV W Y,Option.map_none,hr,Sem.run_bind,Sem.run_pure,Result.andThen_ok]
 rfl
theorem Ops.sliceTail {lo hi:Option Operand} {L N k s:Nat} {q V:IntKind} {i j:Int} (hT:P.underlying T=some (.slice e)) (hs:∀ w,(sizeOf e).run P w=.ok s w) (hx:ev E x=some (.slice a k cap))
  (hl:qD E lo=some (some (.int q i))) (hh:qD E hi=some (some (.int V j))) (J:0≤i) (O:i.toNat=L) (h:0≤j) (U:j.toNat=N) (h1:L≤N) (h2:N≤cap) (Y:Nat.blt d n.sz=true) (hf:fresh E d=true) {S:World→Prop}
  (k':Ops P ops l n ((d,.slice (V5 a cap L s) (N - L) (cap - L)) :: E) S Q) :
  Ops P ops (⟨some d,.slice T x lo hi none,ty,pos,af,none⟩ :: l) n E S Q:=by
 refine Ops.val rfl rfl (fun c w G W=>?_) Y hf k'
 have D:(Instr.sliceBounds true k cap (some (.int q i)) (some (.int V j)) none).run P w=.ok (L,N,cap) w:=by
  have Z:j≤(cap:Int):=by omega
  have g2:i≤(N:Int):=by omega
  simp [Instr.sliceBounds,Instr.sliceBound,asIntOf,J,h,Z,U,g2,O]
 simp only [execOp,G.eval hx,NV G hl,NV G hh,Option.map_none,Instr.sliceAt,Sem.run_bind,run_underlying hT,Result.andThen_ok,Instr.slice,D,hs,Sem.run_pure]
 rfl
section
variable {enc:α→List Value} {s:Nat} {he:∀ x,(enc x).length=s∧LM (enc x)=true}
theorem Sym.appendDel {ty':TypeId} {r:List HA} {B:Nat} {i:TypeInfo} (h:Sym w0 M I0 I (OwnSl (IF s enc he) e a cap xs :: r) w)
   (hT:P.underlying sT=some (.slice e)) (hi:P.info? e=some i) (hsz:i.size=s) (hB:i.bytes=B) (hz:i.zero=some zc) (hzc:zc.cells.size=s) {L H:Nat} (h1:L≤H) (h2:H≤xs.length) :
   ∃ w',(Builtin.append_ #[sT,sT] ty' #[.slice a L cap,.slice (V5 a cap H s) (xs.length - H) (cap - H)]).run P w=.ok (.slice a (xs.take L++xs.drop H).length cap) w'∧Sym w0 M I0 I (OwnSl (IF s enc he) e a cap (xs.take L++xs.drop H) :: r) w':=by
 obtain ⟨k1,ha,hk1⟩:=h.get
 have hc:xs.length≤cap:=by
   rcases ha with ⟨_,h2,h3⟩ | ⟨b,_,_,_,h3,_⟩
   · rw [h2,h3]; exact Nat.le_refl _
   · exact h3
 have hR:RepSl (IF s enc he) (hp w) a cap xs:=AdH ⟨k1,(OwnSl (IF s enc he) e a cap xs).mono h.imm (IH.le.refl _) ha,hk1⟩
 have hR2:=hR.slice h2 (Nat.le_refl _)
 rw [List.take_length] at hR2
 have hst:Sym w (fun b=>(fun _=>none:IH) b≠none) (hp w) (hp w) [] w:=Fun.start (IH.le.refl _) trivial (fun _ _ x=>nomatch x) (fun _=>.inr rfl)
 obtain ⟨hv,src,V,hs2⟩:=Src.imm (P:=P) (m:=[]) (w0:=w) (M:=fun b=>(fun _=>none:IH) b≠none) (I0:=hp w) (k:=xs.length - H) hR2 (by simp)
 have G:(xs.drop H).length=xs.length - H:=by simp
 have hs1':RepCs (IF s enc he) I src (xs.drop H):=⟨V.1,V.2.1,V.2.2⟩
 have W:(xs.take L).length=L:=by rw [List.length_take]; omega
 have D:(xs.take L).length+(xs.drop H).length≤cap:=by rw [W,G]; omega
 have hsm:Sym w0 M I0 I (OwnSl (IF s enc he) e a cap (xs.take L) :: r) w:=h.weaken fun _ hk=>OwnSl.take hk L
 obtain ⟨kk,ha',_⟩:=hsm.get
 have hrun:=hs2 w hst
 -- in place
 rcases ha with ⟨g1,g2,g3⟩ | ⟨b,c,g1,g2,g3,g4,g5⟩
 · subst g1 g2 g3
   have hL:L=0:=by simp at h2; omega
   have hH:H=0:=by simpa using h2
   subst hL hH
   refine ⟨w,?_,?_⟩
   · have:=LB (P:=P) (w:=w) (w':=w) (ty':=ty') (a:=none) (cap:=0) (k:=0) (kv:=0) (cv:=0) (bv:=none) (src:=#[]) (s:=s) hT hT (fun w=>by simp [sizeOf,typeInfo,hi,hsz]) (by omega) (by simp [Builtin.firstCells]) (fun p hp=>by cases hp) (fun _=>rfl)
     simpa [V5] using this
   · simpa using h
 · subst g1
   have hso:∀ w,(sizeOf e).run P w=.ok s w:=fun w=>by simp [sizeOf,typeInfo,hi,hsz]
   obtain ⟨hb,himm,hn,q,⟨q1,q2,hd',hl1,hl2,hq,hs'⟩,hkk,hdj,hm⟩:=hsm
   rcases hq with ⟨h1',_⟩ | ⟨b',O,h1',h2',h3',h4',h5'⟩
   · cases h1'
   cases h1'
   have hpt:Sym w0 M I0 I (Fw.pto b (.cells O e (0,0)) :: r) w:=⟨hb,himm,hn,q,⟨q1,q2,hd',hl1,hl2,h2',hs'⟩,hkk,hdj,hm⟩
   have hmul:L*s+(xs.drop H).length*s≤cap*s:=by rw [←Nat.add_mul]; exact Nat.mul_le_mul_right _ (by rw [W] at D; exact D)
   have hsl:src.length=(xs.drop H).length*s:=hs1'.1
   have hr:=run_storeCells_at (P:=P) b (L*s) e src 0 O w hpt.pto (by rw [hsl]; show _≤O.size; rw [h4']; exact hmul) (SS V.2.2)
   have e1:(⟨b,0,none⟩:Addr).add (L*s)=⟨b,L*s,none⟩:=by unfold Addr.add; split <;> simp_all
   have U:=hrun w rfl
   rw [G] at U
   refine ⟨w.setRow b (O.toList.take (L*s+0)++src++O.toList.drop (L*s+0+src.length)).toArray,?_,?_⟩
   · have:=LB (P:=P) (w:=w) (ty':=ty') (a:=some ⟨b,0,none⟩) (cap:=cap) (k:=L) (kv:=xs.length - H) (cv:=cap - H) (bv:=V5 (some ⟨b,0,none⟩) cap H s) (src:=src.toArray) (s:=s) hT hT hso (by rw [W,G] at D; exact D) U (fun p hp=>by cases hp; rw [e1]; exact hr) (fun h=>by cases h)
     rw [this]; simp only [List.length_append,W,G]
   · have hup:=hpt.upd (o':=.cells (O.toList.take (L*s+0)++src++O.toList.drop (L*s+0+src.length)).toArray e (0,0)) (w':=w.setRow b _) rfl rfl rfl rfl (by simp [World.setRow]) (fun q hq=>Fw.setRow_other hq) (setRow_heap w b _ _ e _ hpt.pto)
     refine hup.weaken fun q hq=>.inr ⟨b,_,rfl,hq,by rw [List.length_append]; exact D,?_,?_⟩
     · have J:O.size=cap*s:=h4'
       simp only [List.size_toArray,List.length_append,List.length_take,List.length_drop,Array.length_toList,hsl,J]
       show _=cap*s
       rw [G] at hmul
       rw [Nat.min_eq_left (by omega)]
       omega
     · intro Y x2 Z
       simp only [Nat.add_zero,List.getElem?_toArray]
       have J:O.size=cap*s:=h4'
       rcases Nat.lt_or_ge Y L with h6 | h6
       · rw [List.getElem?_append_left (by omega)] at Z
         obtain ⟨cs,g3,g4⟩:=h5' Y x2 Z
         refine ⟨cs,g3,fun j u hj=>?_⟩
         have hjl:j<s:=by
          have h0:cs.length=s:=(IF s enc he).len g3
          have h1:=(List.getElem?_eq_some_iff.1 hj).1
          omega
         have hm2:(Y+1)*s≤L*s:=Nat.mul_le_mul_right _ h6
         rw [Nat.add_mul,Nat.one_mul] at hm2
         have:=g4 j u hj
         rw [←Array.getElem?_toList] at this
         have this':O.toList[Y*s+j]? = some u:=this
         have hle:L*s≤O.toList.length:=by simp [J]; omega
         show (_++_++_)[Y*s+j]? = _
         rw [List.append_assoc,List.getElem?_append_left (by rw [List.length_take]; omega),List.getElem?_take,if_pos (by omega),this']
       · rw [List.getElem?_append_right (by omega)] at Z
         obtain ⟨cs,g3,g4⟩:=V.2.1 _ x2 Z
         refine ⟨cs,g3,fun j u hj=>?_⟩
         have h7:=g4 j u hj
         have h8:=(List.getElem?_eq_some_iff.1 h7).1
         rw [W] at h7 h8
         have e3:Y*s=L*s+(Y - L)*s:=by rw [←Nat.add_mul]; congr 1; omega
         have h7':src[(Y - L)*s+j]? = some u:=h7
         have h8':(Y - L)*s+j<src.length:=h8
         have hle:L*s≤O.toList.length:=by simp [J]; omega
         show (_++_++_)[Y*s+j]? = _
         rw [List.append_assoc,List.getElem?_append_right (by rw [List.length_take]; omega),List.getElem?_append_left (by rw [List.length_take]; omega),←h7']
         rw [List.length_take]
         congr 1; omega
theorem Ops.appendDel {i:TypeInfo} {G:Array TypeId} {L H:Nat} (B:Nat) (hA:At m (OwnSl (IF s enc he) e a cap xs) m' (OwnSl (IF s enc he) e a cap (xs.take L++xs.drop H))) (hT:P.underlying sT=some (.slice e)) (hi:P.info? e=some i)
  (hsz:i.size=s) (hB:i.bytes=B) (hz:i.zero=some zc) (Y:zc.cells.size=s) (h:G = #[sT,sT]) {a1:Option Addr} {U D H2:Nat} (hx:ev E x=some (.slice a1 U D)) (hy:ev E y=some (.slice (V5 a cap H s) (H2 - H) (cap - H)))
  (O:a1=a) (W:U=L) (Z:D=cap) (hH2:H2=xs.length) (h1:L≤H) (h2:H≤xs.length) (hb:Nat.blt d n.sz=true) (hf:fresh E d=true)
  (k':Ops P ops l n ((d,.slice a (xs.take L++xs.drop H).length cap) :: E) (Sym w0 M I0 I m') Q) :
  Ops P ops (⟨some d,.call ⟨.builtin .append,#[x,y],G⟩,ty,pos,af,none⟩ :: l) n E (Sym w0 M I0 I m) Q:=
 Ops.valx (fun v w'=>v=.slice a (xs.take L++xs.drop H).length cap∧Sym w0 M I0 I m' w') rfl rfl
  (fun c w J hs=>by
   subst O W Z hH2
   obtain ⟨r,g2,g3⟩:=hA.del
   obtain ⟨w',hr,V⟩:=Sym.appendDel (P:=P) (ty':=ty) (hs.del g2) hT hi hsz hB hz Y h1 h2
   subst h
   refine ⟨_,w',?_,rfl,V.undel g3⟩
   have e:(#[x,y].map c.eval) = #[.slice a1 U D,.slice (V5 a1 D H s) (xs.length - H) (D - H)]:=by simp [J.eval hx,J.eval hy]
   simp only [execOp,resolve,e,Sem.run_bind,Sem.run_pure,Result.andThen_ok,invoke,builtin,hr]) hb hf
  (fun v c w J ⟨hv,hs⟩=>by subst hv; exact k' c w J hs)
end
theorem Ops.clearTail {i:TypeInfo} {tys:Array TypeId} {L N:Nat} (hA:Del m (OwnSl El e a cap xs) m') (hT:P.underlying sT=some (.slice e)) (hi:P.info? e=some i)
    (hsz:i.size=El.sz) (hz:i.zero=some zc) (hzc:zc.cells.size=El.sz) (hz1:LM zc.cells.toList=true) (htys:tys[0]? = some sT) (hx:ev E x=some (.slice (V5 a cap L El.sz) (N - L) (cap - L)))
    (h1:L=xs.length) (h2:N≤cap) (k':Ops P ops l n E (Sym w0 M I0 I m) Q) :
    Ops P ops (⟨none,.call ⟨.builtin .clear,#[x],tys⟩,ty,pos,af,none⟩ :: l) n E (Sym w0 M I0 I m) Q:=
  Ops.val0 rfl rfl (fun c w ho hs=>by
    have e0:(#[x].map c.eval) = #[.slice (V5 a cap L El.sz) (N - L) (cap - L)]:=by simp [ho.eval hx]
    have hzv:∀ w,(zeroValue e).run P w=.ok zc w:=fun w=>by simp [zeroValue,typeInfo,hi,hz]
    have hst:=hs.del hA
    obtain ⟨hb,himm,hn,q,⟨q1,q2,hd',hl1,hl2,hq,hs'⟩,hkk,hdj,hm⟩:=hst
    rcases hq with ⟨g1,g2,g3⟩ | ⟨b,c',g1,g2,g3,g4,g5⟩
    · subst g1 g2 g3
      refine ⟨.tuple #[],w,?_,hs⟩
      have hN:N - L=0:=by omega
      have hv:V5 none 0 L El.sz=none:=by unfold V5; split <;> rfl
      simp [execOp,resolve,e0,invoke,builtin,Builtin.clear_,htys,run_underlying hT,hv]
    · subst g1
      by_cases hN:N - L=0
      · refine ⟨.tuple #[],w,?_,hs⟩
        rw [hN] at e0
        have hv:∃ ad,V5 (some ⟨b,0,none⟩) cap L El.sz=some ad:=by unfold V5; split <;> exact ⟨_,rfl⟩
        obtain ⟨ad,hv⟩:=hv
        rw [hv] at e0
        simp [execOp,resolve,e0,invoke,builtin,Builtin.clear_,htys,run_underlying hT]
      · have hv:V5 (some ⟨b,0,none⟩) cap L El.sz=some ⟨b,L*El.sz,none⟩:=by
          unfold V5
          rw [if_neg (by omega)]
          simp only [Option.map_some,Addr.add]; split <;> simp_all
        rw [hv] at e0
        have hpt:Sym w0 M I0 I (Fw.pto b (.cells c' e (0,0)) :: m') w:=⟨hb,himm,hn,q,⟨q1,q2,hd',hl1,hl2,g2,hs'⟩,hkk,hdj,hm⟩
        have hmul:L*El.sz+(N - L)*El.sz≤cap*El.sz:=by rw [←Nat.add_mul]; exact Nat.mul_le_mul_right _ (by omega)
        have hzl:(Builtin.zeroCells zc.cells (N - L)).toList.length=(N - L)*El.sz:=by simp [kM _ hzc]
        have h1z:∀ v∈(Builtin.zeroCells zc.cells (N - L)).toList,one v=true:=by
          intro v hv
          simp only [Builtin.zeroCells,Array.toList_map,List.mem_map,Array.toList_range,List.mem_range] at hv
          obtain ⟨i',hi',rfl⟩:=hv
          have hpos : 0 < zc.cells.size := by rcases Nat.eq_zero_or_pos zc.cells.size with h | h; · simp [h] at hi'
                                              · exact h
          have hlt:i' % zc.cells.size<zc.cells.size:=Nat.mod_lt _ hpos
          rw [getElem!_pos zc.cells _ hlt]
          exact SS hz1 _ (by simp)
        have hr:=run_storeCells_at (P:=P) b (L*El.sz) e (Builtin.zeroCells zc.cells (N - L)).toList 0 c' w hpt.pto (by rw [hzl,g4]; omega) h1z
        refine ⟨.tuple #[],w.setRow b (c'.toList.take (L*El.sz+0)++(Builtin.zeroCells zc.cells (N - L)).toList++c'.toList.drop (L*El.sz+0+(Builtin.zeroCells zc.cells (N - L)).toList.length)).toArray,?_,?_⟩
        · have hr':(storeCells ⟨b,L*El.sz,none⟩ (Builtin.zeroCells zc.cells (N - L)).toList).run P w=.ok () (w.setRow b (c'.toList.take (L*El.sz+0)++(Builtin.zeroCells zc.cells (N - L)).toList++c'.toList.drop (L*El.sz+0+(Builtin.zeroCells zc.cells (N - L)).toList.length)).toArray):=hr
          cases hk:N - L with
          | zero=>exact absurd hk hN
          | succ k=>
            rw [hk] at hr' e0
            simp only [execOp,resolve,e0,invoke,builtin,Builtin.clear_,Sem.run_bind,Sem.run_pure,Result.andThen_ok,htys,List.getElem?_toArray,List.getElem?_cons_zero,run_underlying hT,hzv,hr']
        · have hup:=hpt.upd (o':=.cells (c'.toList.take (L*El.sz+0)++(Builtin.zeroCells zc.cells (N - L)).toList++c'.toList.drop (L*El.sz+0+(Builtin.zeroCells zc.cells (N - L)).toList.length)).toArray e (0,0)) (w':=w.setRow b _) rfl rfl rfl rfl (by simp [World.setRow]) (fun q hq=>Fw.setRow_other hq) (setRow_heap w b _ _ e _ hpt.pto)
          refine (Sym.weaken hup (B:=OwnSl El e (some ⟨b,0,none⟩) cap xs) fun q hq=>.inr ⟨b,_,rfl,hq,g3,?_,?_⟩).undel hA
          · simp only [List.size_toArray,List.length_append,List.length_take,List.length_drop,Array.length_toList,hzl,g4]; omega
          · intro i2 x2 hx2
            obtain ⟨cs,u1,u2⟩:=g5 i2 x2 hx2
            refine ⟨cs,u1,fun j u hj=>?_⟩
            have hil:=(List.getElem?_eq_some_iff.1 hx2).1
            have hjl:j<El.sz:=by rw [←El.len u1]; exact (List.getElem?_eq_some_iff.1 hj).1
            have hm2:(i2+1)*El.sz≤L*El.sz:=Nat.mul_le_mul_right _ (by omega)
            rw [Nat.add_mul,Nat.one_mul] at hm2
            have:=u2 j u hj
            rw [←Array.getElem?_toList] at this
            simp only [Nat.add_zero,List.getElem?_toArray]
            rw [List.append_assoc,List.getElem?_append_left (by rw [List.length_take]; simp only [Array.length_toList,g4]; omega),List.getElem?_take,if_pos (by omega),this]) k'
@[reducible] def ZC (sz:Nat):Type:={cs:List Value // cs.length=sz∧LM cs=true}
@[reducible] def nP (sz:Nat):ET (ZC sz):=IF sz Subtype.val fun x=>x.2
structure RepR (El:ET α) (I:IH) (css:List (ZC El.sz)) (xs:List α):Prop where
 len:css.length=xs.length
 all:∀ (i:Nat) (x:α),xs[i]? = some x→∃ c:ZC El.sz,css[i]? = some c∧El.rep I c.1 x
theorem RepR.mono {J:IH} {D:List (ZC El.sz)} (h:RepR El I D xs) (G:I.le J):RepR El J D xs:=⟨h.len,fun i x O=>let ⟨c,V,U⟩:=h.all i x O; ⟨c,V,El.mono G U⟩⟩
theorem RepR.get {D:List (ZC El.sz)} (h:RepR El I D xs) {i:Nat} {x:α} (J:xs[i]? = some x):∃ c G,D[i]? = some ⟨c,G⟩∧El.rep I c x:=
 let ⟨c,U,O⟩:=h.all i x J; ⟨c.1,c.2,U,O⟩
theorem RepR.set {G:List (ZC El.sz)} (h:RepR El I G xs) (i:Nat) {x:α} {cs:List Value} (O:El.rep I cs x) (hp:cs.length=El.sz∧LM cs=true):RepR El I (G.set i ⟨cs,hp⟩) (xs.set i x):=by
 refine ⟨by simp only [List.length_set]; exact h.len,fun j y D=>?_⟩
 by_cases e:i=j
 · subst e
   have J:i<xs.length:=by have:=(List.getElem?_eq_some_iff.1 D).1; simpa only [List.length_set] using this
   rw [List.getElem?_set_self J] at D; cases D
   exact ⟨⟨cs,hp⟩,List.getElem?_set_self (by have:=h.len; omega),O⟩
 · rw [List.getElem?_set_ne e] at D
   rw [List.getElem?_set_ne e]
   exact h.all j y D
theorem AdI {sz:Nat} {R:Nat→α→ZC sz→Prop}:∀ {xs:List α},(∀ (i:Nat) (x:α),xs[i]? = some x→∃ c,R i x c)→∃ D:List (ZC sz),D.length=xs.length∧∀ (i:Nat) (x:α),xs[i]? = some x→∃ c,D[i]? = some c∧R i x c:=by
 intro xs
 induction xs generalizing R with
 | nil=>exact fun _=>⟨[],rfl,fun i x h=>by simp at h⟩
 | cons Y xs W=>
  intro h
  obtain ⟨J,V⟩:=h 0 Y rfl
  obtain ⟨D,U,Z⟩:=W (R:=fun i=>R (i+1)) fun i x G=>h (i+1) x (by simpa using G)
  refine ⟨J :: D,by simp [U],fun i x G=>?_⟩
  cases i with
  | zero=>simp only [List.getElem?_cons_zero,Option.some.injEq] at G; subst G; exact ⟨J,rfl,V⟩
  | succ i=>obtain ⟨c,h3,O⟩:=Z i x (by simpa using G); exact ⟨c,by simpa using h3,O⟩
theorem Sym.openS (h:Sym w0 M I0 I (OwnSl El T a cap xs :: m) w):∃ D:List (ZC El.sz),RepR El I D xs∧Sym w0 M I0 I (OwnSl (nP El.sz) T a cap D :: m) w:=by
 obtain ⟨hb,hi,hn,k,⟨h1,h2,hd',hl1,hl2,ha,hs'⟩,hk,hdj,hm⟩:=h
 rcases ha with ⟨Y,U,Z⟩ | ⟨b,G,Y,U,Z,g4,g5⟩
 · subst U
   exact ⟨[],⟨rfl,fun i x J=>by simp at J⟩,hb,hi,hn,k,⟨h1,h2,hd',hl1,hl2,.inl ⟨Y,rfl,Z⟩,hs'⟩,hk,hdj,hm⟩
 · obtain ⟨D,e1,e2⟩:=AdI (sz:=El.sz) (R:=fun i x c=>El.rep I c.1 x∧∀ (j:Nat) (v:Value),c.1[j]? = some v→G[i*El.sz+j]? = some v) fun i x J=>by
    obtain ⟨cs,W,f2⟩:=g5 i x J
    exact ⟨⟨cs,El.len W,El.one W⟩,W,f2⟩
   refine ⟨D,⟨e1,fun i x J=>let ⟨c,O,V⟩:=e2 i x J; ⟨c,O,V.1⟩⟩,hb,hi,hn,k,⟨h1,h2,hd',hl1,hl2,.inr ⟨b,G,Y,U,by omega,g4,fun i c hc=>?_⟩,hs'⟩,hk,hdj,hm⟩
   have hlt:=(List.getElem?_eq_some_iff.1 hc).1
   obtain ⟨c',O,V⟩:=e2 i (xs[i]'(by omega)) (List.getElem?_eq_getElem _)
   rw [hc] at O; cases O
   exact ⟨c.1,rfl,V.2⟩
theorem Sym.closeS {D:List (ZC El.sz)} (U:RepR El I D xs) (h:Sym w0 M I0 I (OwnSl (nP El.sz) T a cap D :: m) w):Sym w0 M I0 I (OwnSl El T a cap xs :: m) w:=by
 obtain ⟨hb,hi,hn,k,⟨h1,h2,hd',hl1,hl2,ha,hs'⟩,hk,hdj,hm⟩:=h
 refine ⟨hb,hi,hn,k,⟨h1,h2,hd',hl1,hl2,?_,hs'⟩,hk,hdj,hm⟩
 rcases ha with ⟨G,J,V⟩ | ⟨b,O,G,J,V,W,Y⟩
 · have:=U.len; rw [J] at this
   exact .inl ⟨G,List.eq_nil_of_length_eq_zero this.symm,V⟩
 · refine .inr ⟨b,O,G,J,by have:=U.len; omega,W,fun i x hx=>?_⟩
   obtain ⟨c,Z,q2⟩:=U.all i x hx
   obtain ⟨cs,q3,q4⟩:=Y i c Z
   cases q3
   exact ⟨c.1,q2,q4⟩
theorem Ops.openS (G:Del m (OwnSl El T a cap xs) m2) (k:∀ h:List (ZC El.sz),RepR El I h xs→Ops P ops l n E (Sym w0 M I0 I (OwnSl (nP El.sz) T a cap h :: m2)) Q):Ops P ops l n E (Sym w0 M I0 I m) Q:=by
 intro c w D U
 obtain ⟨h,O,J⟩:=(U.del G).openS
 exact k h O c w D J
theorem Cod.openS {c:Code} (G:Del m (OwnSl El T a cap xs) m2) (k:∀ h:List (ZC El.sz),RepR El I h xs→Cod P c n E (Sym w0 M I0 I (OwnSl (nP El.sz) T a cap h :: m2)) Q):Cod P c n E (Sym w0 M I0 I m) Q:=by
 intro c w D U
 obtain ⟨h,O,J⟩:=(U.del G).openS
 exact k h O c w D J
theorem Ops.closeS {h:List (ZC El.sz)} (D:Del m (OwnSl (nP El.sz) T a cap h) m2) (G:RepR El I h xs) (k:Ops P ops l n E (Sym w0 M I0 I (OwnSl El T a cap xs :: m2)) Q):Ops P ops l n E (Sym w0 M I0 I m) Q:=
 Ops.pre (fun _ J=>(J.del D).closeS G) k
end Go.Fw
