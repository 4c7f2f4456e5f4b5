/- The engine. -/
import Derived.Test.YtbohadngdkjljaaGreatFwC
namespace Go.Fw
open Go Go.RowKit
variable {w0 w:World} {M:Nat→Prop} {I0 I:IH} {m m':List HA}
variable {P:Program} {n:FrK} {E:D7} {Q:Exit→Act→World→Prop} {ops:Array Oper} {l:List Oper}
variable {d ty:Nat} {pos:String} {af:Array Edge} {T e:TypeId} {x y:Operand}
variable {T':TypeId}
structure ET (α:Type) where
 sz:Nat
 rep:IH→List Value→α→Prop
 mono:∀ {I J:IH} {cs:List Value} {x:α},I.le J→rep I cs x→rep J cs x
 len:∀ {I:IH} {cs:List Value} {x:α},rep I cs x→cs.length=sz
 one:∀ {I:IH} {cs:List Value} {x:α},rep I cs x→LM cs=true
def IF {α:Type} (sz:Nat) (enc:α→List Value) (h:∀ x,(enc x).length=sz∧LM (enc x)=true):ET α where
 sz:=sz
 rep _ cs x:=cs=enc x
 mono _ h:=h
 len h':=by rw [h']; exact (h _).1
 one h':=by rw [h']; exact (h _).2
variable {α:Type} {El:ET α} {xs ys:List α} {a:Option Addr} {cap:Nat}
def RepSl (El:ET α) (I:IH) (a:Option Addr) (cap:Nat) (xs:List α):Prop:=
 xs.length≤cap∧∀ i x,xs[i]? = some x→∃ b off cs,a=some ⟨b,off,none⟩∧ImC I b (off+i*El.sz) cs∧El.rep I cs x
theorem RepSl.mono {J:IH} (h:RepSl El I a cap xs) (D:I.le J):RepSl El J a cap xs:=
 ⟨h.1,fun i x G=>let ⟨b,off,cs,U,O,V⟩:=h.2 i x G; ⟨b,off,cs,U,O.mono D,El.mono D V⟩⟩
theorem RepSl.nil (I:IH) (a:Option Addr) (cap:Nat):RepSl El I a cap []:=⟨Nat.zero_le _,fun i x h=>by simp at h⟩
def JI (El:ET α):ET (List α) where
 sz:=1
 rep I cs xs:=∃ a cap,cs=[.slice a xs.length cap]∧RepSl El I a cap xs
 mono hle:=fun ⟨a,cap,h1,h2⟩=>⟨a,cap,h1,h2.mono hle⟩
 len:=fun ⟨a,cap,h1,_⟩=>by rw [h1]; rfl
 one:=fun ⟨a,cap,h1,_⟩=>by rw [h1]; rfl
def OwnSl (El:ET α) (T:TypeId) (a:Option Addr) (cap:Nat) (xs:List α):HA where
 holds I h:=(a=none∧xs=[]∧cap=0)∨∃ b c,a=some ⟨b,0,none⟩∧h b=some (.cells c T (0,0))∧xs.length≤cap∧c.size=cap*El.sz ∧
  ∀ i x,xs[i]? = some x→∃ cs,El.rep I cs x∧∀ j v,cs[j]? = some v→c[i*El.sz+j]? = some v
 mono:=fun hI hh=>fun
  | .inl h=>.inl h
  | .inr ⟨b,c,h1,h2,h3,h4,h5⟩=>.inr ⟨b,c,h1,hh _ _ h2,h3,h4,fun i x hx=>let ⟨cs,g1,g2⟩:=h5 i x hx; ⟨cs,El.mono hI g1,g2⟩⟩
theorem Sym.own0 (h:Sym w0 M I0 I m w) (El:ET α) (T:TypeId):Sym w0 M I0 I (OwnSl El T none 0 [] :: m) w:=by
 obtain ⟨D,hi,G,k,J,hk,U,O⟩:=h
 exact ⟨D,hi,G,k,⟨fun _=>none,k,fun _=>.inl rfl,(fun _ _ x=>nomatch x),IH.le.refl _,.inl ⟨rfl,rfl,rfl⟩,J⟩,hk,U,O⟩
theorem Sym.pubSl (h:Sym w0 M I0 I m w) (hA:Del m (OwnSl El T a cap xs) m'):∃ D,I.le D∧RepSl El D a cap xs∧Sym w0 M I0 D m' w:=by
 obtain ⟨D,k,G,ha,hk,hs⟩:=(h.del hA).publish
 refine ⟨D,G,?_,hs⟩
 rcases ha with ⟨O,J,U⟩ | ⟨b,c,O,J,U,h4,V⟩
 · subst J; exact .nil _ _ _
 · refine ⟨U,fun i x hx=>?_⟩
   obtain ⟨cs,Y,Z⟩:=V i x hx
   exact ⟨b,0,cs,O,⟨c,T,(0,0),hk _ _ J,fun j v W=>by rw [Nat.zero_add]; exact Z j v W⟩,El.mono G Y⟩
theorem Ops.len {S:World→Prop} {k:Nat} {h:Array TypeId} (W:P.underlying T=some (.slice e)) (D:h[0]? = some T) (V:ev E x=some (.slice a k cap)) (O:Nat.blt d n.sz=true) (U:fresh E d=true)
  (G:Ops P ops l n ((d,.int .i64 (k:Int)) :: E) S Q):Ops P ops (⟨some d,.call ⟨.builtin .len,#[x],h⟩,ty,pos,af,none⟩ :: l) n E S Q:=
 Ops.val rfl rfl (fun c w J _=>by
  simp [execOp,resolve,invoke,builtin,Builtin.len_,J.eval V,D,run_underlying W,goInt]) O U G
theorem Ops.capOf {S:World→Prop} {k:Nat} {h:Array TypeId} (W:P.underlying T=some (.slice e)) (D:h[0]? = some T) (V:ev E x=some (.slice a k cap)) (O:Nat.blt d n.sz=true) (U:fresh E d=true)
  (G:Ops P ops l n ((d,.int .i64 (cap:Int)) :: E) S Q):Ops P ops (⟨some d,.call ⟨.builtin .cap,#[x],h⟩,ty,pos,af,none⟩ :: l) n E S Q:=
 Ops.val rfl rfl (fun c w J _=>by
  simp [execOp,resolve,invoke,builtin,Builtin.cap_,J.eval V,D,run_underlying W,goInt]) O U G
theorem Ops.ixa {S:World→Prop} {k s off b:Nat} {q:IntKind} {i:Int} (O:P.underlying T=some (.slice e)) (U:∀ w,(sizeOf e).run P w=.ok s w) (hx:ev E x=some (.slice a k cap)) (W:a=some ⟨b,off,none⟩)
  (D:ev E y=some (.int q i)) (Y:0≤i) (hk:i<k) (G:Nat.blt d n.sz=true) (Z:fresh E d=true) (V:Ops P ops l n ((d,.pointer (some ⟨b,off+i.toNat*s,none⟩)) :: E) S Q) :
  Ops P ops (⟨some d,.indexAddr T x y,ty,pos,af,none⟩ :: l) n E S Q:=
 Ops.val rfl rfl (fun c w h _=>by
  subst W
  have J:(⟨b,off,none⟩:Addr).add (i.toNat*s)=⟨b,off+i.toNat*s,none⟩:=by unfold Addr.add; split <;> simp_all
  simp only [execOp,Instr.indexAt,h.eval hx,h.eval D,asIntOf,Sem.run_bind,Sem.run_pure,Result.andThen_ok,run_underlying O,Y,hk,and_self,if_true,U,J]) G Z V
theorem OwnSl.cell {enc:α→List Value} {s:Nat} {he:∀ x,(enc x).length=s∧LM (enc x)=true} {b:Nat} (h:Sym w0 M I0 I m w) (W:Del m (OwnSl (IF s enc he) T' (some ⟨b,0,none⟩) cap xs) m') {i j:Nat} {v:α} {u:Value}
   (hi:xs[i]? = some v) (J:(enc v)[j]? = some u):w.cell? ⟨b,i*s+j,none⟩=some u:=by
 obtain ⟨k1,V,hk⟩:=(h.del W).get
 rcases V with ⟨D,_⟩ | ⟨b',c,D,Y,h3,h4,G⟩
 · cases D
 · cases D
   obtain ⟨cs,O,U⟩:=G i v hi
   cases O
   rw [L9 (hk _ _ Y)]
   exact U j u J
theorem Ops.lo1 {enc:α→List Value} {s:Nat} {he:∀ x,(enc x).length=s∧LM (enc x)=true} {b o i j:Nat} {v:α} {u:Value} (G:∀ w,(isAgg T).run P w=.ok false w)
  (W:Del m (OwnSl (IF s enc he) T' (some ⟨b,0,none⟩) cap xs) m') (hi:xs[i]? = some v) (Y:ev E x=some (.pointer (some ⟨b,o,none⟩))) (O:o=i*s+j) (D:(enc v)[j]? = some u)
  (h:Nat.blt d n.sz=true) (U:fresh E d=true) (k:Ops P ops l n ((d,u) :: E) (Sym w0 M I0 I m) Q):Ops P ops (⟨some d,.load T x,ty,pos,af,none⟩ :: l) n E (Sym w0 M I0 I m) Q:=
 Ops.val rfl rfl (fun c w V J=>by subst O; simp [execOp,V.eval Y,O7 (P:=P) G (OwnSl.cell J W hi D)]) h U k
theorem Ops.loA {enc:α→List Value} {s D:Nat} {he:∀ x,(enc x).length=s∧LM (enc x)=true} {b o i j:Nat} {v:α} {vs:List Value} (V:∀ w,(isAgg T).run P w=.ok true w)
  (J:∀ w,(sizeOf T).run P w=.ok D w) (hA:Del m (OwnSl (IF s enc he) T' (some ⟨b,0,none⟩) cap xs) m') (hi:xs[i]? = some v) (hx:ev E x=some (.pointer (some ⟨b,o,none⟩))) (Y:o=i*s+j)
  (O:Cut (enc v) j vs) (U:vs.length=D) (G:Nat.blt d n.sz=true) (hf:fresh E d=true) (k:Ops P ops l n ((d,.agg vs.toArray) :: E) (Sym w0 M I0 I m) Q) :
  Ops P ops (⟨some d,.load T x,ty,pos,af,none⟩ :: l) n E (Sym w0 M I0 I m) Q:=
 Ops.val rfl rfl (fun c w hc W=>by
  subst Y
  simp [execOp,hc.eval hx,JH (P:=P) V J U (fun Z v' h=>by rw [Nat.add_assoc]; exact OwnSl.cell W hA hi (O.get Z v' h))]) G hf k
theorem OwnSl.put {El:ET α} {b:Nat} {i j:Nat} {v v':α} {vs:List Value} {r:List HA} (h:Sym w0 M I0 I (OwnSl El T' (some ⟨b,0,none⟩) cap xs :: r) w)
   (hi:xs[i]? = some v) (hp:∀ cs,El.rep I cs v→∃ J,PutC cs j vs J∧El.rep I J v') (h1:LM vs=true) :
   ∃ w',(storeCells ⟨b,i*El.sz+j,none⟩ vs).run P w=.ok () w'∧Sym w0 M I0 I (OwnSl El T' (some ⟨b,0,none⟩) cap (xs.set i v') :: r) w':=by
 obtain ⟨hb,Z,hn,k,⟨k1,k2,hd',hl1,hl2,ha,hs'⟩,hk,hdj,hm⟩:=h
 rcases ha with ⟨U,_⟩ | ⟨b',c,U,h2,h3,h4,h5⟩
 · cases U
 · cases U
   have Y:Sym w0 M I0 I (Fw.pto b (.cells c T' (0,0)) :: r) w:=⟨hb,Z,hn,k,⟨k1,k2,hd',hl1,hl2,h2,hs'⟩,hk,hdj,hm⟩
   obtain ⟨cs,g1,g2⟩:=h5 i v hi
   obtain ⟨J,hput,V⟩:=hp cs g1
   obtain ⟨he,hle⟩:=hput.eq
   have hcl:=El.len g1
   have hlt:i<xs.length:=(List.getElem?_eq_some_iff.1 hi).1
   have hmul:i*El.sz+El.sz≤cap*El.sz:=by
     have:(i+1)*El.sz≤cap*El.sz:=Nat.mul_le_mul_right _ (by omega)
     rwa [Nat.add_mul,Nat.one_mul] at this
   have hr:=run_storeCells_at (P:=P) b (i*El.sz+j) T' vs 0 c w Y.pto (by omega) (SS h1)
   refine ⟨_,hr,?_⟩
   have hup:=Y.upd (o':=.cells (c.toList.take (i*El.sz+j+0)++vs++c.toList.drop (i*El.sz+j+0+vs.length)).toArray T' (0,0)) (w':=w.setRow b _) rfl rfl rfl rfl (by simp [World.setRow]) (fun q hq=>Fw.setRow_other hq) (setRow_heap w b _ _ T' _ Y.pto)
   refine hup.weaken fun q hq=>.inr ⟨b,_,rfl,hq,by simpa using h3,?_,?_⟩
   · simp; omega
   · intro i2 x2 G
     by_cases e2:i=i2
     · subst e2
       rw [List.getElem?_set_self hlt] at G
       cases G
       refine ⟨J,V,fun W u D=>?_⟩
       rw [he] at D
       simp only [Nat.add_zero,List.getElem?_toArray]
       rcases Nat.lt_or_ge W j with h6 | h6
       · rw [List.append_assoc,List.getElem?_append_left (by simp; omega)] at D
         rw [List.append_assoc,List.getElem?_append_left (by simp; omega),List.getElem?_take,if_pos (by omega)]
         rw [List.getElem?_take,if_pos h6] at D
         simpa using g2 W u D
       · rcases Nat.lt_or_ge W (j+vs.length) with h7 | h7
         · rw [List.getElem?_append_left (by simp; omega),List.getElem?_append_right (by simp; omega)] at D ⊢
           simp only [List.length_take,Array.length_toList] at D ⊢
           rw [←D]; congr 1; omega
         · rw [List.getElem?_append_right (by simp; omega),List.getElem?_drop] at D ⊢
           simp only [List.length_append,List.length_take,Array.length_toList] at D ⊢
           have:=g2 W u (by rw [←D]; congr 1; omega)
           rw [←Array.getElem?_toList] at this
           rw [←this]; congr 1; omega
     · rw [List.getElem?_set_ne e2] at G
       obtain ⟨cs2,g3,g4⟩:=h5 i2 x2 G
       refine ⟨cs2,g3,fun W u D=>?_⟩
       have hj2l:W<El.sz:=by rw [←El.len g3]; exact (List.getElem?_eq_some_iff.1 D).1
       have h8:=g4 W u D
       rw [←Array.getElem?_toList] at h8
       simp only [Nat.add_zero,List.getElem?_toArray]
       rcases Nat.lt_or_gt_of_ne e2 with h9 | h9
       · have O:(i+1)*El.sz≤i2*El.sz:=Nat.mul_le_mul_right _ h9
         rw [Nat.add_mul,Nat.one_mul] at O
         rw [List.getElem?_append_right (by simp; omega),List.getElem?_drop,←h8]
         simp only [List.length_append,List.length_take,Array.length_toList]
         congr 1; omega
       · have O:(i2+1)*El.sz≤i*El.sz:=Nat.mul_le_mul_right _ h9
         rw [Nat.add_mul,Nat.one_mul] at O
         rw [List.append_assoc,List.getElem?_append_left (by simp; omega),List.getElem?_take,if_pos (by omega),h8]
theorem Ops.stO1 {enc:α→List Value} {s:Nat} {he:∀ x,(enc x).length=s∧LM (enc x)=true} {b o i j:Nat} {v v':α} {u:Value} (W:∀ w,(sizeOf T).run P w=.ok 1 w)
  (Y:At m (OwnSl (IF s enc he) T' (some ⟨b,0,none⟩) cap xs) m' (OwnSl (IF s enc he) T' (some ⟨b,0,none⟩) cap (xs.set i v'))) (hi:xs[i]? = some v) (hx:ev E x=some (.pointer (some ⟨b,o,none⟩))) (ho:o=i*s+j)
  (V:ev E y=some u) (hp:PutC (enc v) j [u] (enc v')) (O:Fw.one u=true) (k:Ops P ops l n E (Sym w0 M I0 I m') Q):Ops P ops (⟨none,.store T x y,ty,pos,af,none⟩ :: l) n E (Sym w0 M I0 I m) Q:=
 Ops.act rfl rfl (fun c w U hs=>by
  subst ho
  obtain ⟨r,Z,h3⟩:=Y.del
  obtain ⟨w',hr,G⟩:=OwnSl.put (P:=P) (hs.del Z) hi (fun cs J=>by cases J; exact ⟨_,hp,rfl⟩) (by simp [LM,O])
  refine ⟨w',?_,G.undel h3⟩
  have D:u.cells = #[u]:=by cases u <;> first | rfl | cases O
  have h:(storeCells ⟨b,i*s+j,none⟩ [u]).run P w=.ok () w':=hr
  simp [execOp,U.eval hx,U.eval V,Instr.storeAt,Instr.sureAddr,storeVar,W,D,h]) k
theorem Ops.stOA {enc:α→List Value} {s U:Nat} {he:∀ x,(enc x).length=s∧LM (enc x)=true} {b o i j:Nat} {v v':α} {h:List Value} (W:∀ w,(sizeOf T).run P w=.ok U w)
  (Z:At m (OwnSl (IF s enc he) T' (some ⟨b,0,none⟩) cap xs) m' (OwnSl (IF s enc he) T' (some ⟨b,0,none⟩) cap (xs.set i v'))) (hi:xs[i]? = some v) (hx:ev E x=some (.pointer (some ⟨b,o,none⟩))) (ho:o=i*s+j)
  (V:ev E y=some (.agg h.toArray)) (hp:PutC (enc v) j h (enc v')) (hl:h.length=U) (Y:LM h=true) (k:Ops P ops l n E (Sym w0 M I0 I m') Q):Ops P ops (⟨none,.store T x y,ty,pos,af,none⟩ :: l) n E (Sym w0 M I0 I m) Q:=
 Ops.act rfl rfl (fun c w O hs=>by
  subst ho
  obtain ⟨r,h2,h3⟩:=Z.del
  obtain ⟨w',hr,G⟩:=OwnSl.put (P:=P) (hs.del h2) hi (fun cs J=>by cases J; exact ⟨_,hp,rfl⟩) Y
  refine ⟨w',?_,G.undel h3⟩
  have D:(storeCells ⟨b,i*s+j,none⟩ h).run P w=.ok () w':=hr
  simp [execOp,O.eval hx,O.eval V,Instr.storeAt,Instr.sureAddr,storeVar,W,Value.cells,hl,D]) k
end Go.Fw
