/- The engine, part D: slices, immutable and of the call's own. -/
import Derived.Test.YtbohadngdkjljaaGreatFwC
namespace Go.Fw
open Go Go.RowKit
variable {w0 w:World} {M:Nat→Prop} {I0 I:IH} {m m':List HA}
variable {P:Program} {n:FrK} {E:DH} {Q:Exit→Act→World→Prop} {ops:Array Oper} {l:List Oper}
variable {d ty:Nat} {pos:String} {af:Array Edge} {T e:TypeId} {x y:Operand}
structure EL (α:Type) where
  sz:Nat
  rep:IH→List Value→α→Prop
  mono:∀ {I J:IH} {cs:List Value} {x:α},I.le J→rep I cs x→rep J cs x
  len:∀ {I:IH} {cs:List Value} {x:α},rep I cs x→cs.length=sz
  one:∀ {I:IH} {cs:List Value} {x:α},rep I cs x→LU cs=true
def JI {α:Type} (sz:Nat) (enc:α→List Value) (h:∀ x,(enc x).length=sz∧LU (enc x)=true):EL α where
  sz:=sz
  rep _ cs x:=cs=enc x
  mono _ h:=h
  len h':=by rw [h']; exact (h _).1
  one h':=by rw [h']; exact (h _).2
variable {α:Type} {El:EL α} {xs ys:List α} {a:Option Addr} {cap:Nat}
def RepSl (El:EL α) (I:IH) (a:Option Addr) (cap:Nat) (xs:List α):Prop:=
  xs.length≤cap∧∀ i x,xs[i]? = some x→∃ b off cs,a=some ⟨b,off,none⟩∧ImC I b (off+i*El.sz) cs∧El.rep I cs x
theorem RepSl.mono {J:IH} (h:RepSl El I a cap xs) (hle:I.le J):RepSl El J a cap xs:=
  ⟨h.1,fun i x hx=>let ⟨b,off,cs,h1,h2,h3⟩:=h.2 i x hx; ⟨b,off,cs,h1,h2.mono hle,El.mono hle h3⟩⟩
theorem RepSl.nil (I:IH) (a:Option Addr) (cap:Nat):RepSl El I a cap []:=⟨Nat.zero_le _,fun i x h=>by simp at h⟩
def MR (El:EL α):EL (List α) where
  sz:=1
  rep I cs xs:=∃ a cap,cs=[.slice a xs.length cap]∧RepSl El I a cap xs
  mono hle:=fun ⟨a,cap,h1,h2⟩=>⟨a,cap,h1,h2.mono hle⟩
  len:=fun ⟨a,cap,h1,_⟩=>by rw [h1]; rfl
  one:=fun ⟨a,cap,h1,_⟩=>by rw [h1]; rfl
def OwnSl (El:EL α) (T:TypeId) (a:Option Addr) (cap:Nat) (xs:List α):HA where
  holds I h:=(a=none∧xs=[]∧cap=0)∨∃ b c,a=some ⟨b,0,none⟩∧h b=some (.cells c T (0,0))∧xs.length≤cap∧c.size=cap*El.sz ∧
    ∀ i x,xs[i]? = some x→∃ cs,El.rep I cs x∧∀ j v,cs[j]? = some v→c[i*El.sz+j]? = some v
  mono:=fun hI hh=>fun
    | .inl h=>.inl h
    | .inr ⟨b,c,h1,h2,h3,h4,h5⟩=>.inr ⟨b,c,h1,hh _ _ h2,h3,h4,fun i x hx=>let ⟨cs,g1,g2⟩:=h5 i x hx; ⟨cs,El.mono hI g1,g2⟩⟩
theorem Sym.own0 (h:Sym w0 M I0 I m w) (El:EL α) (T:TypeId):Sym w0 M I0 I (OwnSl El T none 0 [] :: m) w:=by
  obtain ⟨hb,hi,hn,k,hs,hk,hd,hm⟩:=h
  exact ⟨hb,hi,hn,k,⟨fun _=>none,k,fun _=>.inl rfl,(fun _ _ x=>nomatch x),IH.le.refl _,.inl ⟨rfl,rfl,rfl⟩,hs⟩,hk,hd,hm⟩
theorem Sym.pubSl (h:Sym w0 M I0 I m w) (hA:Del m (OwnSl El T a cap xs) m'):∃ I',I.le I'∧RepSl El I' a cap xs∧Sym w0 M I0 I' m' w:=by
  obtain ⟨I',k,hle,ha,hk,hs⟩:=(h.del hA).publish
  refine ⟨I',hle,?_,hs⟩
  rcases ha with ⟨h1,h2,h3⟩ | ⟨b,c,h1,h2,h3,h4,h5⟩
  · subst h2; exact .nil _ _ _
  · refine ⟨h3,fun i x hx=>?_⟩
    obtain ⟨cs,g1,g2⟩:=h5 i x hx
    exact ⟨b,0,cs,h1,⟨c,T,(0,0),hk _ _ h2,fun j v hj=>by rw [Nat.zero_add]; exact g2 j v hj⟩,El.mono hle g1⟩
theorem Ops.len {S:World→Prop} {k:Nat} {tys:Array TypeId} (hT:P.underlying T=some (.slice e)) (hty:tys[0]? = some T) (hx:ev E x=some (.slice a k cap)) (hb:Nat.blt d n.sz=true) (hf:fresh E d=true)
    (k':Ops P ops l n ((d,.int .i64 (k:Int)) :: E) S Q):Ops P ops (⟨some d,.call ⟨.builtin .len,#[x],tys⟩,ty,pos,af,none⟩ :: l) n E S Q:=
  Ops.val rfl rfl (fun c w ho _=>by
    simp [execOp,resolve,invoke,builtin,Builtin.len_,ho.eval hx,hty,run_underlying hT,goInt]) hb hf k'
theorem Ops.capOf {S:World→Prop} {k:Nat} {tys:Array TypeId} (hT:P.underlying T=some (.slice e)) (hty:tys[0]? = some T) (hx:ev E x=some (.slice a k cap)) (hb:Nat.blt d n.sz=true) (hf:fresh E d=true)
    (k':Ops P ops l n ((d,.int .i64 (cap:Int)) :: E) S Q):Ops P ops (⟨some d,.call ⟨.builtin .cap,#[x],tys⟩,ty,pos,af,none⟩ :: l) n E S Q:=
  Ops.val rfl rfl (fun c w ho _=>by
    simp [execOp,resolve,invoke,builtin,Builtin.cap_,ho.eval hx,hty,run_underlying hT,goInt]) hb hf k'
theorem Ops.ixa {S:World→Prop} {k s off b:Nat} {q:IntKind} {i:Int} (hT:P.underlying T=some (.slice e)) (hs:∀ w,(sizeOf e).run P w=.ok s w) (hx:ev E x=some (.slice a k cap)) (ha:a=some ⟨b,off,none⟩)
    (hy:ev E y=some (.int q i)) (h0:0≤i) (hk:i<k) (hb:Nat.blt d n.sz=true) (hf:fresh E d=true) (k':Ops P ops l n ((d,.pointer (some ⟨b,off+i.toNat*s,none⟩)) :: E) S Q) :
    Ops P ops (⟨some d,.indexAddr T x y,ty,pos,af,none⟩ :: l) n E S Q:=
  Ops.val rfl rfl (fun c w ho _=>by
    subst ha
    have e1:(⟨b,off,none⟩:Addr).add (i.toNat*s)=⟨b,off+i.toNat*s,none⟩:=by unfold Addr.add; split <;> simp_all
    simp only [execOp,Instr.indexAt,ho.eval hx,ho.eval hy,asIntOf,Sem.run_bind,Sem.run_pure,Result.andThen_ok,run_underlying hT,h0,hk,and_self,if_true,hs,e1]) hb hf k'
theorem OwnSl.cell {enc:α→List Value} {s:Nat} {he:∀ x,(enc x).length=s∧LU (enc x)=true} {T':TypeId} {b:Nat} (h:Sym w0 M I0 I m w) (hA:Del m (OwnSl (JI s enc he) T' (some ⟨b,0,none⟩) cap xs) m') {i j:Nat} {v:α} {u:Value}
    (hi:xs[i]? = some v) (hj:(enc v)[j]? = some u):w.cell? ⟨b,i*s+j,none⟩=some u:=by
  obtain ⟨k1,ha,hk⟩:=(h.del hA).get
  rcases ha with ⟨h1,_⟩ | ⟨b',c,h1,h2,h3,h4,h5⟩
  · cases h1
  · cases h1
    obtain ⟨cs,g1,g2⟩:=h5 i v hi
    cases g1
    rw [MW (hk _ _ h2)]
    exact g2 j u hj
theorem Ops.lo1 {enc:α→List Value} {s:Nat} {he:∀ x,(enc x).length=s∧LU (enc x)=true} {T':TypeId} {b o i j:Nat} {v:α} {u:Value} (hT:∀ w,(isAgg T).run P w=.ok false w)
    (hA:Del m (OwnSl (JI s enc he) T' (some ⟨b,0,none⟩) cap xs) m') (hi:xs[i]? = some v) (hx:ev E x=some (.pointer (some ⟨b,o,none⟩))) (ho:o=i*s+j) (hj:(enc v)[j]? = some u)
    (hb:Nat.blt d n.sz=true) (hf:fresh E d=true) (k:Ops P ops l n ((d,u) :: E) (Sym w0 M I0 I m) Q):Ops P ops (⟨some d,.load T x,ty,pos,af,none⟩ :: l) n E (Sym w0 M I0 I m) Q:=
  Ops.val rfl rfl (fun c w hc hs=>by subst ho; simp [execOp,hc.eval hx,TY (P:=P) hT (OwnSl.cell hs hA hi hj)]) hb hf k
theorem Ops.loA {enc:α→List Value} {s s':Nat} {he:∀ x,(enc x).length=s∧LU (enc x)=true} {T':TypeId} {b o i j:Nat} {v:α} {vs:List Value} (hT:∀ w,(isAgg T).run P w=.ok true w)
    (hS:∀ w,(sizeOf T).run P w=.ok s' w) (hA:Del m (OwnSl (JI s enc he) T' (some ⟨b,0,none⟩) cap xs) m') (hi:xs[i]? = some v) (hx:ev E x=some (.pointer (some ⟨b,o,none⟩))) (ho:o=i*s+j)
    (hj:Cut (enc v) j vs) (hl:vs.length=s') (hb:Nat.blt d n.sz=true) (hf:fresh E d=true) (k:Ops P ops l n ((d,.agg vs.toArray) :: E) (Sym w0 M I0 I m) Q) :
    Ops P ops (⟨some d,.load T x,ty,pos,af,none⟩ :: l) n E (Sym w0 M I0 I m) Q:=
  Ops.val rfl rfl (fun c w hc hs=>by
    subst ho
    simp [execOp,hc.eval hx,PE (P:=P) hT hS hl (fun i' v' hi'=>by rw [Nat.add_assoc]; exact OwnSl.cell hs hA hi (hj.get i' v' hi'))]) hb hf k
theorem OwnSl.put {El:EL α} {T':TypeId} {b:Nat} {i j:Nat} {v v':α} {vs:List Value} {r:List HA} (h:Sym w0 M I0 I (OwnSl El T' (some ⟨b,0,none⟩) cap xs :: r) w)
    (hi:xs[i]? = some v) (hp:∀ cs,El.rep I cs v→∃ cs',PutC cs j vs cs'∧El.rep I cs' v') (h1:LU vs=true) :
    ∃ w',(storeCells ⟨b,i*El.sz+j,none⟩ vs).run P w=.ok () w'∧Sym w0 M I0 I (OwnSl El T' (some ⟨b,0,none⟩) cap (xs.set i v') :: r) w':=by
  obtain ⟨hb,himm,hn,k,⟨k1,k2,hd',hl1,hl2,ha,hs'⟩,hk,hdj,hm⟩:=h
  rcases ha with ⟨h1',_⟩ | ⟨b',c,h1',h2,h3,h4,h5⟩
  · cases h1'
  · cases h1'
    have hpt:Sym w0 M I0 I (Fw.pto b (.cells c T' (0,0)) :: r) w:=⟨hb,himm,hn,k,⟨k1,k2,hd',hl1,hl2,h2,hs'⟩,hk,hdj,hm⟩
    obtain ⟨cs,g1,g2⟩:=h5 i v hi
    obtain ⟨cs',hput,hrep'⟩:=hp cs g1
    obtain ⟨he,hle⟩:=hput.eq
    have hcl:=El.len g1
    have hlt:i<xs.length:=(List.getElem?_eq_some_iff.1 hi).1
    have hmul:i*El.sz+El.sz≤cap*El.sz:=by
      have:(i+1)*El.sz≤cap*El.sz:=Nat.mul_le_mul_right _ (by omega)
      rwa [Nat.add_mul,Nat.one_mul] at this
    have hr:=run_storeCells_at (P:=P) b (i*El.sz+j) T' vs 0 c w hpt.pto (by omega) (VB h1)
    refine ⟨_,hr,?_⟩
    have hup:=hpt.upd (o':=.cells (c.toList.take (i*El.sz+j+0)++vs++c.toList.drop (i*El.sz+j+0+vs.length)).toArray T' (0,0)) (w':=w.setRow b _) rfl rfl rfl rfl (by simp [World.setRow]) (fun q hq=>Fw.setRow_other hq) (setRow_heap w b _ _ T' _ hpt.pto)
    refine hup.weaken fun q hq=>.inr ⟨b,_,rfl,hq,by simpa using h3,?_,?_⟩
    · simp; omega
    · intro i2 x2 hx2
      by_cases e2:i=i2
      · subst e2
        rw [List.getElem?_set_self hlt] at hx2
        cases hx2
        refine ⟨cs',hrep',fun j2 u hj2=>?_⟩
        rw [he] at hj2
        simp only [Nat.add_zero,List.getElem?_toArray]
        rcases Nat.lt_or_ge j2 j with h6 | h6
        · rw [List.append_assoc,List.getElem?_append_left (by simp; omega)] at hj2
          rw [List.append_assoc,List.getElem?_append_left (by simp; omega),List.getElem?_take,if_pos (by omega)]
          rw [List.getElem?_take,if_pos h6] at hj2
          simpa using g2 j2 u hj2
        · rcases Nat.lt_or_ge j2 (j+vs.length) with h7 | h7
          · rw [List.getElem?_append_left (by simp; omega),List.getElem?_append_right (by simp; omega)] at hj2 ⊢
            simp only [List.length_take,Array.length_toList] at hj2 ⊢
            rw [←hj2]; congr 1; omega
          · rw [List.getElem?_append_right (by simp; omega),List.getElem?_drop] at hj2 ⊢
            simp only [List.length_append,List.length_take,Array.length_toList] at hj2 ⊢
            have:=g2 j2 u (by rw [←hj2]; congr 1; omega)
            rw [←Array.getElem?_toList] at this
            rw [←this]; congr 1; omega
      · rw [List.getElem?_set_ne e2] at hx2
        obtain ⟨cs2,g3,g4⟩:=h5 i2 x2 hx2
        refine ⟨cs2,g3,fun j2 u hj2=>?_⟩
        have hj2l:j2<El.sz:=by rw [←El.len g3]; exact (List.getElem?_eq_some_iff.1 hj2).1
        have h8:=g4 j2 u hj2
        rw [←Array.getElem?_toList] at h8
        simp only [Nat.add_zero,List.getElem?_toArray]
        rcases Nat.lt_or_gt_of_ne e2 with h9 | h9
        · have hm2:(i+1)*El.sz≤i2*El.sz:=Nat.mul_le_mul_right _ h9
          rw [Nat.add_mul,Nat.one_mul] at hm2
          rw [List.getElem?_append_right (by simp; omega),List.getElem?_drop,←h8]
          simp only [List.length_append,List.length_take,Array.length_toList]
          congr 1; omega
        · have hm2:(i2+1)*El.sz≤i*El.sz:=Nat.mul_le_mul_right _ h9
          rw [Nat.add_mul,Nat.one_mul] at hm2
          rw [List.append_assoc,List.getElem?_append_left (by simp; omega),List.getElem?_take,if_pos (by omega),h8]
theorem Ops.stO1 {enc:α→List Value} {s:Nat} {he:∀ x,(enc x).length=s∧LU (enc x)=true} {T':TypeId} {b o i j:Nat} {v v':α} {u:Value} (hS:∀ w,(sizeOf T).run P w=.ok 1 w)
    (hA:At m (OwnSl (JI s enc he) T' (some ⟨b,0,none⟩) cap xs) m' (OwnSl (JI s enc he) T' (some ⟨b,0,none⟩) cap (xs.set i v'))) (hi:xs[i]? = some v) (hx:ev E x=some (.pointer (some ⟨b,o,none⟩))) (ho:o=i*s+j)
    (hy:ev E y=some u) (hp:PutC (enc v) j [u] (enc v')) (h1:Fw.one u=true) (k:Ops P ops l n E (Sym w0 M I0 I m') Q):Ops P ops (⟨none,.store T x y,ty,pos,af,none⟩ :: l) n E (Sym w0 M I0 I m) Q:=
  Ops.act rfl rfl (fun c w hc hs=>by
    subst ho
    obtain ⟨r,h2,h3⟩:=hA.del
    obtain ⟨w',hr,hs'⟩:=OwnSl.put (P:=P) (hs.del h2) hi (fun cs hcs=>by cases hcs; exact ⟨_,hp,rfl⟩) (by simp [LU,h1])
    refine ⟨w',?_,hs'.undel h3⟩
    have hc':u.cells = #[u]:=by cases u <;> first | rfl | cases h1
    have hr':(storeCells ⟨b,i*s+j,none⟩ [u]).run P w=.ok () w':=hr
    simp [execOp,hc.eval hx,hc.eval hy,Instr.storeAt,Instr.sureAddr,storeVar,hS,hc',hr']) k
theorem Ops.stOA {enc:α→List Value} {s s':Nat} {he:∀ x,(enc x).length=s∧LU (enc x)=true} {T':TypeId} {b o i j:Nat} {v v':α} {us:List Value} (hS:∀ w,(sizeOf T).run P w=.ok s' w)
    (hA:At m (OwnSl (JI s enc he) T' (some ⟨b,0,none⟩) cap xs) m' (OwnSl (JI s enc he) T' (some ⟨b,0,none⟩) cap (xs.set i v'))) (hi:xs[i]? = some v) (hx:ev E x=some (.pointer (some ⟨b,o,none⟩))) (ho:o=i*s+j)
    (hy:ev E y=some (.agg us.toArray)) (hp:PutC (enc v) j us (enc v')) (hl:us.length=s') (h1:LU us=true) (k:Ops P ops l n E (Sym w0 M I0 I m') Q):Ops P ops (⟨none,.store T x y,ty,pos,af,none⟩ :: l) n E (Sym w0 M I0 I m) Q:=
  Ops.act rfl rfl (fun c w hc hs=>by
    subst ho
    obtain ⟨r,h2,h3⟩:=hA.del
    obtain ⟨w',hr,hs'⟩:=OwnSl.put (P:=P) (hs.del h2) hi (fun cs hcs=>by cases hcs; exact ⟨_,hp,rfl⟩) h1
    refine ⟨w',?_,hs'.undel h3⟩
    have hr':(storeCells ⟨b,i*s+j,none⟩ us).run P w=.ok () w':=hr
    simp [execOp,hc.eval hx,hc.eval hy,Instr.storeAt,Instr.sureAddr,storeVar,hS,Value.cells,hl,hr']) k
end Go.Fw
