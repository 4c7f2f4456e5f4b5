/- The engine, part C: variables in memory: boxes of the call's own, and cells that are immutable. -/
import Derived.Test.YtbohadngdkjljaaGreatFwB
import Derived.Laws.CopyRow
namespace Go.Fw
open Go Go.RowKit
variable {w0 w:World} {M:Nat→Prop} {I0 I:IH} {m m':List HA}
variable {P:Program} {n:FrK} {E:DY} {Q:Exit→Act→World→Prop} {ops:Array Oper} {l:List Oper}
variable {d ty:Nat} {pos:String} {af:Array Edge} {T:TypeId} {x y:Operand}
/-! ### Cells by lists -/
inductive Cut:List Value→Nat→List Value→Prop
  | nil {cs:List Value}:Cut cs 0 []
  | t {c:Value} {cs vs:List Value}:Cut cs 0 vs→Cut (c :: cs) 0 (c :: vs)
  | s {c:Value} {cs vs:List Value} {k:Nat}:Cut cs k vs→Cut (c :: cs) (k+1) vs
theorem Cut.get {cs vs:List Value} {k:Nat} (h:Cut cs k vs):∀ j v,vs[j]? = some v→cs[k+j]? = some v:=by
  induction h with
  | nil=>intro j v h; simp at h
  | t h G=>
    intro j v D
    cases j with
    | zero=>simpa using D
    | succ j=>have:=G j v (by simpa using D); simpa [Nat.add_comm,Nat.add_left_comm] using this
  | s h G=>intro j v D; have:=G j v D; rw [Nat.add_right_comm]; simpa using this
inductive PutC:List Value→Nat→List Value→List Value→Prop
  | nil {cs:List Value}:PutC cs 0 [] cs
  | t {c v:Value} {cs vs cs':List Value}:PutC cs 0 vs cs'→PutC (c :: cs) 0 (v :: vs) (v :: cs')
  | s {c:Value} {cs vs cs':List Value} {k:Nat}:PutC cs k vs cs'→PutC (c :: cs) (k+1) vs (c :: cs')
theorem PutC.eq {cs vs G:List Value} {k:Nat} (h:PutC cs k vs G):G=cs.take k++vs++cs.drop (k+vs.length)∧k+vs.length≤cs.length:=by
  induction h with
  | nil=>simp
  | t h D=>obtain ⟨D,J⟩:=D; simp at D J ⊢; exact ⟨by simpa using D,J⟩
  | s h D=>
    obtain ⟨D,J⟩:=D
    refine ⟨?_,by simp at J ⊢; omega⟩
    rw [D,Nat.add_right_comm]; simp
def one (v:Value):Bool:=v.oneCell'
def NL:List Value→Bool
  | []=>true
  | v :: vs=>one v && NL vs
theorem W6 {vs:List Value} (h:NL vs=true):∀ v∈vs,v.oneCell'=true:=by
  induction vs with
  | nil=>intro v D; cases D
  | cons u vs G=>
    simp only [NL,Bool.and_eq_true] at h
    intro v D
    cases D with
    | head=>exact h.1
    | tail _ D=>exact G h.2 v D
theorem UZ {b off:Nat} {v:Value} (D:∀ w,(isAgg T).run P w=.ok false w) (h:w.cell? ⟨b,off,none⟩=some v):(Instr.loadAt T (.pointer (some ⟨b,off,none⟩))).run P w=.ok v w:=by
  simp [Instr.loadAt,Instr.sureAddr,loadVar,D,h]
theorem QF {b off s:Nat} {vs:List Value} (U:∀ w,(isAgg T).run P w=.ok true w) (J:∀ w,(sizeOf T).run P w=.ok s w) (O:vs.length=s) (D:∀ j v,vs[j]? = some v→w.cell? ⟨b,off+j,none⟩=some v) :
    (Instr.loadAt T (.pointer (some ⟨b,off,none⟩))).run P w=.ok (.agg vs.toArray) w:=by
  subst O
  have h:=run_loadCells_list (P:=P) w ⟨b,off,none⟩ vs (fun j v G=>by
    have:=D j v G
    have e:(⟨b,off,none⟩:Addr).add j=⟨b,off+j,none⟩:=by unfold Addr.add; split <;> simp_all
    rw [e]; exact this)
  simp [Instr.loadAt,Instr.sureAddr,loadVar,U,J,h]
theorem NM {b off:Nat} {cs:Array Value} {t:TypeId} {D:Nat×Nat} (h:w.heap[b]? = some (.cells cs t D)):w.cell? ⟨b,off,none⟩=cs[off]?:=by simp [World.cell?,h]
theorem Ops.allocA {z:Array Value} (G:∀ w,(zeroValue T).run P w=.ok (.agg z) w) (J:Nat.blt d n.sz=true) (U:fresh E d=true)
    (k:∀ b,Ops P ops l n ((d,.pointer (some ⟨b,0,none⟩)) :: E) (Sym w0 M I0 I (pto b (.cells z T) :: m)) Q) :
    Ops P ops (⟨some d,.alloc T,ty,pos,af,none⟩ :: l) n E (Sym w0 M I0 I m) Q:=
  Ops.valx (fun v w'=>∃ b,v=.pointer (some ⟨b,0,none⟩)∧Sym w0 M I0 I (pto b (.cells z T) :: m) w') rfl rfl
    (fun a w _ h=>⟨.pointer (some ⟨w.heap.size,0,none⟩),w.alloc (.cells z T),by simp [execOp,Instr.alloc,G,newVar,newRow,Value.cells],_,rfl,h.alloc _⟩) J U
    (fun v a w D ⟨b,O,h⟩=>by subst O; exact k b a w D h)
theorem Ops.alloc1 {z:Value} (O:∀ w,(zeroValue T).run P w=.ok z w) (D:one z=true) (U:Nat.blt d n.sz=true) (W:fresh E d=true)
    (k:∀ b,Ops P ops l n ((d,.pointer (some ⟨b,0,none⟩)) :: E) (Sym w0 M I0 I (pto b (.cells #[z] T) :: m)) Q) :
    Ops P ops (⟨some d,.alloc T,ty,pos,af,none⟩ :: l) n E (Sym w0 M I0 I m) Q:=
  Ops.valx (fun v w'=>∃ b,v=.pointer (some ⟨b,0,none⟩)∧Sym w0 M I0 I (pto b (.cells #[z] T) :: m) w') rfl rfl
    (fun a w _ h=>⟨.pointer (some ⟨w.heap.size,0,none⟩),w.alloc (.cells #[z] T),by
      have J:z.cells = #[z]:=by cases z <;> first | rfl | cases D
      simp [execOp,Instr.alloc,O,newVar,newRow,J],_,rfl,h.alloc _⟩) U W
    (fun v a w G ⟨b,V,h⟩=>by subst V; exact k b a w G h)
theorem Ops.boxA {z:Array Value} (J:ev E x=some (.agg z)) (G:Nat.blt d n.sz=true) (U:fresh E d=true)
    (k:∀ b,Ops P ops l n ((d,.pointer (some ⟨b,0,none⟩)) :: E) (Sym w0 M I0 I (pto b (.cells z T) :: m)) Q) :
    Ops P ops (⟨some d,.box T x,ty,pos,af,none⟩ :: l) n E (Sym w0 M I0 I m) Q:=
  Ops.valx (fun v w'=>∃ b,v=.pointer (some ⟨b,0,none⟩)∧Sym w0 M I0 I (pto b (.cells z T) :: m) w') rfl rfl
    (fun a w h D=>⟨.pointer (some ⟨w.heap.size,0,none⟩),w.alloc (.cells z T),by simp [execOp,Instr.box,h.eval J,newVar,newRow,Value.cells],_,rfl,D.alloc _⟩) G U
    (fun v a w h ⟨b,O,D⟩=>by subst O; exact k b a w h D)
theorem Ops.box1 {z:Value} (U:ev E x=some z) (G:one z=true) (O:Nat.blt d n.sz=true) (W:fresh E d=true)
    (k:∀ b,Ops P ops l n ((d,.pointer (some ⟨b,0,none⟩)) :: E) (Sym w0 M I0 I (pto b (.cells #[z] T) :: m)) Q) :
    Ops P ops (⟨some d,.box T x,ty,pos,af,none⟩ :: l) n E (Sym w0 M I0 I m) Q:=
  Ops.valx (fun v w'=>∃ b,v=.pointer (some ⟨b,0,none⟩)∧Sym w0 M I0 I (pto b (.cells #[z] T) :: m) w') rfl rfl
    (fun a w h D=>⟨.pointer (some ⟨w.heap.size,0,none⟩),w.alloc (.cells #[z] T),by
      have J:z.cells = #[z]:=by cases z <;> first | rfl | cases G
      simp [execOp,Instr.box,h.eval U,newVar,newRow,J],_,rfl,D.alloc _⟩) O W
    (fun v a w h ⟨b,V,D⟩=>by subst V; exact k b a w h D)
theorem Ops.load1 {b off:Nat} {cs:List Value} {O:TypeId} {fz:Nat×Nat} {v:Value} (V:∀ w,(isAgg T).run P w=.ok false w) (W:ev E x=some (.pointer (some ⟨b,off,none⟩)))
    (U:Del m (pto b (.cells cs.toArray O fz)) m') (G:cs[off]? = some v) (J:Nat.blt d n.sz=true) (Z:fresh E d=true) (k:Ops P ops l n ((d,v) :: E) (Sym w0 M I0 I m) Q) :
    Ops P ops (⟨some d,.load T x,ty,pos,af,none⟩ :: l) n E (Sym w0 M I0 I m) Q:=
  Ops.val rfl rfl (fun a w D Y=>by
    have h:=(Y.del U).pto
    simp [execOp,D.eval W,UZ (P:=P) V ((NM h).trans (by simpa using G))]) J Z k
theorem Ops.loadA {b off s:Nat} {cs vs:List Value} {U:TypeId} {fz:Nat×Nat} (W:∀ w,(isAgg T).run P w=.ok true w) (G:∀ w,(sizeOf T).run P w=.ok s w) (Z:ev E x=some (.pointer (some ⟨b,off,none⟩)))
    (V:Del m (pto b (.cells cs.toArray U fz)) m') (J:Cut cs off vs) (hl:vs.length=s) (O:Nat.blt d n.sz=true) (hf:fresh E d=true) (k:Ops P ops l n ((d,.agg vs.toArray) :: E) (Sym w0 M I0 I m) Q) :
    Ops P ops (⟨some d,.load T x,ty,pos,af,none⟩ :: l) n E (Sym w0 M I0 I m) Q:=
  Ops.val rfl rfl (fun a w D hs=>by
    have h:=(hs.del V).pto
    simp [execOp,D.eval Z,QF (P:=P) W G hl (fun j v Y=>(NM h).trans (by simpa using J.get j v Y))]) O hf k
theorem Ops.loadW {b s:Nat} {cs:List Value} {O:TypeId} {fz:Nat×Nat} (V:∀ w,(isAgg T).run P w=.ok true w) (G:∀ w,(sizeOf T).run P w=.ok s w) (Y:ev E x=some (.pointer (some ⟨b,0,none⟩)))
    (U:Del m (pto b (.cells cs.toArray O fz)) m') (hl:cs.length=s) (J:Nat.blt d n.sz=true) (hf:fresh E d=true) (k:Ops P ops l n ((d,.agg cs.toArray) :: E) (Sym w0 M I0 I m) Q) :
    Ops P ops (⟨some d,.load T x,ty,pos,af,none⟩ :: l) n E (Sym w0 M I0 I m) Q:=
  Ops.val rfl rfl (fun a w D Z=>by
    have h:=(Z.del U).pto
    simp [execOp,D.eval Y,QF (P:=P) V G hl (fun j v W=>(NM (off:=0+j) h).trans (by rw [Nat.zero_add]; simpa using W))]) J hf k
theorem setRow_other {g i:Nat} {c:Array Value} (h:i≠g):(w.setRow g c).heap[i]? = w.heap[i]?:=by
  simp only [World.setRow,Array.getElem?_modify]
  rw [if_neg (by omega)]
theorem Sym.store {b off:Nat} {cs vs D:List Value} {G:TypeId} (h:Sym w0 M I0 I (Fw.pto b (.cells cs.toArray G (0,0)) :: m) w) (hp:PutC cs off vs D) (O:NL vs=true) :
    ∃ w',(storeCells ⟨b,off,none⟩ vs).run P w=.ok () w'∧Sym w0 M I0 I (Fw.pto b (.cells D.toArray G (0,0)) :: m) w':=by
  obtain ⟨he,V⟩:=hp.eq
  have J:=h.pto
  have U:=run_storeCells_at (P:=P) b off G vs 0 cs.toArray w J (by simpa using V) (W6 O)
  refine ⟨_,U,h.upd rfl rfl rfl rfl (by simp [World.setRow]) (fun k hk=>setRow_other hk) ?_⟩
  rw [setRow_heap w b _ _ G _ J]
  simp [he]
theorem Sym.reAt {A B:HA} (D:At m A m' B) (h:Sym w0 M I0 I m w) {w':World} (O:∀ r,Sym w0 M I0 I (A :: r) w→Sym w0 M I0 I (B :: r) w'):Sym w0 M I0 I m' w':=by
  obtain ⟨r,G,J⟩:=D.del
  exact (O r (h.del G)).undel J
theorem Ops.storeA {b off s:Nat} {cs vs h:List Value} {J:TypeId} (O:∀ w,(sizeOf T).run P w=.ok s w) (hx:ev E x=some (.pointer (some ⟨b,off,none⟩))) (hy:ev E y=some (.agg vs.toArray))
    (Y:At m (pto b (.cells cs.toArray J (0,0))) m' (pto b (.cells h.toArray J (0,0)))) (U:PutC cs off vs h) (hl:vs.length=s) (Z:NL vs=true)
    (k:Ops P ops l n E (Sym w0 M I0 I m') Q):Ops P ops (⟨none,.store T x y,ty,pos,af,none⟩ :: l) n E (Sym w0 M I0 I m) Q:=
  Ops.act rfl rfl (fun a w G hs=>by
    obtain ⟨r,h2,W⟩:=Y.del
    obtain ⟨w',V,D⟩:=(hs.del h2).store (P:=P) U Z
    refine ⟨w',?_,D.undel W⟩
    simp [execOp,G.eval hx,G.eval hy,Instr.storeAt,Instr.sureAddr,storeVar,O,Value.cells,hl,V]) k
theorem Ops.store1 {b off:Nat} {cs h:List Value} {v:Value} {O:TypeId} (V:∀ w,(sizeOf T).run P w=.ok 1 w) (hx:ev E x=some (.pointer (some ⟨b,off,none⟩))) (hy:ev E y=some v)
    (hA:At m (pto b (.cells cs.toArray O (0,0))) m' (pto b (.cells h.toArray O (0,0)))) (W:PutC cs off [v] h) (U:one v=true)
    (k:Ops P ops l n E (Sym w0 M I0 I m') Q):Ops P ops (⟨none,.store T x y,ty,pos,af,none⟩ :: l) n E (Sym w0 M I0 I m) Q:=
  Ops.act rfl rfl (fun a w J hs=>by
    obtain ⟨r,h2,Z⟩:=hA.del
    obtain ⟨w',Y,D⟩:=(hs.del h2).store (P:=P) W (by simp [NL,U])
    refine ⟨w',?_,D.undel Z⟩
    have G:v.cells = #[v]:=by cases v <;> first | rfl | cases U
    simp [execOp,J.eval hx,J.eval hy,Instr.storeAt,Instr.sureAddr,storeVar,V,G,Y]) k
def ImC (I:IH) (b off:Nat) (cs:List Value):Prop:=∃ c t h,I b=some (.cells c t h)∧∀ j v,cs[j]? = some v→c[off+j]? = some v
theorem ImC.mono {I J:IH} {b off:Nat} {cs:List Value} (h:ImC I b off cs) (D:I.le J):ImC J b off cs:=by
  obtain ⟨c,t,U,G,O⟩:=h
  exact ⟨c,t,U,D _ _ G,O⟩
theorem ImC.cell {b off j:Nat} {cs:List Value} {v:Value} (h:ImC I b off cs) (O:Sym w0 M I0 I m w) (G:cs[j]? = some v):w.cell? ⟨b,off+j,none⟩=some v:=by
  obtain ⟨c,t,fz,D,J⟩:=h
  rw [NM (O.imm _ _ D)]
  exact J j v G
theorem Ops.ld1 {b off o j:Nat} {cs:List Value} {v:Value} (Y:∀ w,(isAgg T).run P w=.ok false w) (U:ImC I b off cs) (O:ev E x=some (.pointer (some ⟨b,o,none⟩))) (h:o=off+j) (D:cs[j]? = some v)
    (G:Nat.blt d n.sz=true) (W:fresh E d=true) (k:Ops P ops l n ((d,v) :: E) (Sym w0 M I0 I m) Q) :
    Ops P ops (⟨some d,.load T x,ty,pos,af,none⟩ :: l) n E (Sym w0 M I0 I m) Q:=
  Ops.val rfl rfl (fun a w J V=>by
    subst h
    simp [execOp,J.eval O,UZ (P:=P) Y (U.cell V D)]) G W k
theorem Ops.ldW {b off s:Nat} {cs:List Value} (Y:∀ w,(isAgg T).run P w=.ok true w) (h:∀ w,(sizeOf T).run P w=.ok s w) (O:ImC I b off cs) (J:ev E x=some (.pointer (some ⟨b,off,none⟩)))
    (W:cs.length=s) (D:Nat.blt d n.sz=true) (V:fresh E d=true) (k:Ops P ops l n ((d,.agg cs.toArray) :: E) (Sym w0 M I0 I m) Q) :
    Ops P ops (⟨some d,.load T x,ty,pos,af,none⟩ :: l) n E (Sym w0 M I0 I m) Q:=
  Ops.val rfl rfl (fun a w G U=>by
    simp [execOp,G.eval J,QF (P:=P) Y h W (fun i v hi=>O.cell U hi)]) D V k
theorem Ops.field1 {h:Array Field} {i:Nat} {f:Field} {cs:List Value} {v:Value} {S:World→Prop} (W:P.underlying T=some (.struct h)) (hi:h[i]? = some f) (J:∀ w,(isAgg f.type).run P w=.ok false w)
    (U:ev E x=some (.agg cs.toArray)) (D:cs[f.offset]? = some v) (G:Nat.blt d n.sz=true) (V:fresh E d=true) (k:Ops P ops l n ((d,v) :: E) S Q) :
    Ops P ops (⟨some d,.field T x i,ty,pos,af,none⟩ :: l) n E S Q:=
  Ops.val rfl rfl (fun a w O _=>by simp [execOp,O.eval U,Instr.field,run_underlying W,hi,asAgg,part,J,D]) G V k
def cellsOf:Value→List Value
  | .agg cs=>cs.toList
  | v=>[v]
theorem TB (v:Value):v.cells=(cellsOf v).toArray:=by cases v <;> simp [Value.cells,cellsOf]
inductive jT (fs:Array Field) (E:DY):List Value→List (Nat×Operand)→List Value→Prop
  | n {z:List Value}:jT fs E z [] z
  | c {z z' cs vs:List Value} {i:Nat} {x:Operand} {r:List (Nat×Operand)} {f:Field} {v:Value} (hi:fs[i]? = some f) (hx:ev E x=some v) (hv:cellsOf v=vs) (hp:PutC z f.offset vs z') (k:jT fs E z' r cs) :
      jT fs E z ((i,x) :: r) cs
theorem cH:∀ (vs:List Value) (off j:Nat) (z:Array Value),off+j+vs.length≤z.size →
    ((vs.zipIdx j).foldl (fun cs (p:Value×Nat)=>cs.setIfInBounds (off+p.2) p.1) z)=(z.toList.take (off+j)++vs++z.toList.drop (off+j+vs.length)).toArray
  | [],off,j,z,_=>by simp
  | v :: vs,off,j,z,h=>by
    simp only [List.length_cons] at h
    rw [List.zipIdx_cons,List.foldl_cons,cH vs off (j+1) _ (by simp; omega)]
    congr 1
    have e:=list_seg_step z.toList (off+j) v vs (by simp; omega)
    simpa [Array.toList_setIfInBounds,Nat.add_assoc] using e
theorem AfL {U:Array Field} {places:Array (Nat×Nat)} (O:∀ (i:Nat) (f:Field),U[i]? = some f→∃ s,places[i]? = some (f.offset,s)) {ev':Operand→Value} :
    ∀ {z:List Value} {r:List (Nat×Operand)} {cs:List Value},jT U E z r cs→(∀ x v,ev E x=some v→ev' x=v) →
      (∀ (i:Nat) (x:Operand) (f:Field) (s:Nat),(i,x)∈r→U[i]? = some f→places[i]? = some (f.offset,s)→(cellsOf (ev' x)).length=s) →
      Instr.fill (places[·]?) z.toArray (r.map fun p=>(p.1,ev' p.2))=some cs.toArray:=by
  intro z r cs h
  induction h with
  | n=>intros; rfl
  | @c z Z cs vs i x r f v hi V W hp k ih=>
    intro he Y
    obtain ⟨s,D⟩:=O i f hi
    have G:=Y i x f s (by simp) hi D
    rw [he x v V,W] at G
    obtain ⟨J,hle⟩:=hp.eq
    have e1:(ev' x).cells=vs.toArray:=by rw [he x v V,TB,W]
    simp only [List.map_cons,Instr.fill,D,e1]
    rw [if_neg (by simp; omega)]
    have e2:vs.toArray.zipIdx.foldl (fun cs (p:Value×Nat)=>cs.setIfInBounds (f.offset+p.2) p.1) z.toArray=Z.toArray:=by
      rw [←Array.foldl_toList,Array.toList_zipIdx]
      rw [cH vs f.offset 0 z.toArray (by simp; omega)]
      simp [J]
    rw [e2]
    exact ih he (fun i x f s hm=>Y i x f s (List.mem_cons_of_mem _ hm))
def Aa8 (P:Program) (E:DY) (h:Array Field):List (Nat×Operand)→Prop
  | []=>True
  | p :: r=>(∃ f v,h[p.1]? = some f∧ev E p.2=some v∧P.cellsOf f.type=(cellsOf v).length)∧Aa8 P E h r
theorem xX {D:List Field}:∀ w,(∀ f∈D,(P.info? f.type).isSome=true) →
    (D.mapM fun f=>(do pure (f.offset,←sizeOf f.type):Sem (Nat×Nat))).run P w=.ok (D.map fun f=>(f.offset,P.cellsOf f.type)) w:=by
  induction D with
  | nil=>intro w _; rfl
  | cons f D J=>
    intro w h
    have G:(sizeOf f.type).run P w=.ok (P.cellsOf f.type) w:=by
      obtain ⟨i,hi⟩:=Option.isSome_iff_exists.1 (h f (by simp))
      simp [sizeOf,typeInfo,hi,Program.cellsOf]
    rw [List.mapM_cons]
    simp only [Sem.run_bind,G,Result.andThen_ok,Sem.run_pure,J w (fun f O=>h f (by simp [O])),List.map_cons]
theorem tJ {D:Array Field} (h:∀ f∈D.toList,(P.info? f.type).isSome=true) (w:World) :
    (D.mapM fun f=>(do pure (f.offset,←sizeOf f.type):Sem (Nat×Nat))).run P w=.ok (D.toList.map fun f=>(f.offset,P.cellsOf f.type)).toArray w:=by
  rw [Array.mapM_eq_mapM_toList]
  have:=xX (P:=P) w h
  simp only [Sem.run_map,this,Result.andThen_ok]
theorem Ops.build {S:World→Prop} {D:Array Field} {z:List Value} {h:List (Nat×Operand)} {cs:List Value} (hz:∀ w,(zeroValue T).run P w=.ok (.agg z.toArray) w) (Y:P.underlying T=some (.struct D))
    (U:(P.fieldsOf T).toList.all (fun f=>(P.info? f.type).isSome)=true) (W:jT D E z h cs) (Z:Aa8 P E D h) (hb:Nat.blt d n.sz=true) (hf:fresh E d=true) (k:Ops P ops l n ((d,.agg cs.toArray) :: E) S Q) :
    Ops P ops (⟨some d,.build T h.toArray,ty,pos,af,none⟩ :: l) n E S Q:=
  Ops.val rfl rfl (fun a w V _=>by
    have G:=AfL (places:=(D.toList.map fun f=>(f.offset,P.cellsOf f.type)).toArray) (E:=E) (ev':=a.eval) (fun i f hi=>⟨P.cellsOf f.type,by
        have:D.toList[i]? = some f:=by simpa using hi
        simp [this]⟩) W (fun x v hx=>V.eval hx) (fun i x f s J hi hp=>by
        have hs:P.cellsOf f.type=s:=by
          have:D.toList[i]? = some f:=by simpa using hi
          simp [hi] at hp; exact hp
        rw [←hs]
        clear W k
        induction h with
        | nil=>cases J
        | cons p r ih=>
          obtain ⟨⟨f',v,h1,h2,h3⟩,h4⟩:=Z
          cases J with
          | head=>rw [V.eval h2]; rw [hi] at h1; cases h1; exact h3.symm
          | tail _ J=>exact ih h4 J)
    have O:∀ f∈D.toList,(P.info? f.type).isSome=true:=by
      have e0:P.fieldsOf T=D:=by simp [Program.fieldsOf,Y]
      rw [e0] at U; exact List.all_eq_true.1 U
    simp only [execOp,Instr.build,Sem.run_bind,hz,Result.andThen_ok,run_underlying Y,Value.cells,tJ O]
    have e:(Array.map (fun (x:Nat×Operand)=>(x.1,a.eval x.2)) h.toArray).toList=h.map fun p=>(p.1,a.eval p.2):=by simp
    rw [show (Array.map (fun x=>match x with | (i,x)=>(i,a.eval x)) h.toArray).toList=h.map fun p=>(p.1,a.eval p.2) from e,G]
    simp) hb hf k
end Go.Fw
