import Derived.Test.YtbohadngdkjljaaGreatOK
import Derived.Test.YtbohadngdkjljaaGreatCsrH
namespace Go.Proofs.YtbohadngdkjljaaGreat
open Go Go.Fw
set_option linter.unusedVariables false
set_option linter.unusedSimpArgs false
theorem Srt.nodup {l:List AD} (h:Srt l):l.Nodup:=by
  rw [List.nodup_iff_pairwise_ne]
  exact List.Pairwise.imp (R:=fun a b=>NK (key a) (key b)) (fun {a b} D (e:a=b)=>FC (key b) (by rw [e] at D; exact D)) h
theorem Ag5 {l D:List AD} (h:Srt l) (G:Srt D) (he:∀ t,t∈l↔t∈D):l=D:=
  ZD ((List.perm_ext_iff_of_nodup h.nodup G.nodup).2 he) h G fun a b _ _ J O=>absurd (LB J O) (FC _)
theorem MU {D G:Int} {J:List AD} (h:Canon D G J):iA (BM D G J)=BM D G J:=by
  unfold iA; rw [if_pos h.right]
def nN (l:Int):Int:=if 0 > l then 0 else l
def tI (h n:Int):Int:=if n<h then n else h
def ext (l h n:Int):Int:=if nN l<tI h n then tI h n - nN l else 0
def LZ (l h c d:Int) (D:List AD):List AD:=(D.filter fun t=>decide ((l≤t.Row∧t.Row<h)∧(c≤t.Col∧t.Col<d))).map fun t=>⟨t.Row - l,t.Col - c,t.Val⟩
def rD (h D:Int) (G:List AD) (p q:Int×Int):Rows:=BM (ext p.1 p.2 h) (ext q.1 q.2 D) (LZ (nN p.1) (tI p.2 h) (nN q.1) (tI q.2 D) G)
theorem lB (l h n:Int) (hn:0≤n) (h1:n≤4096):0≤ext l h n∧ext l h n≤n∧0≤nN l∧tI h n≤n:=by
  unfold ext nN tI; (repeat' split) <;> omega
theorem pB {D G:Int} {J:List AD} (h:Canon D G J) (p q:Int×Int):Canon (ext p.1 p.2 D) (ext q.1 q.2 G) (LZ (nN p.1) (tI p.2 D) (nN q.1) (tI q.2 G) J):=by
  have h1:=lB p.1 p.2 D h.r0 h.r1
  have h2:=lB q.1 q.2 G h.c0 h.c1
  have h3:=h.r1; have h4:=h.c1
  refine ⟨by omega,by omega,by omega,by omega,?_,?_,?_⟩
  · have:=h.len
    unfold LZ
    rw [List.length_map]
    exact Nat.le_trans (List.length_filter_le _ _) this
  · unfold Srt LZ
    rw [List.pairwise_map]
    refine List.Pairwise.imp (fun {a b} W=>?_) (List.Pairwise.filter (R:=fun a b=>NK (key a) (key b)) _ h.srt)
    unfold NK key at *
    simp only at *
    omega
  · intro t V
    obtain ⟨u,O,rfl⟩:=List.mem_map.1 V
    have U:=(List.mem_filter.1 O).2
    simp only [decide_eq_true_eq] at U
    have e1:ext p.1 p.2 D=tI p.2 D - nN p.1:=by unfold ext; rw [if_pos (by omega)]
    have e2:ext q.1 q.2 G=tI q.2 G - nN q.1:=by unfold ext; rw [if_pos (by omega)]
    unfold ZZ
    simp only
    omega
theorem pC {p:Int×Int} {n:Int} {Q:Int×Int→Prop} (J:0≤n) (G:n≤4096) (D:Q (nN p.1,ext p.1 p.2 n)):TI p n Q:=by
  unfold TI
  show AR (decide (tI p.2 n≤nN p.1)) (Q (nN p.1,0)) (Q (nN p.1,AJ (tI p.2 n - nN p.1)))
  have hb:=lB p.1 p.2 n J G
  unfold ext at D
  refine AB (fun h=>?_) (fun h=>?_)
  · rwa [if_neg (by omega)] at D
  · rw [if_pos (by omega)] at D
    rwa [BE (by omega) (by omega)]
def lD (c d:Int) (t:AD):Bool:=decide (c≤t.Col∧t.Col<d)
def shf (l c:Int) (t:AD):AD:=⟨t.Row - l,t.Col - c,t.Val⟩
theorem AdR {J:List AD} (h:Srt J) (l c d:Int) (v:Nat) (hv:l≤v):LZ l ((v:Int)+1) c d J=LZ l v c d J++((LC J v).filter (lD c d)).map (shf l c):=by
  unfold LZ
  rw [show (fun t:AD=>(⟨t.Row - l,t.Col - c,t.Val⟩:AD))=shf l c from rfl,←List.map_append]
  congr 1
  refine Ag5 (List.Pairwise.filter _ h) (List.pairwise_append.2 ⟨List.Pairwise.filter _ h,List.Pairwise.filter _ (List.Pairwise.filter _ h),fun a O b U=>?_⟩) fun t=>?_
  · have D:=(List.mem_filter.1 O).2
    have G:=(List.mem_filter.1 (List.mem_filter.1 U).1).2
    simp only [decide_eq_true_eq] at D G
    unfold NK key
    simp only
    omega
  · unfold LC lD
    simp only [List.mem_append,List.mem_filter,decide_eq_true_eq]
    constructor
    · rintro ⟨D,G⟩
      by_cases e:t.Row=v
      · exact .inr ⟨⟨D,e⟩,G.2⟩
      · exact .inl ⟨D,by omega,G.2⟩
    · rintro (⟨D,G⟩ | ⟨⟨D,G⟩,h3⟩)
      · exact ⟨D,by omega,G.2⟩
      · exact ⟨D,by omega,h3⟩
theorem rE {D:List AD} {l h c d:Int} (hh:h≤l):LZ l h c d D=[]:=by
  unfold LZ
  rw [List.filter_eq_nil_iff.2]; · rfl
  intro t ht
  simp only [decide_eq_true_eq]; omega
theorem X5 {a:Rows} {G J:Int} {O:List AD} {p q:Int×Int} {Q:Rows→Prop} (hl:small a) (ha:iA a=BM G J O) (h:Canon G J O) (hQ:Q (rD G J O p q)):MH a p q Q:=by
  unfold MH
  have hlen:=h.len
  have hr1:=h.r1; have hc1:=h.c1
  have b1:=lB p.1 p.2 G h.r0 h.r1
  have b2:=lB q.1 q.2 J h.c0 h.c1
  refine rC hl ?_
  rw [ha]
  refine pC h.r0 h.r1 (pC h.c0 h.c1 ?_)
  show BB _ _
  have U:=pB h p q
  unfold rD at hQ
  have hrl:(BM G J O).Rows=G:=rfl
  have hcl:(BM G J O).Cols=J:=rfl
  rw [hcl,hrl]
  generalize hL:nN p.1=L at *
  generalize hH:tI p.2 G=H at *
  generalize hC:nN q.1=C at *
  generalize hD:tI q.2 J=D at *
  have eE:ext p.1 p.2 G=if L<H then H - L else 0:=by unfold ext; rw [hL,hH]
  have eF:ext q.1 q.2 J=if C<D then D - C else 0:=by unfold ext; rw [hC,hD]
  generalize ext p.1 p.2 G=E at *
  generalize ext q.1 q.2 J=F at *
  dsimp only
  obtain ⟨n,hn⟩:∃ n:Nat,E=n:=⟨E.toNat,by omega⟩
  rw [hn]
  refine AV (fun (s:List AD) i=>(s,i)) 0 n (by omega) (fun i s=>s=LZ L (L+(i:Nat)) C D O) (by omega) (s0:=[]) (by rw [rE (by omega)]) (fun i s next _ hi V Y=>?_) (fun s next V=>?_)
  · subst V
    dsimp only
    have hLH:L<H∧E=H - L:=by
      by_cases e:L<H
      · rw [if_pos e] at eE; exact ⟨e,eE⟩
      · rw [if_neg e] at eE; omega
    obtain ⟨v,hv⟩:∃ v:Nat,L+(i:Int)=v:=⟨(L+i).toNat,by omega⟩
    have e1:AJ (L+(i:Int))=v:=by rw [BE (by omega) (by omega)]; exact hv
    rw [e1]
    refine AB (fun _=>?_) (fun h=>by omega)
    refine yP h.sml (MU h) h ?_
    have erow:Ag4 G O v=(LC O v).map XM:=by unfold Ag4; rw [if_pos (by omega),Int.toNat_natCast]
    rw [erow]
    have hsl:=UB O v
    have hrow:∀ t∈LC O v,t.Row=v:=fun t ht=>by simpa using (List.mem_filter.1 ht).2
    have hin:∀ t∈LC O v,ZZ G J t:=fun t ht=>h.inn t (List.mem_filter.1 ht).1
    have W:=AdR h.srt L C D v (by omega)
    rw [show (v:Int)+1=L+((i+1:Nat):Int) by omega] at W
    rw [W] at Y
    have hacc:(LZ L v C D O).length≤O.length:=by
      unfold LZ
      rw [List.length_map]
      exact List.length_filter_le _ _
    rw [hv]
    generalize LZ L v C D O=acc at Y hacc
    generalize LC O v=xs at *
    refine AV (fun (s:List AD) i=>(s,i)) 0 xs.length (by omega) (fun j s=>s=acc++((xs.take j).filter (lD C D)).map (shf L C)) (by omega) (by simp) (fun j s nx _ hj V hnj=>?_) (fun s nx V=>?_)
    · subst V
      dsimp only
      refine AB (fun _=>?_) (fun h=>by simp at h; omega)
      have V:=List.getElem_mem hj
      have hi1:=hin _ V
      have hr:=hrow _ V
      unfold ZZ at hi1
      have hst:(xs.take (j+1)).filter (lD C D)=(xs.take j).filter (lD C D)++if lD C D xs[j]=true then [xs[j]] else []:=by
        rw [List.take_succ_eq_append_getElem hj,List.filter_append,List.filter_cons,List.filter_nil]
      refine AP (by omega) (x:=XM xs[j]) (by simp [hj]) ?_
      have eAt:(XM xs[j]).At=xs[j].Col:=rfl
      have eVal:(XM xs[j]).Val=xs[j].Val:=rfl
      rw [eAt,eVal]
      refine DP (fun b=>b=lD C D xs[j]) ?_ fun k hk=>?_
      · rintro _ rfl
        refine ⟨fun Z=>BA ?_ (hnj _ ?_),fun Z=>hnj _ ?_⟩
        · have:=List.length_filter_le (lD C D) (xs.take j)
          have h4:(xs.take j).length≤xs.length:=by simp; omega
          simp only [List.length_append,List.length_map,List.length_singleton]
          omega
        · have hc':C≤xs[j].Col∧xs[j].Col<D:=by simpa [lD] using Z
          rw [hst,if_pos Z,List.map_append,List.append_assoc,BE (x:=xs[j].Col - C) (by omega) (by omega)]
          have:(⟨(i:Int),xs[j].Col - C,xs[j].Val⟩:AD)=shf L C xs[j]:=by unfold shf; rw [show (i:Int)=xs[j].Row - L by omega]
          rw [this]; rfl
        · rw [hst,if_neg (by simp [Z]),List.append_nil]
      · refine AB (fun Z=>hk _ ?_) (fun Z=>hk _ ?_)
        · unfold lD
          apply decide_eq_decide.2
          rw [eF,BE (x:=xs[j].Col - C) (by omega) (by omega)]
          split <;> omega
        · unfold lD; symm; apply decide_eq_false; omega
    · subst V
      dsimp only
      refine AB (fun h=>by simp at h) (fun _=>Y _ ?_)
      rw [List.take_length]
  · subst V
    dsimp only
    refine AB (fun h=>by omega) (fun _=>?_)
    have e:LZ L (L+(n:Int)) C D O=LZ L H C D O:=by
      by_cases e:L<H
      · rw [if_pos e] at eE; rw [show L+(n:Int)=H by omega]
      · rw [if_neg e] at eE; rw [rE (by omega),rE (by omega)]
    rw [e]
    rw [hn] at U hQ
    refine kY (by omega) (by omega) (by have:=U.len; omega) (fun t ht=>?_) hQ
    have:=U.inn t ht
    unfold ZZ at this
    exact ⟨this.1,this.2.1⟩
theorem AbX {r D G:Int} {kvs:List (FI×Int)} (h:0≤D∧D≤4096∧0≤G∧G≤4096) (hl:kvs.length≤65536) (hk:∀ t∈kvs,ZZ D G (uP t.1 0)) (O:∀ t∈kvs,FL t.2):Canon D G (MT (SC r kvs) uP).1:=by
  refine ⟨h.1,h.2.1,h.2.2.1,h.2.2.2,?_,?_,?_⟩
  · exact Nat.le_trans (AaT _) (by have:=(RZ r kvs O).1; omega)
  · unfold MT
    split
    · unfold Srt
      rw [List.pairwise_map]
      exact OD r kvs
    · exact .nil
  · intro t J
    unfold MT at J
    split at J
    · obtain ⟨p,hp,rfl⟩:=List.mem_map.1 J
      obtain ⟨x,U,e⟩:=AaS hp
      have:=hk x U
      unfold ZZ uP at *
      rw [←e]
      exact this
    · simp at J
def jO (n:Int) (e:AL):Prop:=(0≤e.From∧e.From<n)∧(0≤e.To∧e.To<n)
instance (n:Int) (e:AL):Decidable (jO n e):=by unfold jO; infer_instance
def pD (e:AL):Prop:=0≤e.W∧e.W≤2147483647
instance (e:AL):Decidable (pD e):=by unfold pD; infer_instance
def DW (g:AK):Int:=
  if g.N<0 then 3 else if 4096<g.N∨65536<g.Edges.length then 5 else if ¬ ∀ e∈g.Edges,jO g.N e then 3 else if ¬ ∀ e∈g.Edges,pD e then 7 else 0
theorem GJ {g:AK} (h:DW g=0):0≤g.N∧g.N≤4096∧g.Edges.length≤65536∧(∀ e∈g.Edges,jO g.N e)∧∀ e∈g.Edges,pD e:=by
  unfold DW at h
  split at h
  · omega
  · split at h
    · omega
    · split at h
      · omega
      · split at h
        · omega
        · rename_i h1 h2 D G
          exact ⟨by omega,by omega,by omega,Decidable.of_not_not D,Decidable.of_not_not G⟩
theorem GO {g:AK} {Q:Int→Prop} (J:Q (DW g)):HF g Q:=by
  unfold HF
  unfold DW at J
  refine AB (fun h=>?_) (fun h=>?_)
  · rwa [if_pos h] at J
  rw [if_neg h] at J
  refine DP (fun b=>b=decide (4096<g.N∨65536<g.Edges.length)) ?_ fun k hk=>?_
  · rintro _ rfl
    refine AB (fun h5=>?_) (fun h5=>?_)
    · rwa [if_pos h5] at J
    rw [if_neg h5] at J
    unfold DI DT NT JX
    refine DC g.Edges.length (by omega) (fun i=>∀ (j:Nat) (G:j<g.Edges.length),j<i→jO g.N g.Edges[j]) (by simp) (fun i next hi O hn=>?_) (fun next O=>?_)
    · refine AB (fun _=>?_) (fun h=>by omega)
      have hbad (Z:¬jO g.N g.Edges[i]):AR (decide (0≤(i:Int))) (Q 3) (CH g.Edges fun Y=>AR Y (Q 7) (Q 0)):=by
        refine AB (fun _=>?_) (fun h=>by omega)
        rwa [if_pos (fun W=>Z (W _ (List.getElem_mem hi)))] at J
      refine AW hi ?_
      refine AB (fun U=>AX rfl (AX rfl (hbad fun D=>by unfold jO at D; omega))) (fun U=>?_)
      refine AB (fun h2=>AX rfl (hbad fun D=>by unfold jO at D; omega)) (fun h2=>?_)
      refine AB (fun h3=>AX rfl (hbad fun D=>by unfold jO at D; omega)) (fun h3=>?_)
      refine AB (fun h4=>hbad fun D=>by unfold jO at D; omega) (fun h4=>hn fun j G hji=>?_)
      by_cases e:j=i
      · subst e; unfold jO; omega
      · exact O j G (by omega)
    · refine AB (fun h=>by omega) (fun _=>AO (by decide) ?_)
      have V:∀ e∈g.Edges,jO g.N e:=fun e he=>by
        obtain ⟨j,G,rfl⟩:=List.getElem_of_mem he
        exact O j G G
      rw [if_neg (fun h=>h V)] at J
      unfold CH DU NU
      refine DC g.Edges.length (by omega) (fun i=>∀ (j:Nat) (G:j<g.Edges.length),j<i→pD g.Edges[j]) (by simp) (fun i next hi O hn=>?_) (fun next O=>?_)
      · refine AB (fun _=>?_) (fun h=>by omega)
        have hbad (Z:¬pD g.Edges[i]):AR (decide (0≤(i:Int))) (Q 7) (Q 0):=by
          refine AB (fun _=>?_) (fun h=>by omega)
          rwa [if_pos (fun W=>Z (W _ (List.getElem_mem hi)))] at J
        refine AW hi (AB (fun U=>AX rfl (hbad fun D=>by unfold pD at D; omega)) (fun U=>AB (fun h2=>hbad fun D=>by unfold pD at D; omega) (fun h2=>hn fun j G hji=>?_)))
        by_cases e:j=i
        · subst e; unfold pD; omega
        · exact O j G (by omega)
      · refine AB (fun h=>by omega) (fun _=>AO (by decide) ?_)
        rwa [if_neg (fun h=>h fun e he=>by
          obtain ⟨j,G,rfl⟩:=List.getElem_of_mem he
          exact O j G G)] at J
  · refine AB (fun U=>hk _ ?_) (fun U=>hk _ ?_)
    · rw [decide_eq_true U,decide_eq_true (.inl U)]
    · apply decide_eq_decide.2; omega
theorem EM {g:AK} {Q:Int→Prop} (J:Q (DW g)):KL g Q:=by
  unfold KL
  unfold DW at J
  refine AB (fun h=>?_) (fun h=>?_)
  · rwa [if_pos h] at J
  rw [if_neg h] at J
  have h5 (h:4096<g.N∨65536<g.Edges.length):Q 5:=by rwa [if_pos h] at J
  refine AB (fun h=>h5 (.inl h)) (fun V=>AB (fun h=>h5 (.inr (by omega))) (fun W=>?_))
  rw [if_neg (by omega)] at J
  refine DC g.Edges.length (by omega) (fun i=>∀ (j:Nat) (G:j<g.Edges.length),j<i→jO g.N g.Edges[j]) (by simp) (fun i next hi O hn=>?_) (fun next O=>?_)
  · refine AB (fun _=>?_) (fun h=>by omega)
    have hbad (Z:¬jO g.N g.Edges[i]):Q 3:=by rwa [if_pos (fun Y=>Z (Y _ (List.getElem_mem hi)))] at J
    refine AW hi ?_
    refine AB (fun V=>hbad fun D=>by unfold jO at D; omega) (fun V=>?_)
    refine AB (fun W=>hbad fun D=>by unfold jO at D; omega) (fun W=>?_)
    refine AB (fun h3=>hbad fun D=>by unfold jO at D; omega) (fun h3=>?_)
    refine AB (fun h4=>hbad fun D=>by unfold jO at D; omega) (fun h4=>hn fun j G hji=>?_)
    by_cases e:j=i
    · subst e; unfold jO; omega
    · exact O j G (by omega)
  · refine AB (fun h=>by omega) (fun _=>?_)
    have U:∀ e∈g.Edges,jO g.N e:=fun e he=>by
      obtain ⟨j,G,rfl⟩:=List.getElem_of_mem he
      exact O j G G
    rw [if_neg (fun h=>h U)] at J
    refine DC g.Edges.length (by omega) (fun i=>∀ (j:Nat) (G:j<g.Edges.length),j<i→pD g.Edges[j]) (by simp) (fun i next hi O hn=>?_) (fun next O=>?_)
    · refine AB (fun _=>?_) (fun h=>by omega)
      have hbad (Z:¬pD g.Edges[i]):Q 7:=by rwa [if_pos (fun Y=>Z (Y _ (List.getElem_mem hi)))] at J
      refine AW hi (AB (fun V=>hbad fun D=>by unfold pD at D; omega) (fun V=>AW hi (AB (fun W=>hbad fun D=>by unfold pD at D; omega) (fun W=>hn fun j G hji=>?_))))
      by_cases e:j=i
      · subst e; unfold pD; omega
      · exact O j G (by omega)
    · refine AB (fun h=>by omega) (fun _=>?_)
      rwa [if_neg (fun h=>h fun e he=>by
        obtain ⟨j,G,rfl⟩:=List.getElem_of_mem he
        exact O j G G)] at J
def kvF (e:AL):FI×Int:=((e.To,e.From),e.W)
def XN (e:AL):AL:=⟨e.To,e.From,e.W⟩
def HZ (g:AK):List AD:=(MT (SC 1 (g.Edges.map kvF)) uP).1
theorem YK {g:AK} (h:DW g=0):Canon g.N g.N (HZ g):=by
  obtain ⟨G,J,O,V,U⟩:=GJ h
  refine AbX ⟨G,J,G,J⟩ (by simpa using O) (fun t D=>?_) (fun t D=>?_)
  · obtain ⟨e,he,rfl⟩:=List.mem_map.1 D
    have:=V e he
    unfold jO at this
    unfold ZZ uP kvF
    simp only
    omega
  · obtain ⟨e,he,rfl⟩:=List.mem_map.1 D
    have:=U e he
    unfold pD at this
    unfold FL kvF
    simp only
    omega
def X6 (g:AK):Rows×Int:=if DW g=0 then (BM g.N g.N (HZ g),0) else (zR,DW g)
theorem lE {g:AK} {Q:Rows×Int→Prop} (O:Q (X6 g)):SQ g Q:=by
  unfold SQ
  unfold X6 at O
  refine GO (FF (fun h=>?_) (fun h=>?_))
  · rwa [if_neg h] at O
  rw [if_pos h] at O
  have J:=YK h
  obtain ⟨h1,h2,h3,h4,h5⟩:=GJ h
  have hv:∀ t∈g.Edges.map XN,FL t.W:=fun t V=>by
    obtain ⟨e,he,rfl⟩:=List.mem_map.1 V
    have:=h5 e he
    unfold pD at this
    unfold FL XN
    simp only
    omega
  unfold PD NX KW
  refine AV (fun (s:List AL) i=>(s,i)) 0 g.Edges.length (by omega) (fun i s=>s=(g.Edges.take i).map XN) (by omega) rfl (fun i s next _ hi U hn=>?_) (fun s next U=>?_)
  · subst U
    dsimp only
    refine AB (fun _=>?_) (fun h=>by omega)
    refine AW hi (AX rfl (BA ?_ (hn _ ?_)))
    · simp; omega
    · rw [EQ hi]; rfl
  · subst U
    dsimp only
    refine AB (fun h=>by omega) (fun _=>?_)
    rw [List.take_length]
    unfold IK
    refine kW (by omega) (by simp; omega) hv ?_
    dsimp only
    have Z:(g.Edges.map XN).map cD=g.Edges.map kvF:=by rw [List.map_map]; rfl
    rw [Z]
    have Y:=(AjT (SC 1 (g.Edges.map kvF))).1
    have D:=J.len
    have G:=J.inn
    unfold HZ at O D G
    rw [Y] at O D G
    generalize (MT (SC 1 (g.Edges.map kvF)) yL).1=es at O D G
    have hel:es.length≤65536:=by simpa using D
    refine AV (fun (s:List AD) i=>(s,i)) 0 es.length (by omega) (fun i s=>s=(es.take i).map e2t) (by omega) rfl (fun i s next _ hi U hn=>?_) (fun s next U=>?_)
    · subst U
      dsimp only
      refine AB (fun _=>?_) (fun h=>by omega)
      refine AW hi (BA ?_ (hn _ ?_))
      · simp; omega
      · rw [EQ hi]; rfl
    · subst U
      dsimp only
      refine AB (fun h=>by omega) (fun _=>?_)
      rw [List.take_length]
      refine kY h1 (by omega) (by simp; omega) (fun t V=>?_) O
      have:=G t V
      unfold ZZ at this
      exact ⟨this.1,this.2.1⟩
theorem AdS:small zR:=⟨by decide,by decide,by decide⟩
theorem AdT:¬X4 zR:=fun h=>by have:=h.sl; simp [zR] at this
def AiA (r:Int) (k:FI) (h:List (FI×Int)):Option AN:=h.foldl (fun o t=>if k=t.1 then some (match o with | some w=>EK r w (LI t.2) | none=>LI t.2) else o) none
theorem lF (r:Int) (k:FI) (D:List (FI×Int)):BN k (SC r D)=AiA r k D:=by
  suffices ∀ (D:List (FI×Int)) (l:List (FI×AN)),srt l→BN k (D.foldl (fun l t=>ins r t.1 (LI t.2) l) l)=D.foldl (fun o t=>if k=t.1 then some (match o with | some w=>EK r w (LI t.2) | none=>LI t.2) else o) (BN k l) from this D [] .nil
  intro D
  induction D with
  | nil=>intro l _; rfl
  | cons t D G=>
    intro l h
    simp only [List.foldl_cons]
    rw [G _ (jN h),qV k h]
    congr 1
    by_cases e:k=t.1
    · subst e; rfl
    · rw [if_neg e,if_neg e]
def sw (p:FI×AN):FI×AN:=((p.1.2,p.1.1),p.2)
theorem AdU (k:FI):∀ l:List (FI×AN),BN k (l.map sw)=BN (k.2,k.1) l
  | []=>rfl
  | p :: l=>by
    obtain ⟨⟨a,b⟩,w⟩:=p
    obtain ⟨c,d⟩:=k
    simp only [List.map_cons,BN,sw,AdU (c,d) l,Prod.mk.injEq]
    by_cases e:c=b∧d=a
    · rw [if_pos e,if_pos ⟨e.2,e.1⟩]
    · rw [if_neg e,if_neg fun h=>e ⟨h.2,h.1⟩]
theorem Ag6 {l:List (FI×AN)} (h:EY l):EY (l.map sw):=by
  unfold EY at *
  rw [List.nodup_iff_pairwise_ne,List.pairwise_map] at h
  rw [List.nodup_iff_pairwise_ne,List.pairwise_map,List.pairwise_map]
  refine List.Pairwise.imp (fun {a b} D e=>D ?_) h
  obtain ⟨⟨a1,a2⟩,w⟩:=a
  obtain ⟨⟨b1,b2⟩,v⟩:=b
  simp only [sw,Prod.mk.injEq] at *
  exact ⟨e.2,e.1⟩
theorem AaX (es:List AL):((SC 1 (es.map cD)).map sw).Perm (SC 1 (es.map kvF)):=by
  refine ZC (Ag6 (QS (OD _ _))) (QS (OD _ _)) fun k=>?_
  rw [AdU,lF,lF]
  unfold AiA
  rw [List.foldl_map,List.foldl_map]
  congr 1
  funext o e
  obtain ⟨c,d⟩:=k
  simp only [cD,kvF,Prod.mk.injEq]
  by_cases h:d=e.From∧c=e.To
  · rw [if_pos h,if_pos ⟨h.2,h.1⟩]
  · rw [if_neg h,if_neg fun D=>h ⟨D.2,D.1⟩]
theorem rF {v:Int} (h:FL v):JC (LI v)=(v,true):=by
  unfold JC LI
  unfold FL at h
  simp only
  rw [if_pos]
  · rw [GW]; congr 1; omega
  · split <;> omega
theorem AiB (D:List (FI×Int)) (J:∀ t∈D,FL t.2):∀ p∈SC 1 D,∃ v,FL v∧p.2=LI v:=by
  suffices ∀ (D:List (FI×Int)) (l:List (FI×AN)),(∀ t∈D,FL t.2)→(∀ p∈l,∃ v,FL v∧p.2=LI v)→∀ p∈D.foldl (fun l t=>ins 1 t.1 (LI t.2) l) l,∃ v,FL v∧p.2=LI v from this D [] J (by simp)
  have G:∀ (k:FI) (v:Int),FL v→∀ l:List (FI×AN),(∀ p∈l,∃ v,FL v∧p.2=LI v)→∀ p∈ins 1 k (LI v) l,∃ v,FL v∧p.2=LI v:=by
    intro k v J l
    induction l with
    | nil=>intro _ p hp; simp [ins] at hp; exact ⟨v,J,by rw [hp]⟩
    | cons q l O=>
      intro h p hp
      unfold ins at hp
      split at hp
      · rcases List.mem_cons.1 hp with rfl | hp
        · exact h _ (by simp)
        · exact O (fun x U=>h x (by simp [U])) p hp
      · split at hp
        · rcases List.mem_cons.1 hp with rfl | hp
          · obtain ⟨u,W,e⟩:=h q (by simp)
            unfold EK
            simp only [true_or,if_true]
            split
            · exact ⟨u,W,e⟩
            · exact ⟨v,J,rfl⟩
          · exact h p (by simp [hp])
        · rcases List.mem_cons.1 hp with rfl | hp
          · exact ⟨v,J,rfl⟩
          · exact h p hp
  intro D
  induction D with
  | nil=>intro l _ h; exact h
  | cons t D O=>intro l V h; exact O _ (fun x U=>V x (by simp [U])) (G _ _ (V t (by simp)) l h)
theorem dN {α:Type} {mk:FI→Int→α} {h:List (FI×Int)} (G:∀ t∈h,FL t.2):MT (SC 1 h) mk=((SC 1 h).map (fun p=>mk p.1 (JC p.2).1),0):=by
  refine YG (m:=[]) (.refl _) fun p hp=>?_
  obtain ⟨v,D,J⟩:=AiB h G p hp
  rw [J,rF D]
theorem AdV {r:Int} {k:FI} {v:AN} {l:List (FI×AN)} (h:∀ p∈l,NK p.1 k):ins r k v l=l++[(k,v)]:=by
  induction l with
  | nil=>rfl
  | cons p l D=>unfold ins; rw [if_pos (h p (by simp)),D fun q G=>h q (by simp [G])]; rfl
theorem AaY {r:Int} {T:List AD} (h:Srt T):SC r (T.map uO)=T.map fun t=>(key t,LI t.Val):=by
  suffices ∀ i,i≤T.length→SC r ((T.take i).map uO)=(T.take i).map fun t=>(key t,LI t.Val) by
    have:=this T.length (Nat.le_refl _)
    rwa [List.take_length] at this
  intro i
  induction i with
  | zero=>intro _; rfl
  | succ i J=>
    intro hi
    rw [EQ (show i<T.length by omega),EQ (show i<T.length by omega),jM,J (by omega),AdV]
    · rfl
    · intro p hp
      obtain ⟨t,G,rfl⟩:=List.mem_map.1 hp
      obtain ⟨j,D,rfl⟩:=List.getElem_of_mem G
      simp only [List.length_take] at D
      rw [List.getElem_take]
      exact List.pairwise_iff_getElem.1 h j i (by omega) (by omega) (by omega)
theorem AdW {v:Int} (h:FL v):JC (LI v)=(v,true):=by
  unfold JC LI
  unfold FL at h
  simp only
  rw [if_pos]
  · rw [GW]; congr 1; omega
  · split <;> omega
theorem rG {r D G:Int} {T:List AD} (h:Canon D G T) (O:∀ t∈T,FL t.Val) (V:1≤r∧r≤5):ofS r D G T=(BM D G T,0):=by
  have hf:MT (SC r (T.map uO)) uP=(T,0):=by
    rw [AaY h.srt]
    rw [YG (m:=[]) (.refl _) (fun p hp=>by obtain ⟨t,J,rfl⟩:=List.mem_map.1 hp; rw [AdW (O t J)])]
    congr 1
    rw [List.map_map]
    refine (List.map_congr_left fun t J=>?_).trans (List.map_id T)
    simp only [Function.comp_apply,AdW (O t J)]
    rfl
  have Z:=h.r0; have h2:=h.r1; have Y:=h.c0; have W:=h.c1; have h5:=h.len
  unfold ofS
  rw [if_neg (fun h=>h V),if_neg (fun h=>h ⟨Z,h2,Y,W⟩),if_neg (by omega),if_neg (fun U=>U h.inn),hf,if_neg (by simp)]
theorem AaZ {l h c d:Int} {T:List AD} (t:AD):t∈LZ l h c d T↔(⟨t.Row+l,t.Col+c,t.Val⟩:AD)∈T∧(0≤t.Row∧t.Row+l<h)∧0≤t.Col∧t.Col+c<d:=by
  unfold LZ
  simp only [List.mem_map,List.mem_filter,decide_eq_true_eq]
  constructor
  · rintro ⟨u,⟨hu,D⟩,rfl⟩
    simp only
    rw [show u.Row - l+l=u.Row by omega,show u.Col - c+c=u.Col by omega]
    exact ⟨hu,by omega,by omega,by omega⟩
  · rintro ⟨G,D⟩
    refine ⟨_,⟨G,?_⟩,?_⟩
    · simp only; omega
    · cases t; simp only [AD.mk.injEq]; exact ⟨by omega,by omega,trivial⟩
def jP (r:Int):Option AN→Option AN→Option AN
  | none,y=>y
  | some a,none=>some a
  | some a,some b=>some (EK r a b)
theorem OE (r:Int) (a:Option AN):jP r a none=a:=by cases a <;> rfl
def OR (z:Int):AN:=⟨AJ (z / 18446744073709551616),z % 18446744073709551616⟩
theorem rH (z:Int):NH (OR z):=by unfold NH OR; simp only [GW]; omega
theorem SA (x y:Int):EK 5 (OR x) (OR y)=OR (x+y):=by
  have e:EK 5 (OR x) (OR y)=⟨AJ ((OR x).Hi+(OR y).Hi+(if 18446744073709551616≤(OR x).Lo+(OR y).Lo then 1 else 0)),((OR x).Lo+(OR y).Lo) % 18446744073709551616⟩:=rfl
  rw [e]
  unfold OR
  apply LY
  · simp only [GW]; split <;> omega
  · simp only; omega
theorem X7 {v:Int} (h:FL v):LI v=OR v:=by
  unfold LI OR FL at *
  apply LY
  · simp only [GW]; split <;> omega
  · rfl
theorem Ab0 {hi lo:Int} (h0:0≤lo) (h1:lo<18446744073709551616):(⟨AJ hi,lo⟩:AN)=OR (hi*18446744073709551616+lo):=by
  unfold OR
  apply LY
  · simp only [GW]; omega
  · simp only; omega
theorem AhI {x:Int} (k:Nat) (hk:k≤64):shr .u64 x k=x / 2 ^ k:=by
  unfold shr
  rw [Int.fdiv_eq_ediv_of_nonneg _ (Int.le_of_lt (Int.pow_pos (by omega)))]
  have:min (Int.toNat (k:Int)) (IntKind.bits .u64)=k:=by simp [IntKind.bits]; omega
  rw [this]
theorem AdX {x:Int} (k:Nat) (hk:k≤64):shl .u64 x k=(x*2 ^ k) % 18446744073709551616:=by
  unfold shl
  rw [RA]
  have:min (Int.toNat (k:Int)) (IntKind.bits .u64)=k:=by simp [IntKind.bits]; omega
  rw [this]
theorem ZP (x:Int) (D:0≤x) (h:x<18446744073709551616):(BitVec.ofInt 64 x).toNat=x.toNat:=by
  rw [BitVec.toNat_ofInt]
  congr 1
  exact Int.emod_eq_of_lt D (by simpa using h)
theorem Ab1 {x y:Int} (h:0≤x) (D:x<18446744073709551616) (G:0≤y) (J:y<18446744073709551616):bor .u64 x y=((x.toNat ||| y.toNat:Nat):Int):=by
  unfold bor
  have e:(BitVec.ofInt (IntKind.bits .u64) x ||| BitVec.ofInt (IntKind.bits .u64) y).toNat=x.toNat ||| y.toNat:=by
    show (BitVec.ofInt 64 x ||| BitVec.ofInt 64 y).toNat=_
    rw [BitVec.toNat_or,ZP x h D,ZP y G J]
  rw [e,RA]
  have:x.toNat ||| y.toNat<2 ^ 64:=Nat.or_lt_two_pow (by omega) (by omega)
  omega
theorem rI {x y:Int} (h:0≤x) (D:x<18446744073709551616) (G:0≤y) (J:y<18446744073709551616):xR .u64 x y=((x.toNat &&& y.toNat:Nat):Int):=by
  unfold xR
  have e:(BitVec.ofInt (IntKind.bits .u64) x &&& BitVec.ofInt (IntKind.bits .u64) y).toNat=x.toNat &&& y.toNat:=by
    show (BitVec.ofInt 64 x &&& BitVec.ofInt 64 y).toNat=_
    rw [BitVec.toNat_and,ZP x h D,ZP y G J]
  rw [e,RA]
  have:x.toNat &&& y.toNat<2 ^ 64:=Nat.and_lt_two_pow _ (by omega)
  omega
theorem yQ {h l:Int} (J:0≤h) (O:h<4294967296) (D:0≤l) (G:l<4294967296):bor .u64 (h*4294967296) l=h*4294967296+l:=by
  rw [Ab1 (by omega) (by omega) D (by omega)]
  have e:(h*4294967296).toNat=h.toNat <<< 32:=by rw [Nat.shiftLeft_eq]; omega
  rw [e,←Nat.shiftLeft_add_eq_or_of_lt (by omega),Nat.shiftLeft_eq]
  omega
theorem ST {x:Int} {Q:Int×Int→Prop} (h0:0≤x) (h1:x<18446744073709551616) (hQ:Q (x % 4294967296,x / 4294967296)):HE x Q:=by
  unfold HE
  have D:shl .u64 x 32=(x*4294967296) % 18446744073709551616:=AdX 32 (by omega)
  have h:∀ y,shr .u64 y 32=y / 4294967296:=fun y=>AhI 32 (by omega)
  rw [D,h,h]
  rwa [show x*4294967296 % 18446744073709551616 / 4294967296=x % 4294967296 by omega]
theorem yR {a b:Int} {Q:AN→Prop} (ha0:0≤a) (Y:a<18446744073709551616) (hb0:0≤b) (hb1:b<18446744073709551616) (hQ:Q (OR (a*b))):RU a b Q:=by
  unfold RU
  have U:∀ x y:Int,0≤x→x<4294967296→0≤y→y<4294967296→0≤x*y∧x*y≤18446744065119617025:=by
    intro x y h1 h2 h3 h4
    refine ⟨Int.mul_nonneg h1 h3,?_⟩
    have:=Int.mul_le_mul (show x≤4294967295 by omega) (show y≤4294967295 by omega) h3 (by omega)
    omega
  refine ST ha0 Y (ST hb0 hb1 ?_)
  simp only
  obtain ⟨O,hx0⟩:∃ O,O=a % 4294967296:=⟨_,rfl⟩
  obtain ⟨h,hx1⟩:∃ h,h=a / 4294967296:=⟨_,rfl⟩
  obtain ⟨G,Z⟩:∃ G,G=b % 4294967296:=⟨_,rfl⟩
  obtain ⟨D,hy1⟩:∃ D,D=b / 4294967296:=⟨_,rfl⟩
  rw [←hx0,←hx1,←Z,←hy1]
  have hab:a*b=h*D*18446744073709551616+(h*G+O*D)*4294967296+O*G:=by
    have e1:a=h*4294967296+O:=by omega
    have e2:b=D*4294967296+G:=by omega
    rw [e1,e2,Int.add_mul,Int.mul_add,Int.mul_add]
    have q1:h*4294967296*(D*4294967296)=h*D*18446744073709551616:=by rw [Int.mul_assoc,Int.mul_left_comm 4294967296 D,←Int.mul_assoc h]; rfl
    have q2:h*4294967296*G=h*G*4294967296:=Int.mul_right_comm _ _ _
    have q3:O*(D*4294967296)=O*D*4294967296:=(Int.mul_assoc _ _ _).symm
    rw [q1,q2,q3]; omega
  obtain ⟨b00,c00⟩:=U O G (by omega) (by omega) (by omega) (by omega)
  obtain ⟨b01,c01⟩:=U O D (by omega) (by omega) (by omega) (by omega)
  obtain ⟨b10,c10⟩:=U h G (by omega) (by omega) (by omega) (by omega)
  obtain ⟨b11,c11⟩:=U h D (by omega) (by omega) (by omega) (by omega)
  generalize O*G=J at *
  generalize O*D=V at *
  generalize h*G=p10 at *
  generalize h*D=p11 at *
  simp only [RA]
  refine ST (by omega) (by omega) ?_
  simp only
  refine ST (by omega) (by omega) ?_
  simp only
  refine ST (by omega) (by omega) (ST (by omega) (by omega) ?_)
  simp only
  have e3:∀ y,shl .u64 y 32=(y*4294967296) % 18446744073709551616:=fun y=>AdX 32 (by omega)
  rw [e3]
  have e4:∀ y:Int,(y % 4294967296*4294967296) % 18446744073709551616=y % 4294967296*4294967296:=fun y=>by omega
  rw [e4,yQ (by omega) (by omega) (by omega) (by omega),Ab0 (by omega) (by omega)]
  rw [hab] at hQ
  have W:OR (((((p11 % 18446744073709551616+(p10 % 18446744073709551616+J % 18446744073709551616 / 4294967296) % 18446744073709551616 / 4294967296) % 18446744073709551616+(V % 18446744073709551616+(p10 % 18446744073709551616+J % 18446744073709551616 / 4294967296) % 18446744073709551616 % 4294967296) % 18446744073709551616 / 4294967296) % 18446744073709551616)*18446744073709551616+((V % 18446744073709551616+(p10 % 18446744073709551616+J % 18446744073709551616 / 4294967296) % 18446744073709551616 % 4294967296) % 18446744073709551616 % 4294967296*4294967296+J % 18446744073709551616 % 4294967296)))=OR (p11*18446744073709551616+(p10+V)*4294967296+J):=by
    unfold OR
    apply LY
    · simp only [GW]; omega
    · simp only; omega
  rw [W]; exact hQ
theorem dO {a:AN} (h:NH a):a=OR (a.Hi*18446744073709551616+a.Lo):=by
  unfold NH at h
  rw [←Ab0 (by omega) (by omega)]
  apply LY
  · simp only [GW]; omega
  · rfl
theorem AdY {x:Int} {Q:AN→Prop} (D:Q (OR (-x))):cW ⟨0,0⟩ (OR x) Q:=by
  unfold cW TK
  have key:∀ c:Int,(c=if 0<(OR x).Lo then 1 else 0)→(⟨AJ ((((0 % 18446744073709551616) - ((OR x).Hi % 18446744073709551616)) % 18446744073709551616 - c) % 18446744073709551616),(0 - (OR x).Lo) % 18446744073709551616⟩:AN)=OR (-x):=by
    intro c G
    unfold OR at *
    subst G
    apply LY
    · simp only [GW]; split <;> omega
    · simp only; omega
  simp only [RA]
  refine AB (fun h=>?_) (fun h=>?_)
  · rw [key 1 (by rw [if_pos h])]; exact D
  · rw [key 0 (by rw [if_neg h])]; exact D
theorem uT {a b:Int} {Q:AN→Prop} (J:FL a) (D:FL b) (G:Q (OR (a*b))):cX a b Q:=by
  unfold cX
  unfold FL at J D
  have U:∀ {x:Int} {K:Int→Prop},-9223372036854775808≤x∧x≤9223372036854775807→K (if x<0 then -x else x)→WD x K:=by
    intro x K hx O
    unfold WD
    simp only [RA]
    refine AB (fun h=>?_) (fun h=>?_)
    · rw [if_pos h] at O; rwa [show (0 - x % 18446744073709551616) % 18446744073709551616 = -x by omega]
    · rw [if_neg h] at O; rwa [show x % 18446744073709551616=x by omega]
  refine U J (U D ?_)
  have Y : -a*b = -(a*b):=Int.neg_mul _ _
  have V:a * -b = -(a*b):=Int.mul_neg _ _
  have W : -a * -b=a*b:=Int.neg_mul_neg _ _
  refine yR (by split <;> omega) (by split <;> omega) (by split <;> omega) (by split <;> omega) ?_
  by_cases h1:a<0 <;> by_cases h2:b<0
  · rw [if_pos h1,if_pos h2,W]
    exact AO (by simp [h1,h2]) G
  · rw [if_pos h1,if_neg h2,Y]
    exact AX (by simp [h1,h2]) (AdY (by rwa [Int.neg_neg]))
  · rw [if_neg h1,if_pos h2,V]
    exact AX (by simp [h1,h2]) (AdY (by rwa [Int.neg_neg]))
  · rw [if_neg h1,if_neg h2]
    exact AO (by simp [h1,h2]) G
def lG (r a x:Int):AN:=
  if r=2 then (if a≠0∧x≠0 then ⟨0,1⟩ else ⟨0,0⟩)
  else if r=5 then OR (a*x)
  else if r=1∨r=3∨r=4 then
    (if 4611686018427387904≤a∨4611686018427387904≤x then OR 4611686018427387904
     else if r=3 then OR a else if r=4 then OR x else if SS (OR 4611686018427387904) (OR (a+x)) then OR 4611686018427387904 else OR (a+x))
  else ⟨0,0⟩
theorem QT (r a x:Int):NH (lG r a x):=by
  have D:NH ⟨0,0⟩:=by unfold NH; simp
  have h:NH ⟨0,1⟩:=by unfold NH; simp
  unfold lG
  repeat' split
  all_goals first | exact rH _ | exact D | exact h
theorem Ag7 {x y:Int} (G : -170141183460469231731687303715884105728≤x∧x<170141183460469231731687303715884105728) (D : -170141183460469231731687303715884105728≤y∧y<170141183460469231731687303715884105728):SS (OR x) (OR y)↔x≤y:=by
  have h:∀ z:Int,-170141183460469231731687303715884105728≤z∧z<170141183460469231731687303715884105728→AJ (z / 18446744073709551616)=z / 18446744073709551616:=by
    intro z hz; rw [GW]; omega
  unfold SS OR
  simp only [h x G,h y D]
  omega
theorem uU {r a x:Int} {Q:AN→Prop} (U:FL a) (W:FL x) (D:Q (lG r a x)):cY r a x Q:=by
  unfold cY
  unfold lG at D
  have V:FL 4611686018427387904:=by unfold FL; omega
  refine CC (fun h=>?_) (fun h=>CC (fun h5=>?_) (fun h5=>?_))
  · rw [if_pos h] at D
    refine FF (fun G=>dK ?_) (fun G=>dK ?_)
    · simpa [G] using D
    · simpa [G] using D
  · rw [if_neg h,if_pos h5] at D
    exact uT U W D
  · rw [if_neg h,if_neg h5] at D
    have J:(if x > a then x else a)≥4611686018427387904↔4611686018427387904≤a∨4611686018427387904≤x:=by split <;> omega
    refine DP (fun _=>¬((1≤r∧r≤5)∧(4611686018427387904≤a∨4611686018427387904≤x))) ?_ ?_
    · rintro _ hno
      refine DP (fun p:Int×Int=>(⟨p.1,p.2⟩:AN)=OR (if r=1 then a else 0)∧(r=1∨r=4)) ?_ ?_
      · rintro ⟨p1,p2⟩ ⟨hp,O⟩
        simp only at hp ⊢
        refine GN V (GN W ?_)
        rw [hp,X7 V,X7 W]
        refine hZ (rH _) (rH _) (oY ?_)
        rw [SA]
        rw [if_pos (by omega),if_neg (by omega),if_neg (by omega)] at D
        rcases O with O | O
        · rw [if_pos O]; rwa [if_neg (by omega)] at D
        · rw [if_neg (show ¬r=1 by omega),show (0:Int)+x=x by omega]
          rw [if_pos O] at D
          unfold FL at W
          rwa [if_neg (by rw [Ag7 (by omega) (by omega)]; omega)]
      · intro k hk
        refine CC (fun G=>GN U (hk _ ⟨?_,.inl G⟩)) (fun G=>CC (fun h4=>hk _ ⟨?_,.inr h4⟩) (fun h4=>CC (fun h3=>GN U ?_) (fun h3=>?_)))
        · rw [if_pos G]; exact X7 U
        · rw [if_neg G]; decide
        · rw [if_pos (by omega),if_neg (by omega),if_pos h3] at D
          rw [X7 U]; exact D
        · rw [if_neg (by omega)] at D; exact D
    · intro k hk
      refine KQ ⟨fun G=>AB (fun Z=>GN V ?_) (fun Z=>hk _ ?_),fun G=>hk _ ?_⟩
      · have G:=of_decide_eq_true G
        rw [if_pos (by omega),if_pos (J.1 Z)] at D
        rw [X7 V]; exact D
      · exact fun Y=>Z (J.2 Y.2)
      · exact fun Y=>of_decide_eq_false G Y.1
end Go.Proofs.YtbohadngdkjljaaGreat
