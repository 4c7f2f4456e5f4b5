import Derived.Test.YtccpfgdefibdnaaGreatOK
import Derived.Test.YtccpfgdefibdnaaGreatModB
namespace Go.Proofs.YtccpfgdefibdnaaGreat
open Go Go.Fw
set_option linter.unusedVariables false
set_option linter.unusedSimpArgs false
theorem model_Same_ok {a b:Result} {Q:Bool→Prop} (hl:lenSt a.State) (hQ:Q (decide (a=b))):model_Same a b Q:=by
  unfold model_Same
  have hno:a≠b→Q false:=fun h=>by rwa [decide_eq_false h] at hQ
  refine ifP_eq (fun h1=>ifP_eq (fun h2=>prog_Same_ok hl ?_) (fun h2=>hno fun h=>h2 (by rw [h]))) (fun h1=>hno fun h=>h1 (by rw [h]))
  by_cases h3:a.State=b.State
  · have:a=b:=by cases a; cases b; simp only at h1 h2 h3; subst h1 h2 h3; rfl
    rw [decide_eq_true this] at hQ
    rw [decide_eq_true h3]; exact hQ
  · rw [decide_eq_false h3]; exact hno fun h=>h3 (by rw [h])
def PL:Plan:=⟨1,3,0,0,[]⟩
def GL:Graph:=⟨3,[⟨0,1,1⟩,⟨1,2,1⟩]⟩
def TL:List Triple:=[⟨1,0,1⟩,⟨2,1,1⟩]
def SL0:State:=⟨0,3,[0,-1,-1],[-1,-1,-1],[1]⟩
def SL1:State:=⟨0,3,[0,1,-1],[-1,0,-1],[2]⟩
def SL2:State:=⟨0,3,[0,1,2],[-1,0,1],[4]⟩
def SL3:State:=⟨0,3,[0,1,2],[-1,0,1],[0]⟩
theorem PL_right:rightPl PL=0:=by decide
theorem TL_canon:Canon 3 3 TL:=⟨by decide,by decide,by decide,by decide,by decide,by unfold Srt; decide,by decide⟩
theorem TL_vals:∀ t∈TL,inI t.Val:=by unfold inI; decide
theorem PL_mat:matS PL GL=(builtS 3 3 TL,0):=by decide
theorem seqL0:seqS PL TL 0=SL0:=by show beginS PL 0 3=SL0; decide
theorem step_of {p:Plan} {T:List Triple} {s s':State} {round:Int} {x y:Vec} {l:List Sum} (ho:outVS p s round=x) (hx:sumsR (ringPl p.Kind round) p.N p.N T x (askS p s).1 (askS p s).2=(l,0)) (hy:doneS (ringPl p.Kind round) p.N l=(y,0)) (hu:updS p s round y=s'):stepS p T s round=(s',0):=by
  have e1:stepX p T s round=(l,0):=by unfold stepX; rw [ho]; exact hx
  have e2:stepY p T s round=(y,0):=by unfold stepY; rw [e1,if_neg (by simp)]; exact hy
  unfold stepS
  rw [e2,if_neg (by simp),hu]
theorem beginL:StP PL SL0∧okSt SL0:=by
  have h:=begin_St (p:=PL) (low:=0) (high:=3) PL_right (by decide) (by decide) (by decide)
  rw [show beginS PL 0 3=SL0 by decide] at h
  exact h
theorem updL {s s':State} {round:Int} {y:Vec} (h:StP PL s∧okSt s) (hu:updS PL s round y=s'):StP PL s'∧okSt s':=by
  have:=upd_St (round:=round) (y:=y) h.1 h.2
  rw [hu] at this
  exact ⟨this.1,this.2.1⟩
theorem up1:updS PL SL0 1 ⟨3,[⟨1,0⟩]⟩=SL1:=by
  unfold updS; rw [show sureSt PL SL0=SL0 from if_pos beginL.1]; decide
theorem st1:StP PL SL1∧okSt SL1:=updL beginL up1
theorem up2:updS PL SL1 2 ⟨3,[⟨2,1⟩]⟩=SL2:=by
  unfold updS; rw [show sureSt PL SL1=SL1 from if_pos st1.1]; decide
theorem st2:StP PL SL2∧okSt SL2:=updL st1 up2
theorem up3:updS PL SL2 3 ⟨3,[]⟩=SL3:=by
  unfold updS; rw [show sureSt PL SL2=SL2 from if_pos st2.1]; decide
theorem st3:StP PL SL3∧okSt SL3:=updL st2 up3
theorem go1:stepS PL TL SL0 1=(SL1,0):=step_of (x:=⟨3,[⟨0,0⟩]⟩) (l:=[⟨1,⟨0,0⟩⟩]) (y:=⟨3,[⟨1,0⟩]⟩) (by unfold outVS; rw [show sureSt PL SL0=SL0 from if_pos beginL.1]; decide) (by decide) (by decide) up1
theorem go2:stepS PL TL SL1 2=(SL2,0):=step_of (x:=⟨3,[⟨1,1⟩]⟩) (l:=[⟨2,⟨0,1⟩⟩]) (y:=⟨3,[⟨2,1⟩]⟩) (by unfold outVS; rw [show sureSt PL SL1=SL1 from if_pos st1.1]; decide) (by decide) (by decide) up2
theorem go3:stepS PL TL SL2 3=(SL3,0):=step_of (x:=⟨3,[⟨2,2⟩]⟩) (l:=[]) (y:=⟨3,[]⟩) (by unfold outVS; rw [show sureSt PL SL2=SL2 from if_pos st2.1]; decide) (by decide) (by decide) up3
theorem seqL1:seqS PL TL 1=SL1:=by show (stepS PL TL (seqS PL TL 0) 1).1=_; rw [seqL0,go1]
theorem seqL2:seqS PL TL 2=SL2:=by show (stepS PL TL (seqS PL TL 1) 2).1=_; rw [seqL1,go2]
theorem seqL3:seqS PL TL 3=SL3:=by show (stepS PL TL (seqS PL TL 2) 3).1=_; rw [seqL2,go3]
theorem lvL0:liveS PL SL0 0=1:=by unfold liveS; rw [show sureSt PL SL0=SL0 from if_pos beginL.1]; decide
theorem lvL1:liveS PL SL1 1=1:=by unfold liveS; rw [show sureSt PL SL1=SL1 from if_pos st1.1]; decide
theorem lvL2:liveS PL SL2 2=1:=by unfold liveS; rw [show sureSt PL SL2=SL2 from if_pos st2.1]; decide
theorem lvL3:liveS PL SL3 3=0:=by unfold liveS; rw [show sureSt PL SL3=SL3 from if_pos st3.1]; decide
theorem stop0 {limit:Int} (h:limit≠0):stopS PL TL limit 0=0:=by
  unfold stopS
  rw [seqL0,if_neg (by rw [show ((0:Nat):Int)=0 from rfl,lvL0]; decide),if_neg (fun h'=>h h'.symm),if_neg (by rw [show ((0:Nat):Int)+1=1 from rfl,go1]; simp)]
theorem stop1 {limit:Int} (h:limit≠1):stopS PL TL limit 1=0:=by
  unfold stopS
  rw [seqL1,if_neg (by rw [show ((1:Nat):Int)=1 from rfl,lvL1]; decide),if_neg (fun h'=>h h'.symm),if_neg (by rw [show ((1:Nat):Int)+1=2 from rfl,go2]; simp)]
theorem stop2 {limit:Int} (h:limit≠2):stopS PL TL limit 2=0:=by
  unfold stopS
  rw [seqL2,if_neg (by rw [show ((2:Nat):Int)=2 from rfl,lvL2]; decide),if_neg (fun h'=>h h'.symm),if_neg (by rw [show ((2:Nat):Int)+1=3 from rfl,go3]; simp)]
theorem runL9:MRun PL GL 9 TL 3 1:=⟨PL_right,TL_canon,TL_vals,PL_mat,by decide,by decide,fun k hk=>by
    rcases (show k=0∨k=1∨k=2 by omega) with rfl | rfl | rfl
    · exact stop0 (by decide)
    · exact stop1 (by decide)
    · exact stop2 (by decide),by
    unfold stopS
    rw [seqL3,if_pos (by rw [show ((3:Nat):Int)=3 from rfl,lvL3])],by decide⟩
theorem runL1:MRun PL GL 1 TL 1 2:=⟨PL_right,TL_canon,TL_vals,PL_mat,by decide,by decide,fun k hk=>by
    rcases (show k=0 by omega) with rfl
    exact stop0 (by decide),by
    unfold stopS
    rw [seqL1,if_neg (by rw [show ((1:Nat):Int)=1 from rfl,lvL1]; decide),if_pos (show ((1:Nat):Int)=1 from rfl)],by decide⟩
theorem live22_ok {Q:Bool→Prop} (hQ:Q true):law22_live Q:=by
  unfold law22_live
  refine model_Run_ok (p:=PL) (g:=GL) runL9 (model_Trace_ok (p:=PL) (g:=GL) runL1 (model_Run_bad (p:=PL) (g:=GL) (by decide) ?_))
  rw [show checkS PL GL (-1)=3 by decide]
  have e3:(lastS PL TL 3 1).State=SL3:=seqL3
  have hls:lenSt (lastS PL TL 3 1).State:=by rw [e3]; unfold lenSt; decide
  refine ifP_pos rfl (ifP_pos rfl (ifP_pos rfl ?_))
  rw [e3]
  refine eqV_ok (by decide) (ifP_pos (by decide) (ifP_pos rfl (ifP_pos (by simp [listS_len]) (ifP_pos rfl (model_Check_ok (p:=PL) (g:=GL) ?_)))))
  rw [show checkS PL GL 0=0 by decide]
  refine ifP_pos rfl (model_Check_ok (p:=PL) ?_)
  rw [show checkS PL ({ N:=0,Edges:=([]:List Edge) }:Graph) 0=4 by decide]
  refine ifP_pos rfl (model_Same_ok hls (ifP_pos (by simp) (model_Same_ok hls ?_)))
  rw [decide_eq_false (by intro h; cases h)]
  exact hQ
theorem Graph_ok {a:Graph} {Q:Graph→Prop} (hQ:∀ g:Graph,0≤g.N∧g.N≤23→g.Edges.length≤60→rightG g=0→Q g):law21_Graph a Q:=by
  unfold law21_Graph
  refine Within_ok (fun h=>by omega) (fun _ n h0 h1=>?_)
  have hend:∀ es:List Edge,es.length≤60→goodE n es→Q ⟨n,es⟩:=fun es he hg=>hQ _ ⟨h0,by simp only; omega⟩ he (good_right (by simp only; omega) (by simp only; omega) hg)
  refine range_intro (fun (s:List Edge) i=>(s,i)) 0 (min a.Edges.length 60) (by omega) (fun i s=>s.length≤i∧goodE n s) (by omega) (s0:=[]) ⟨by simp,by intro e he; simp at he⟩ (fun i s next _ hi hm hn=>?_) (fun s next hm=>?_)
  · dsimp only
    refine ifP_dec (fun _=>ifP_dec (fun _=>ifP_dec (fun hn0=>idxP_nat (by omega) ?_) (fun _=>hend s (by omega) hm.2)) (fun h=>by omega)) (fun h=>by omega)
    refine Within_ok (fun h=>by omega) fun _ u u0 u1=>Within_ok (fun h=>by omega) fun _ v v0 v1=>appP_intro (by simp; omega) (hn _ ⟨by simp; omega,fun e he=>?_⟩)
    rcases List.mem_append.1 he with h | h
    · exact hm.2 e h
    · rw [List.mem_singleton.1 h]
      have:=bnd_le (a.Edges[i]'(by omega)).W (m:=2147483647) (by omega)
      refine ⟨⟨⟨u0,u1⟩,v0,v1⟩,?_⟩
      unfold wOk
      simp only; omega
  · dsimp only
    exact ifP_dec (fun _=>ifP_dec (fun _=>by omega) (fun _=>hend s (by omega) hm.2)) (fun _=>hend s (by omega) hm.2)
theorem case_ok {a:Law22_Case} {Q:Plan×Graph×Int→Prop} (h:okLaw22_Case a) (hQ:∀ p g lim,rightPl p=0→g.N=p.N→0≤g.N∧g.N≤23→g.Edges.length≤60→rightG g=0→0≤lim∧lim≤39→Q (p,g,lim)):law22_Case_Make a Q:=by
  unfold law22_Case_Make
  have hb:=bounds_u8 h.2.2
  refine Graph_ok fun g hg hl hr=>plan_ok (by omega) fun p hp hN=>?_
  have e:(w64 a.Limit).tmod 40=a.Limit % 40:=by rw [w64_id (by omega) (by omega),Int.tmod_eq_emod_of_nonneg (by omega)]
  rw [e]
  exact hQ p g _ hp hN.symm hg hl hr (by omega)
theorem case_T {p:Plan} {g:Graph} {lim:Int} (hp:rightPl p=0) (hn:g.N=p.N) (hl:g.Edges.length≤60) (hg:rightG g=0) (hlim:0≤lim∧lim≤8192):∃ n st,MRun p g lim (graphT (namG p g)) n st:=by
  obtain ⟨N,hN⟩:∃ N:Nat,p.N=N:=⟨p.N.toNat,by have:=(rightPl_zero hp).2.1; omega⟩
  have hP:=mat_P (n:=N) hp hn hN hg (by omega)
  obtain ⟨n,st,E⟩:=ends_ex p (graphT (namG p g)) hlim.1
  exact ⟨n,st,hp,by rw [hN]; exact hP.can,hP.ini,(mat_is hp hn hg (by omega)).1,hlim,E⟩
theorem ModelEnds_ok (a0:Law22_Case) (h0:okLaw22_Case a0):law22_ModelEnds a0 (fun r=>r=true):=by
  unfold law22_ModelEnds
  refine case_ok h0 fun p g lim hp hn hN hl hg hlim=>?_
  have hz:=rightPl_zero hp
  obtain ⟨N,hNN⟩:∃ N:Nat,p.N=N:=⟨p.N.toNat,by omega⟩
  have hfin:∀ m,m=mostS p N→model_Run p g m fun r83=>law22_live fun r104=>ifP r104 (ifP (r83.2==0) (ifP (decide (r83.1.Rounds≤m)) (ifP (r83.1.Status==1) ((fun r=>r=true) true) (ifP (p.Kind==4) ((fun r=>r=true) (r83.1.Status==3)) ((fun r=>r=true) false))) ((fun r=>r=true) false)) ((fun r=>r=true) false)) ((fun r=>r=true) false):=by
    rintro m rfl
    have hm:0≤mostS p N∧mostS p N≤8192:=by
      unfold mostS
      split
      · rename_i h4
        have:=hz.2.2.2.1 h4
        omega
      · split <;> omega
    obtain ⟨n,st,R⟩:=case_T hp hn hl hg hm
    have hle:=R.en.le
    refine model_Run_ok R (live22_ok (ifP_pos rfl (ifP_pos rfl (ifP_pos ?_ ?_))))
    · exact decide_eq_true hle
    have:=ends_done hp hNN (by omega) (mat_P hp hn hNN hg (by omega)) R.en
    show ifP (st==1) _ _
    refine ifP_eq (fun _=>rfl) (fun h1=>?_)
    rcases this with h | ⟨h4,h3⟩
    · exact absurd h h1
    · refine ifP_pos (by simpa using h4) ?_
      show (st==3)=true
      simpa using h3
  unfold joinP
  dsimp only
  have e5:w64 (2*g.N)=2*g.N:=w64_id (by omega) (by omega)
  have e6:w64 (g.N+1)=g.N+1:=w64_id (by omega) (by omega)
  rw [e5,e6]
  refine ifP_eq (fun h5=>?_) (fun h5=>?_)
  · refine ifP_eq (fun h4=>by omega) (fun h4=>hfin _ ?_)
    unfold mostS
    rw [if_neg h4,if_pos h5]; omega
  · refine ifP_eq (fun h4=>hfin _ ?_) (fun h4=>hfin _ ?_)
    · unfold mostS; rw [if_pos h4]
    · unfold mostS; rw [if_neg h4,if_neg h5]; omega
end Go.Proofs.YtccpfgdefibdnaaGreat
